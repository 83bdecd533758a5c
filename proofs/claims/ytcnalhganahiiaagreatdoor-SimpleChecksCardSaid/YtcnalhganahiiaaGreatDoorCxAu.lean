/- Regions whose makers have their numbers before: any order comes to the same. -/
import Derived.Test.YtcnalhganahiiaaGreatDoorCxW
import Derived.Orders
section
namespace Go.Cx
noncomputable section
open Go.RowKit (Below)
set_option linter.unusedSimpArgs false
theorem opM_congr {E : En} {hs : List Nat} {o : Oper} {fr fr' : List AV} {hp : List Ob} (h : ∀ x ∈ o.op.operands.toList, evalA fr x = evalA fr' x) : opM hs E o fr hp = opM hs E o fr' hp := by
  have : ∀ c, ftOf E o fr hp c = ftOf E o fr' hp c := fun c => ftOf_congr h (fun _ _ => rfl)
  unfold opM
  simp only [opF_congr h, this]
theorem ftM_congr {E : En} {hs : List Nat} {o : Oper} {fr fr' : List AV} {hp h2 : List Ob} {c : Cls} (h : ∀ x ∈ o.op.operands.toList, evalA fr x = evalA fr' x) (hR : ∀ p, (ftM hp.length hs (ftOf E o fr' hp c)).rds p → pl h2 p = pl hp p) :
    ftM h2.length hs (ftOf E o fr h2 c) = ftM hp.length hs (ftOf E o fr' hp c) := by
  rw [ftOf_congr h (fun p hp' => hR p ?_)]
  · cases hf : (ftOf E o fr' hp c).f with
    | none => simp [ftM, hf]
    | some f =>
      have : pl h2 .len = pl hp .len := hR .len (by unfold Ft.rds ftM; rw [hf]; exact ⟨_, List.mem_cons_self, trivial⟩)
      have : h2.length = hp.length := by simpa [pl] using this
      rw [this]
  · unfold Ft.rds ftM at *
    cases hf : (ftOf E o fr' hp c).f with
    | none => rw [hf] at hp'; simpa [hf] using hp'
    | some f => rw [hf] at hp'; obtain ⟨s, h1, h2⟩ := hp'; exact ⟨s, List.mem_cons_of_mem _ h1, h2⟩
namespace M
def stepF (hs : List Nat) (E : En) (all : List Oper) (o : Oper) (st : St) : Option (St × Ft) :=
  match o.guard with
  | none => (opM hs E o st.fr st.hp).map fun r => (⟨putA st.fr o.dst r.1, r.2.1⟩, ftM st.hp.length hs (ftOf E o st.fr st.hp r.2.2))
  | some (j, want) => match (all[j]?).bind (·.dst) with
    | some d => match st.fr.getD d .junk with
      | .bool b => if b = want then (opM hs E o st.fr st.hp).map fun r => (⟨putA st.fr o.dst r.1, r.2.1⟩, ftM st.hp.length hs (ftOf E o st.fr st.hp r.2.2)) else some (⟨putA st.fr o.dst (.tuple []), st.hp⟩, ⟨.pure, none⟩)
      | .tuple [] => some (⟨putA st.fr o.dst (.tuple []), st.hp⟩, ⟨.pure, none⟩)
      | _ => none
    | none => none
theorem stepF_spec {hs : List Nat} {E : En} (hE : EnOK E) {all : List Oper} {o : Oper} {s s1 : St} {c : Ft} (h : stepF hs E all o s = some (s1, c)) :
    ∃ v, s1.fr = putA s.fr o.dst v ∧ ∀ st : St, (∀ t ∈ opReads all o, st.fr[t]? = s.fr[t]?) → (∀ p, c.rds p → pl st.hp p = pl s.hp p) →
      ∃ h2, stepF hs E all o st = some (⟨putA st.fr o.dst v, h2⟩, c) ∧ ∀ p, (c.wrs p → pl h2 p = pl s1.hp p) ∧ (¬ c.wrs p → pl h2 p = pl st.hp p) := by
  have ops : ∀ st : St, (∀ t ∈ opReads all o, st.fr[t]? = s.fr[t]?) → ∀ x ∈ o.op.operands.toList, evalA st.fr x = evalA s.fr x := by
    intro st hst x hx
    refine eval_congr fun t ht => hst t ?_
    subst ht
    simp only [opReads, List.mem_append, List.mem_filterMap]
    left; exact ⟨_, hx, rfl⟩
  have act : ∀ {c : Ft}, ((opM hs E o s.fr s.hp).map fun r => ((⟨putA s.fr o.dst r.1, r.2.1⟩ : St), ftM s.hp.length hs (ftOf E o s.fr s.hp r.2.2))) = some (s1, c) →
      ∃ v, s1.fr = putA s.fr o.dst v ∧ ∀ st : St, (∀ t ∈ opReads all o, st.fr[t]? = s.fr[t]?) → (∀ p, c.rds p → pl st.hp p = pl s.hp p) →
      ∃ h2, ((opM hs E o st.fr st.hp).map fun r => ((⟨putA st.fr o.dst r.1, r.2.1⟩ : St), ftM st.hp.length hs (ftOf E o st.fr st.hp r.2.2))) = some (⟨putA st.fr o.dst v, h2⟩, c) ∧ ∀ p, (c.wrs p → pl h2 p = pl s1.hp p) ∧ (¬ c.wrs p → pl h2 p = pl st.hp p) := by
    intro c hh
    simp only [Option.map_eq_some_iff] at hh
    obtain ⟨⟨v, hp', c'⟩, h1, h2⟩ := hh
    simp only [Prod.mk.injEq] at h2
    obtain ⟨rfl, rfl⟩ := h2
    have k := opM_frame hE h1
    refine ⟨v, rfl, fun st h3 h4 => ?_⟩
    obtain ⟨h2', k1, k2⟩ := k st.hp h4
    refine ⟨h2', ?_, k2⟩
    rw [opM_congr (ops st h3), k1]
    simp only [Option.map_some, ftM_congr (ops st h3) h4]
  have nop : ∀ st : St, ∀ p, ((⟨.pure, none⟩ : Ft).wrs p → pl st.hp p = pl s.hp p) ∧ (¬ (⟨.pure, none⟩ : Ft).wrs p → pl st.hp p = pl st.hp p) := fun st p => ⟨fun e => by simp [Ft.wrs, Cls.isWrite] at e, fun _ => rfl⟩
  unfold stepF at h
  split at h
  · rename_i hg
    obtain ⟨v, h1, h3⟩ := act h
    exact ⟨v, h1, fun st h4 h5 => by unfold stepF; rw [hg]; exact h3 st h4 h5⟩
  · rename_i j want hg
    split at h
    · rename_i d hd
      split at h
      · rename_i b hb
        have slot : ∀ st : St, (∀ t ∈ opReads all o, st.fr[t]? = s.fr[t]?) → st.fr.getD d .junk = .bool b := by
          intro st hst
          have := hst d (by simp only [opReads, hg, hd]; simp)
          rw [List.getD_eq_getElem?_getD, this, ← List.getD_eq_getElem?_getD]; exact hb
        split at h
        · rename_i e
          obtain ⟨v, h1, h3⟩ := act h
          exact ⟨v, h1, fun st h4 h5 => by unfold stepF; simp only [hg, hd, slot st h4, if_pos e]; exact h3 st h4 h5⟩
        · rename_i e
          simp only [Option.some.injEq, Prod.mk.injEq] at h
          obtain ⟨rfl, rfl⟩ := h
          exact ⟨.tuple [], rfl, fun st h4 h5 => ⟨st.hp, by unfold stepF; simp only [hg, hd, slot st h4, if_neg e], nop st⟩⟩
      · rename_i hb
        have slot : ∀ st : St, (∀ t ∈ opReads all o, st.fr[t]? = s.fr[t]?) → st.fr.getD d .junk = .tuple [] := by
          intro st hst
          have := hst d (by simp only [opReads, hg, hd]; simp)
          rw [List.getD_eq_getElem?_getD, this, ← List.getD_eq_getElem?_getD]; exact hb
        simp only [Option.some.injEq, Prod.mk.injEq] at h
        obtain ⟨rfl, rfl⟩ := h
        exact ⟨.tuple [], rfl, fun st h4 h5 => ⟨st.hp, by unfold stepF; simp only [hg, hd, slot st h4], nop st⟩⟩
      · simp at h
    · simp at h
theorem stepF_keeps {hs : List Nat} {E : En} (hE : EnOK E) {all : List Oper} {o : Oper} {s s1 : St} {c : Ft} (h : stepF hs E all o s = some (s1, c)) {p : Pl} (hp : ¬ c.wrs p) : pl s1.hp p = pl s.hp p := by
  obtain ⟨v, h1, h3⟩ := stepF_spec hE h
  obtain ⟨h2, k1, k2⟩ := h3 s (fun _ _ => rfl) (fun _ _ => rfl)
  rw [h] at k1
  simp only [Option.some.injEq, Prod.mk.injEq] at k1
  have := (k2 p).2 hp
  rw [k1.1]
  exact this
variable {hf : Nat → List Nat} {E : En} {ops : Array Oper} {S : Nat → St} {cls : List Ft}
structure Trace (hf : Nat → List Nat) (E : En) (ops : Array Oper) (S : Nat → St) (cls : List Ft) : Prop where
  len : cls.length = ops.toList.length
  step : ∀ i o, ops.toList[i]? = some o → ∃ c, cls[i]? = some c ∧ stepF (hf i) E ops.toList o (S i) = some (S (i + 1), c)
  fine : fine ops.toList cls = true
theorem Trace.slot (hE : EnOK E) (T : Trace hf E ops S cls) {i : Nat} {o : Oper} (ho : ops.toList[i]? = some o) {t : Nat} (ht : o.dst ≠ some t) : (S (i + 1)).fr[t]? = (S i).fr[t]? := by
  obtain ⟨c, hc, hs⟩ := T.step i o ho
  obtain ⟨v, h1, _⟩ := stepF_spec hE hs
  rw [h1, put_get ht]
theorem Trace.flen (hE : EnOK E) (T : Trace hf E ops S cls) {i : Nat} (hi : i ≤ ops.toList.length) : (S i).fr.length = (S 0).fr.length := by
  induction i with
  | zero => rfl
  | succ i ih =>
    have hlt : i < ops.toList.length := by omega
    obtain ⟨c, hc, hs⟩ := T.step i _ (List.getElem?_eq_getElem hlt)
    obtain ⟨v, h1, _⟩ := stepF_spec hE hs
    rw [h1, put_len, ih (by omega)]
theorem Trace.slots (hE : EnOK E) (T : Trace hf E ops S cls) {t : Nat} : ∀ (d i : Nat), i + d ≤ ops.toList.length → (∀ j, i ≤ j → j < i + d → ¬ Wr ops j t) → (S (i + d)).fr[t]? = (S i).fr[t]?
  | 0, i, _, _ => rfl
  | d + 1, i, hn, hw => by
    have hlt : i + d < ops.toList.length := by omega
    have ho := List.getElem?_eq_getElem hlt
    rw [show i + (d + 1) = (i + d) + 1 by omega, Trace.slot hE T ho (fun e => hw (i + d) (by omega) (by omega) ⟨_, ho, e⟩)]
    exact Trace.slots hE T d i (by omega) (fun j h1 h2 => hw j h1 (by omega))
theorem Trace.heaps (hE : EnOK E) (T : Trace hf E ops S cls) {p : Pl} : ∀ (d i : Nat), i + d ≤ ops.toList.length → (∀ j, i ≤ j → j < i + d → ¬ WrP cls j p) → pl (S (i + d)).hp p = pl (S i).hp p
  | 0, i, _, _ => rfl
  | d + 1, i, hn, hw => by
    have hlt : i + d < ops.toList.length := by omega
    obtain ⟨c, hc, hs⟩ := T.step (i + d) _ (List.getElem?_eq_getElem hlt)
    rw [show i + (d + 1) = (i + d) + 1 by omega, stepF_keeps hE hs (fun e => hw (i + d) (by omega) (by omega) ⟨c, hc, e⟩)]
    exact Trace.heaps hE T d i (by omega) (fun j h1 h2 => hw j h1 (by omega))
theorem Trace.next (hE : EnOK E) (T : Trace hf E ops S cls) {In : Nat → Prop} (hIn : ∀ j, In j → j < ops.toList.length) (hcl : ∀ k o, ops.toList[k]? = some o → In k → ∀ e ∈ o.after.toList, Region.binds .any e = true → In e.on) {st : St} (h : Inv ops S cls In st)
    {i : Nat} {o : Oper} (ho : ops.toList[i]? = some o) (hi : ¬ In i) (hp : ∀ e ∈ o.after.toList, Region.binds .any e = true → In e.on) :
    ∃ st' c, stepF (hf i) E ops.toList o st = some (st', c) ∧ Inv ops S cls (fun j => In j ∨ j = i) st' := by
  obtain ⟨c, hc, hs⟩ := T.step i o ho
  obtain ⟨v, hv, hrun⟩ := stepF_spec hE hs
  have hilt : i < ops.toList.length := length_of_get ho
  have cget : ∀ j, j < ops.toList.length → ∃ cj, cls[j]? = some cj := fun j hj => ⟨_, List.getElem?_eq_getElem (by rw [T.len]; exact hj)⟩
  -- what is ahead of i lies in the set
  have ahead := closure_in ops.toList In hcl i o ho hp
  have fi := (fine_spec T.fine ho hc).2
  -- an operation behind i that lies in the set has i ahead of it: there is none that clashes
  have behind : ∀ j b cj, i < j → In j → ops.toList[j]? = some b → cls[j]? = some cj → clash ops.toList o b c cj = false := by
    intro j b cj hj hInj hb hcj
    rcases (fine_spec T.fine hb hcj).2 i o c hj ho hc with hm | hm
    · exact absurd (closure_in ops.toList In hcl j b hb (hcl j b hb hInj) i hm) hi
    · exact hm
  have before : ∀ j b cj, j < i → ¬ In j → ops.toList[j]? = some b → cls[j]? = some cj → clash ops.toList b o cj c = false := by
    intro j b cj hj hInj hb hcj
    rcases fi j b cj hj hb hcj with hm | hm
    · exact absurd (ahead j hm) hInj
    · exact hm
  have noW : ∀ {t j}, (t ∈ opReads ops.toList o ∨ o.dst = some t) → Wr ops j t → In j → j < i := by
    intro t j ht hw hInj
    obtain ⟨b, hb, hd⟩ := hw
    rcases Nat.lt_trichotomy j i with h1 | h1 | h1
    · exact h1
    · subst h1; exact absurd hInj hi
    · obtain ⟨cj, hcj⟩ := cget j (length_of_get hb)
      have := behind j b cj h1 hInj hb hcj
      simp only [clash, hd, Bool.or_eq_false_iff] at this
      rcases ht with ht | ht
      · have h2 := this.1.1.2
        rw [List.contains_eq_mem] at h2
        simp [ht] at h2
      · have h2 := this.1.1.1
        simp [ht] at h2
  have allW : ∀ {t j}, t ∈ opReads ops.toList o → Wr ops j t → j < i → In j := by
    intro t j ht hw hj
    obtain ⟨b, hb, hd⟩ := hw
    by_cases hIn' : In j
    · exact hIn'
    · obtain ⟨cj, hcj⟩ := cget j (length_of_get hb)
      have := before j b cj hj hIn' hb hcj
      simp only [clash, hd, Bool.or_eq_false_iff] at this
      have h2 := this.1.1.1.1
      rw [List.contains_eq_mem] at h2
      simp [ht] at h2
  have slots : ∀ t ∈ opReads ops.toList o, st.fr[t]? = (S i).fr[t]? := by
    intro t ht
    rcases h.slot t with ⟨j, hj, hw, hlast, he⟩ | ⟨hno, he⟩
    · have hji := noW (.inl ht) hw hj
      rw [he]
      have := Trace.slots hE T (t := t) (i - (j + 1)) (j + 1) (by omega) (fun k h1 h2 hw' => by
        have := hlast k (allW ht hw' (by omega)) hw'
        omega)
      rw [show j + 1 + (i - (j + 1)) = i by omega] at this; exact this.symm
    · rw [he]
      have := Trace.slots hE T (t := t) i 0 (by omega) (fun k h1 h2 hw' => hno k (allW ht hw' (by omega)) hw')
      rw [Nat.zero_add] at this
      exact this.symm
  have noP : ∀ {p j}, (c.rds p ∨ c.wrs p) → WrP cls j p → In j → j < i := by
    intro p j ht hw hInj
    obtain ⟨cj, hcj, hwj⟩ := hw
    rcases Nat.lt_trichotomy j i with h1 | h1 | h1
    · exact h1
    · subst h1; exact absurd hInj hi
    · have hb := List.getElem?_eq_getElem (hIn j hInj)
      have := behind j _ cj h1 hInj hb hcj
      simp only [clash, Bool.or_eq_false_iff] at this
      exact absurd ⟨hwj, ht⟩ (meet1_spec this.2 p)
  have allP : ∀ {p j}, c.rds p → WrP cls j p → j < i → In j := by
    intro p j ht hw hj
    obtain ⟨cj, hcj, hwj⟩ := hw
    by_cases hIn' : In j
    · exact hIn'
    · have hb := List.getElem?_eq_getElem (show j < ops.toList.length by omega)
      have := before j _ cj hj hIn' hb hcj
      simp only [clash, Bool.or_eq_false_iff] at this
      exact absurd ⟨hwj, .inl ht⟩ (meet1_spec this.1.2 p)
  have heap : ∀ p, c.rds p → pl st.hp p = pl (S i).hp p := by
    intro p ht
    rcases h.heap p with ⟨j, hj, hw, hlast, he⟩ | ⟨hno, he⟩
    · have hji := noP (.inl ht) hw hj
      rw [he]
      have := Trace.heaps hE T (p := p) (i - (j + 1)) (j + 1) (by omega) (fun k h1 h2 hw' => by
        have := hlast k (allP ht hw' (by omega)) hw'
        omega)
      rw [show j + 1 + (i - (j + 1)) = i by omega] at this; exact this.symm
    · rw [he]
      have := Trace.heaps hE T (p := p) i 0 (by omega) (fun k h1 h2 hw' => hno k (allP ht hw' (by omega)) hw')
      rw [Nat.zero_add] at this
      exact this.symm
  obtain ⟨h2', hst, hpl⟩ := hrun st slots heap
  refine ⟨_, c, hst, ?_, ?_, ?_⟩
  · simp only [put_len]; exact h.len
  · intro t
    by_cases ht : o.dst = some t
    · left
      refine ⟨i, .inr rfl, ⟨o, ho, ht⟩, fun j' hj' hw' => ?_, ?_⟩
      · rcases hj' with hj' | rfl
        · exact Nat.le_of_lt (noW (.inr ht) hw' hj')
        · exact Nat.le_refl _
      · simp only [hv, ht, putA, List.getElem?_set]
        have l1 : (S i).fr.length = st.fr.length := by rw [h.len, Trace.flen hE T (by omega)]
        simp [l1]
    · simp only [put_get ht]
      rcases h.slot t with ⟨j, hj, hw, hlast, he⟩ | ⟨hno, he⟩
      · refine .inl ⟨j, .inl hj, hw, fun j' hj' hw' => ?_, he⟩
        rcases hj' with hj' | rfl
        · exact hlast j' hj' hw'
        · obtain ⟨b, hb, hd⟩ := hw'
          rw [ho] at hb; cases hb
          exact absurd hd ht
      · refine .inr ⟨fun j hj hw => ?_, he⟩
        rcases hj with hj | rfl
        · exact hno j hj hw
        · obtain ⟨b, hb, hd⟩ := hw
          rw [ho] at hb; cases hb
          exact ht hd
  · intro p
    by_cases ht : c.wrs p
    · left
      refine ⟨i, .inr rfl, ⟨c, hc, ht⟩, fun j' hj' hw' => ?_, (hpl p).1 ht⟩
      rcases hj' with hj' | rfl
      · exact Nat.le_of_lt (noP (.inr ht) hw' hj')
      · exact Nat.le_refl _
    · have e := (hpl p).2 ht
      rcases h.heap p with ⟨j, hj, hw, hlast, he⟩ | ⟨hno, he⟩
      · refine .inl ⟨j, .inl hj, hw, fun j' hj' hw' => ?_, e.trans he⟩
        rcases hj' with hj' | rfl
        · exact hlast j' hj' hw'
        · obtain ⟨b, hb, hd⟩ := hw'
          rw [hc] at hb; cases hb
          exact absurd hd ht
      · refine .inr ⟨fun j hj hw => ?_, e.trans he⟩
        rcases hj with hj | rfl
        · exact hno j hj hw
        · obtain ⟨b, hb, hd⟩ := hw
          rw [hc] at hb; cases hb
          exact ht hd
theorem Trace.all (hE : EnOK E) (T : Trace hf E ops S cls) {In : Nat → Prop} (hIn : ∀ j, j < ops.toList.length → In j) {st : St} (h : Inv ops S cls In st) : st = S ops.toList.length := by
  have e1 : st.fr = (S ops.toList.length).fr := by
    apply List.ext_getElem?
    intro t
    rcases h.slot t with ⟨j, hj, hw, hlast, he⟩ | ⟨hno, he⟩
    · obtain ⟨b, hb, hd⟩ := hw
      have hlt := length_of_get hb
      rw [he]
      have := Trace.slots hE T (t := t) (ops.toList.length - (j + 1)) (j + 1) (by omega) (fun k h1 h2 hw' => by
        have := hlast k (hIn k (by omega)) hw'
        omega)
      rw [show j + 1 + (ops.toList.length - (j + 1)) = ops.toList.length by omega] at this; exact this.symm
    · rw [he]
      have := Trace.slots hE T (t := t) ops.toList.length 0 (by omega) (fun k h1 h2 hw' => hno k (hIn k (by omega)) hw')
      rw [Nat.zero_add] at this
      exact this.symm
  have e2 : st.hp = (S ops.toList.length).hp := by
    apply pl_ext
    intro p
    rcases h.heap p with ⟨j, hj, hw, hlast, he⟩ | ⟨hno, he⟩
    · obtain ⟨b, hb, hd⟩ := hw
      have hlt := length_of_get hb
      rw [T.len] at hlt
      rw [he]
      have := Trace.heaps hE T (p := p) (ops.toList.length - (j + 1)) (j + 1) (by omega) (fun k h1 h2 hw' => by
        have := hlast k (hIn k (by omega)) hw'
        omega)
      rw [show j + 1 + (ops.toList.length - (j + 1)) = ops.toList.length by omega] at this; exact this.symm
    · rw [he]
      have := Trace.heaps hE T (p := p) ops.toList.length 0 (by omega) (fun k h1 h2 hw' => hno k (hIn k (by omega)) hw')
      rw [Nat.zero_add] at this
      exact this.symm
  cases st
  cases hS : S ops.toList.length
  rw [hS] at e1 e2
  simp_all
end M
end
end Go.Cx

end

section
namespace Go.Cx
open Go.RowKit (Below)
set_option linter.unusedSimpArgs false
theorem step_sound {E : En} (hE : EnOK E) {g0 g : Gh} (hL : LayAt E.P g0) {ops : Array Oper} {Q : Exit → Act → World → Prop} {st st' : St} {c : Ft} {o : Oper} {i : Nat} (ho : ops.toList[i]? = some o)
    (h : stepF E ops.toList o st = some (st', c)) {a : Act} {w : World} (hr : Rel g0 g st a w) {next : Act → World → Prop} (hk : ∀ g' a' w', Rel g0 g' st' a' w' → next a' w') : wpOp E.P ops Q i next a w := by
  have hi : ops[i]? = some o := by simpa using ho
  unfold wpOp
  simp only [hi]
  have run : ∀ {s : St}, Rel g0 g s a w → ((opF E o s.fr s.hp).map fun r => ((⟨putA s.fr o.dst r.1, r.2.1⟩ : St), ftOf E o s.fr s.hp r.2.2)) = some (st', c) → o.wp E.P a w next Q := by
    intro s hr h
    simp only [Option.map_eq_some_iff] at h
    obtain ⟨⟨v, hp', c'⟩, h1, h2⟩ := h
    simp only [Prod.mk.injEq] at h2
    obtain ⟨rfl, rfl⟩ := h2
    exact opF_wp hE (hL.le hr.le) hr.r hr.vl h1 fun g' w' cv hle hR hV => hk g' _ _ (hr.put hle hR hV o.dst)
  unfold stepF at h
  split at h
  · rename_i hg
    have hw : Region.wanted o (yielded ops a.tmps) = true := by simp [Region.wanted, hg]
    rw [if_pos hw]
    exact .inl (run hr h)
  · rename_i j want hg
    split at h
    · rename_i d hd
      split at h
      · rename_i b hb
        obtain ⟨hy, -⟩ := hr.fix hb
        have hyl := yielded_of hd hy
        split at h
        · rename_i e
          have hw : Region.wanted o (yielded ops a.tmps) = true := by simp [Region.wanted, hg, hyl, e]
          rw [if_pos hw]
          exact .inl (run hr h)
        · rename_i e
          have hw : ¬ Region.wanted o (yielded ops a.tmps) = true := by simp [Region.wanted, hg, hyl, e]
          rw [if_neg hw]
          simp only [Option.some.injEq, Prod.mk.injEq] at h
          obtain ⟨rfl, rfl⟩ := h
          exact hk g _ _ (hr.put (Gh.le.refl g) hr.r V.undef o.dst)
      · rename_i hb
        have hw : ¬ Region.wanted o (yielded ops a.tmps) = true := by simp [Region.wanted, hg, hr.none hd hb]
        rw [if_neg hw]
        simp only [Option.some.injEq, Prod.mk.injEq] at h
        obtain ⟨rfl, rfl⟩ := h
        exact hk g _ _ (hr.put (Gh.le.refl g) hr.r V.undef o.dst)
      · simp at h
    · simp at h
def unlisted (listed : Array Bool) (n : Nat) : Nat := ((List.range n).filter fun i => !listed.getD i false).length
theorem filter_le {p q : Nat → Bool} (h : ∀ x, q x = true → p x = true) : ∀ l : List Nat, (l.filter q).length ≤ (l.filter p).length
  | [] => Nat.le_refl _
  | x :: l => by
    have ih := filter_le h l
    rw [List.filter_cons, List.filter_cons]
    cases hq : q x with
    | true => rw [if_pos rfl, if_pos (h x hq), List.length_cons, List.length_cons]; omega
    | false =>
      rw [if_neg (by simp)]
      split
      · rw [List.length_cons]; omega
      · exact ih
theorem filter_lt {p q : Nat → Bool} (h : ∀ x, q x = true → p x = true) {i : Nat} (hp : p i = true) (hq : q i = false) : ∀ l : List Nat, i ∈ l → (l.filter q).length < (l.filter p).length
  | [], hm => by simp at hm
  | x :: l, hm => by
    rw [List.filter_cons, List.filter_cons]
    by_cases hx : i = x
    · subst hx
      rw [hq, hp, if_neg (by simp), if_pos rfl, List.length_cons]
      have := filter_le h l
      omega
    · have ih := filter_lt h hp hq l ((List.mem_cons.1 hm).resolve_left hx)
      cases hq : q x with
      | true => rw [if_pos rfl, if_pos (h x hq), List.length_cons, List.length_cons]; omega
      | false =>
        rw [if_neg (by simp)]
        split
        · rw [List.length_cons]; omega
        · exact ih
theorem unlisted_set {listed : Array Bool} {n i : Nat} (hi : i < n) (hl : i < listed.size) (hn : listed.getD i false = false) : unlisted (listed.setIfInBounds i true) n < unlisted listed n := by
  have h1 : (listed.setIfInBounds i true).getD i false = true := by simp [Array.getD, hl]
  refine filter_lt (i := i) (fun x hx => ?_) (by rw [hn]; rfl) (by rw [h1]; rfl) _ (by simpa using hi)
  by_cases e : i = x
  · subst e; rw [hn]; rfl
  · rwa [getD_set_ne false e] at hx
section
variable {E : En} {ops : Array Oper} {S : Nat → St} {cls : List Ft}
theorem all_listed (T : Trace E ops S cls) {listed : Array Bool} (hsz : listed.size = ops.size) (hr : Region.ready .any ops listed = []) : ∀ j, j < ops.toList.length → listed.getD j false = true := by
  intro j
  induction j using Nat.strongRecOn with
  | _ j ih =>
    intro hj
    cases hl : listed.getD j false with
    | true => rfl
    | false =>
      exfalso
      have hj' : j < listed.size := by rw [hsz]; simpa using hj
      obtain ⟨o, ho⟩ : ∃ o, ops.toList[j]? = some o := ⟨_, List.getElem?_eq_getElem hj⟩
      obtain ⟨c, hc⟩ : ∃ c, cls[j]? = some c := ⟨_, List.getElem?_eq_getElem (by rw [T.len]; exact hj)⟩
      have hf := (fine_spec T.fine ho hc).1
      have hm : j ∈ Region.ready .any ops listed := by
        rw [mem_ready]
        refine ⟨?_, _, by simpa using ho, fun e he hb => ?_⟩
        · simpa [Array.getD, hj'] using hl
        · have := hf e (by simpa using he) hb
          exact ih e.on this (by omega)
      rw [hr] at hm; simp at hm
theorem any_sound (hE : EnOK E) (T : Trace E ops S cls) {g0 : Gh} (hL : LayAt E.P g0) {Q : Exit → Act → World → Prop} (hQ : ∀ g a w, Rel g0 g (S ops.toList.length) a w → Q .normal a w) :
    ∀ (fuel : Nat) (listed : Array Bool) (st : St), listed.size = ops.size → unlisted listed ops.size ≤ fuel →
      (∀ k o, ops.toList[k]? = some o → listed.getD k false = true → ∀ e ∈ o.after.toList, Region.binds .any e = true → listed.getD e.on false = true) →
      Inv ops S cls (fun j => listed.getD j false = true) st → ∀ g a w, Rel g0 g st a w → wpAny E.P .any ops Q fuel listed a w := by
  have done : ∀ (listed : Array Bool) (st : St), listed.size = ops.size → Region.ready .any ops listed = [] → Inv ops S cls (fun j => listed.getD j false = true) st → ∀ g a w, Rel g0 g st a w → Q .normal a w := by
    intro listed st hsz hn hI g a w hr
    have := Trace.all hE T (all_listed T hsz hn) hI
    subst this
    exact hQ g a w hr
  intro fuel
  induction fuel with
  | zero =>
    intro listed st hsz hu hcl hI g a w hr
    have hn : Region.ready .any ops listed = [] := by
      cases hh : Region.ready .any ops listed with
      | nil => rfl
      | cons i l =>
        exfalso
        have hm : i ∈ Region.ready .any ops listed := by rw [hh]; simp
        obtain ⟨h0, o, ho, -⟩ := mem_ready.1 hm
        have hlt : i < ops.size := (Array.getElem?_eq_some_iff.1 ho).1
        have hl : listed.getD i false = false := by simpa [Array.getD, hsz, hlt] using h0
        have := unlisted_set hlt (by omega) hl
        omega
    exact ⟨hn, done listed st hsz hn hI g a w hr⟩
  | succ fuel ih =>
    intro listed st hsz hu hcl hI g a w hr
    refine ⟨fun hn => done listed st hsz hn hI g a w hr, fun i hi => ?_⟩
    obtain ⟨h0, o, ho, hp⟩ := mem_ready.1 hi
    have hlt : i < ops.size := (Array.getElem?_eq_some_iff.1 ho).1
    have hl : listed.getD i false = false := by simpa [Array.getD, hsz, hlt] using h0
    have hIn : ∀ j, listed.getD j false = true → j < ops.toList.length := by
      intro j hj
      rcases Nat.lt_or_ge j listed.size with h | h
      · rw [hsz] at h; simpa using h
      · simp [Array.getD, Nat.not_lt.2 h] at hj
    have ho' : ops.toList[i]? = some o := by simpa using ho
    obtain ⟨st', c, h1, h2⟩ := Trace.next hE T hIn hcl hI ho' (by simp [hl]) (fun e he hb => hp e (by simpa using he) hb)
    have hset : ∀ j, (listed.setIfInBounds i true).getD j false = true ↔ (listed.getD j false = true ∨ j = i) := by
      intro j
      by_cases hj : i = j
      · subst hj
        have : (listed.setIfInBounds i true).getD i false = true := by simp [Array.getD, hsz, hlt]
        simp [this]
      · rw [getD_set_ne false hj]
        constructor
        · exact .inl
        · rintro (h | h)
          · exact h
          · exact absurd h.symm hj
    refine step_sound hE hL ho' h1 hr fun g' a' w' hr' => ih _ st' (by simpa using hsz) ?_ ?_ ?_ g' a' w' hr'
    · have := unlisted_set hlt (by omega) hl
      omega
    · intro k o' hk hkl e he hb
      rw [hset] at hkl ⊢
      rcases hkl with hkl | rfl
      · exact .inl (hcl k o' hk hkl e he hb)
      · rw [ho'] at hk; cases hk
        exact .inl (hp e (by simpa using he) hb)
    · have e : (fun j => (listed.setIfInBounds i true).getD j false = true) = (fun j => listed.getD j false = true ∨ j = i) := by
        funext j; exact propext (hset j)
      rw [e]; exact h2
end
end Go.Cx

end

section
namespace Go.Cx.M
open Go.RowKit (Below)
set_option linter.unusedSimpArgs false
theorem step_sound {hs : List Nat} {E : En} (hE : EnOK E) {g0 g : Gh} (hL : LayAt E.P g0) {ops : Array Oper} {Q : Exit → Act → World → Prop} {st st' : St} {c : Ft} {o : Oper} {i : Nat} (ho : ops.toList[i]? = some o)
    (h : stepF hs E ops.toList o st = some (st', c)) {a : Act} {w : World} (hr : Rel g0 g st a w) (hh : ∀ i ∈ hs, st.hp[i]? = some .hole) {next : Act → World → Prop} (hk : ∀ g' a' w', Rel g0 g' st' a' w' → next a' w') : wpOp E.P ops Q i next a w := by
  have hi : ops[i]? = some o := by simpa using ho
  unfold wpOp
  simp only [hi]
  have run : ∀ {s : St}, Rel g0 g s a w → (∀ i ∈ hs, s.hp[i]? = some .hole) → ((opM hs E o s.fr s.hp).map fun r => ((⟨putA s.fr o.dst r.1, r.2.1⟩ : St), ftM s.hp.length hs (ftOf E o s.fr s.hp r.2.2))) = some (st', c) → o.wp E.P a w next Q := by
    intro s hr hh h
    simp only [Option.map_eq_some_iff] at h
    obtain ⟨⟨v, hp', c'⟩, h1, h2⟩ := h
    simp only [Prod.mk.injEq] at h2
    obtain ⟨rfl, rfl⟩ := h2
    exact opM_wp hE (hL.le hr.le) hr.r hr.vl h1 (fun i hi => by have k := hr.r.objs i; rw [hh i hi] at k; exact k) fun g' w' cv hle hR hV => hk g' _ _ (hr.put hle hR hV o.dst)
  unfold stepF at h
  split at h
  · rename_i hg
    have hw : Region.wanted o (yielded ops a.tmps) = true := by simp [Region.wanted, hg]
    rw [if_pos hw]
    exact .inl (run hr hh h)
  · rename_i j want hg
    split at h
    · rename_i d hd
      split at h
      · rename_i b hb
        obtain ⟨hy, -⟩ := hr.fix hb
        have hyl := yielded_of hd hy
        split at h
        · rename_i e
          have hw : Region.wanted o (yielded ops a.tmps) = true := by simp [Region.wanted, hg, hyl, e]
          rw [if_pos hw]
          exact .inl (run hr hh h)
        · rename_i e
          have hw : ¬ Region.wanted o (yielded ops a.tmps) = true := by simp [Region.wanted, hg, hyl, e]
          rw [if_neg hw]
          simp only [Option.some.injEq, Prod.mk.injEq] at h
          obtain ⟨rfl, rfl⟩ := h
          exact hk g _ _ (hr.put (Gh.le.refl g) hr.r V.undef o.dst)
      · rename_i hb
        have hw : ¬ Region.wanted o (yielded ops a.tmps) = true := by simp [Region.wanted, hg, hr.none hd hb]
        rw [if_neg hw]
        simp only [Option.some.injEq, Prod.mk.injEq] at h
        obtain ⟨rfl, rfl⟩ := h
        exact hk g _ _ (hr.put (Gh.le.refl g) hr.r V.undef o.dst)
      · simp at h
    · simp at h
variable {hf : Nat → List Nat} {E : En} {ops : Array Oper} {S : Nat → St} {cls : List Ft}
theorem hole_of (hA : ∀ i j c h, i ≠ j → h ∈ hf i → cls[j]? = some c → ¬ c.wrs (.ob h)) (h0 : ∀ i h, h ∈ hf i → (S 0).hp[h]? = some .hole) {In : Nat → Prop} {st : St} (hI : Inv ops S cls In st) {i h : Nat} (hi : ¬ In i) (hm : h ∈ hf i) : st.hp[h]? = some .hole := by
  rcases hI.heap (.ob h) with ⟨j, hj, ⟨c, hc, hw⟩, -, -⟩ | ⟨-, he⟩
  · by_cases e : i = j
    · subst e; exact absurd hj hi
    · exact absurd hw (hA i j c h e hm hc)
  · exact (ob_eq he (fun ty cs e => by rw [h0 i h hm] at e; simp at e)).trans (h0 i h hm)
theorem all_listed (T : Trace hf E ops S cls) {listed : Array Bool} (hsz : listed.size = ops.size) (hr : Region.ready .any ops listed = []) : ∀ j, j < ops.toList.length → listed.getD j false = true := by
  intro j
  induction j using Nat.strongRecOn with
  | _ j ih =>
    intro hj
    cases hl : listed.getD j false with
    | true => rfl
    | false =>
      exfalso
      have hj' : j < listed.size := by rw [hsz]; simpa using hj
      obtain ⟨o, ho⟩ : ∃ o, ops.toList[j]? = some o := ⟨_, List.getElem?_eq_getElem hj⟩
      obtain ⟨c, hc⟩ : ∃ c, cls[j]? = some c := ⟨_, List.getElem?_eq_getElem (by rw [T.len]; exact hj)⟩
      have hf := (fine_spec T.fine ho hc).1
      have hm : j ∈ Region.ready .any ops listed := by
        rw [mem_ready]
        refine ⟨?_, _, by simpa using ho, fun e he hb => ?_⟩
        · simpa [Array.getD, hj'] using hl
        · have := hf e (by simpa using he) hb
          exact ih e.on this (by omega)
      rw [hr] at hm; simp at hm
theorem any_sound (hE : EnOK E) (T : Trace hf E ops S cls) (hA : ∀ i j c h, i ≠ j → h ∈ hf i → cls[j]? = some c → ¬ c.wrs (.ob h)) (hH : ∀ i h, h ∈ hf i → (S 0).hp[h]? = some .hole) {g0 : Gh} (hL : LayAt E.P g0) {Q : Exit → Act → World → Prop} (hQ : ∀ g a w, Rel g0 g (S ops.toList.length) a w → Q .normal a w) :
    ∀ (fuel : Nat) (listed : Array Bool) (st : St), listed.size = ops.size → unlisted listed ops.size ≤ fuel →
      (∀ k o, ops.toList[k]? = some o → listed.getD k false = true → ∀ e ∈ o.after.toList, Region.binds .any e = true → listed.getD e.on false = true) →
      Inv ops S cls (fun j => listed.getD j false = true) st → ∀ g a w, Rel g0 g st a w → wpAny E.P .any ops Q fuel listed a w := by
  have done : ∀ (listed : Array Bool) (st : St), listed.size = ops.size → Region.ready .any ops listed = [] → Inv ops S cls (fun j => listed.getD j false = true) st → ∀ g a w, Rel g0 g st a w → Q .normal a w := by
    intro listed st hsz hn hI g a w hr
    have := Trace.all hE T (all_listed T hsz hn) hI
    subst this
    exact hQ g a w hr
  intro fuel
  induction fuel with
  | zero =>
    intro listed st hsz hu hcl hI g a w hr
    have hn : Region.ready .any ops listed = [] := by
      cases hh : Region.ready .any ops listed with
      | nil => rfl
      | cons i l =>
        exfalso
        have hm : i ∈ Region.ready .any ops listed := by rw [hh]; simp
        obtain ⟨h0, o, ho, -⟩ := mem_ready.1 hm
        have hlt : i < ops.size := (Array.getElem?_eq_some_iff.1 ho).1
        have hl : listed.getD i false = false := by simpa [Array.getD, hsz, hlt] using h0
        have := unlisted_set hlt (by omega) hl
        omega
    exact ⟨hn, done listed st hsz hn hI g a w hr⟩
  | succ fuel ih =>
    intro listed st hsz hu hcl hI g a w hr
    refine ⟨fun hn => done listed st hsz hn hI g a w hr, fun i hi => ?_⟩
    obtain ⟨h0, o, ho, hp⟩ := mem_ready.1 hi
    have hlt : i < ops.size := (Array.getElem?_eq_some_iff.1 ho).1
    have hl : listed.getD i false = false := by simpa [Array.getD, hsz, hlt] using h0
    have hIn : ∀ j, listed.getD j false = true → j < ops.toList.length := by
      intro j hj
      rcases Nat.lt_or_ge j listed.size with h | h
      · rw [hsz] at h; simpa using h
      · simp [Array.getD, Nat.not_lt.2 h] at hj
    have ho' : ops.toList[i]? = some o := by simpa using ho
    obtain ⟨st', c, h1, h2⟩ := Trace.next hE T hIn hcl hI ho' (by simp [hl]) (fun e he hb => hp e (by simpa using he) hb)
    have hset : ∀ j, (listed.setIfInBounds i true).getD j false = true ↔ (listed.getD j false = true ∨ j = i) := by
      intro j
      by_cases hj : i = j
      · subst hj
        have : (listed.setIfInBounds i true).getD i false = true := by simp [Array.getD, hsz, hlt]
        simp [this]
      · rw [getD_set_ne false hj]
        constructor
        · exact .inl
        · rintro (h | h)
          · exact h
          · exact absurd h.symm hj
    refine step_sound hE hL ho' h1 hr (fun h hm => hole_of hA hH hI (by simp [hl]) hm) fun g' a' w' hr' => ih _ st' (by simpa using hsz) ?_ ?_ ?_ g' a' w' hr'
    · have := unlisted_set hlt (by omega) hl
      omega
    · intro k o' hk hkl e he hb
      rw [hset] at hkl ⊢
      rcases hkl with hkl | rfl
      · exact .inl (hcl k o' hk hkl e he hb)
      · rw [ho'] at hk; cases hk
        exact .inl (hp e (by simpa using he) hb)
    · have e : (fun j => (listed.setIfInBounds i true).getD j false = true) = (fun j => listed.getD j false = true ∨ j = i) := by
        funext j; exact propext (hset j)
      rw [e]; exact h2
end Go.Cx.M

end

section
namespace Go.Cx
open Go.RowKit (Below)
set_option linter.unusedSimpArgs false
theorem R.holes {g : Gh} {w : World} {hp : List Ob} (h : R g w hp) (m : Nat) : R g w (hp ++ List.replicate m .hole) := by
  have back : ∀ i, hp.length ≤ i → (hp ++ List.replicate m Ob.hole)[i]? = none ∨ (hp ++ List.replicate m Ob.hole)[i]? = some .hole := by
    intro i hi
    rw [List.getElem?_append_right hi, List.getElem?_replicate]
    split
    · exact .inr rfl
    · exact .inl rfl
  have front : ∀ i, i < hp.length → (hp ++ List.replicate m Ob.hole)[i]? = hp[i]? := fun i hi => List.getElem?_append_left hi
  refine ⟨h.below, h.base, h.frz, h.imm, fun i => ?_, fun i j b hij hi hj oi oj => ?_⟩
  · rcases Nat.lt_or_ge i hp.length with hi | hi
    · rw [front i hi]; exact h.objs i
    · rcases back i hi with e | e <;> rw [e] <;> exact h.none_blk hi
  · have lt : ∀ {i b}, own g i b → i < hp.length := by
      intro i b o
      rcases Nat.lt_or_ge i hp.length with hi | hi
      · exact hi
      · have := h.none_blk hi
        rcases o with o | ⟨_, _, _, o⟩
        · rw [this.1] at o; simp at o
        · rw [this.2] at o; simp at o
    rw [front i (lt oi)] at hi
    rw [front j (lt oj)] at hj
    exact h.inj i j b hij hi hj oi oj
theorem R.unhole {g : Gh} {w : World} {hp : List Ob} (h : R g w hp) (n : Nat) (hn : ∀ o ∈ hp.drop n, o = .hole) : R g w (hp.take n) := by
  have back : ∀ i, n ≤ i → g.blk i = none ∧ g.cur i = none := by
    intro i hi
    have k := h.objs i
    cases ho : hp[i]? with
    | none => rw [ho] at k; exact k
    | some o =>
      have : o = .hole := hn o (List.mem_of_getElem? (i := i - n) (by rw [List.getElem?_drop, show n + (i - n) = i by omega]; exact ho))
      subst this; rw [ho] at k; exact k
  have front : ∀ i, i < n → (hp.take n)[i]? = hp[i]? := fun i hi => by rw [List.getElem?_take, if_pos hi]
  refine ⟨h.below, h.base, h.frz, h.imm, fun i => ?_, fun i j b hij hi hj oi oj => ?_⟩
  · rcases Nat.lt_or_ge i n with hi | hi
    · rw [front i hi]; exact h.objs i
    · rw [List.getElem?_take, if_neg (by omega)]; exact back i hi
  · have lt : ∀ {i b}, own g i b → i < n := by
      intro i b o
      rcases Nat.lt_or_ge i n with hi | hi
      · exact hi
      · have := back i hi
        rcases o with o | ⟨_, _, _, o⟩
        · rw [this.1] at o; simp at o
        · rw [this.2] at o; simp at o
    rw [front i (lt oi)] at hi
    rw [front j (lt oj)] at hj
    exact h.inj i j b hij hi hj oi oj
namespace M
theorem draws_of {hf : Nat → List Nat} {E : En} {ops : Array Oper} {S : Nat → St} {cls : List Ft} (hE : EnOK E) (hm : E.P.follows .mixedOrders = true) (T : Trace hf E ops S cls)
    (hA : ∀ i j c h, i ≠ j → h ∈ hf i → cls[j]? = some c → ¬ c.wrs (.ob h)) (hH : ∀ i h, h ∈ hf i → (S 0).hp[h]? = some .hole)
    {st : St} {m n : Nat} (h0 : S 0 = ⟨st.fr, st.hp ++ List.replicate m .hole⟩) (hn : ∀ o ∈ (S ops.toList.length).hp.drop n, o = .hole)
    {g0 : Gh} (hL : LayAt E.P g0) {Q : Exit → Act → World → Prop} (hQ : ∀ g a w, Rel g0 g ⟨(S ops.toList.length).fr, (S ops.toList.length).hp.take n⟩ a w → Q .normal a w) {id : Nat} {g : Gh} {a : Act} {w : World} (hr : Rel g0 g st a w) :
    (Code.region id ops true).wp E.P Q a w := by
  refine wp_region_any hm (any_sound hE T hA hH hL (fun g a w hr => hQ g a w ⟨hr.le, hr.r.unhole n hn, hr.vl, hr.defers⟩) ops.size _ (S 0) (by simp) ?_ ?_ ?_ g a _ ⟨hr.le, by rw [h0]; exact (hr.r.holes m).drew, by rw [h0]; exact hr.vl, hr.defers⟩)
  · unfold unlisted
    exact Nat.le_trans (List.length_filter_le _ _) (by simp)
  · intro k o hk hkl
    exfalso
    simp [Array.getD] at hkl
  · have hno : ∀ j, ¬ ((Array.replicate ops.size false).getD j false = true) := by
      intro j hj
      simp [Array.getD] at hj
    exact ⟨rfl, fun t => .inr ⟨fun j hj => absurd hj (hno j), rfl⟩, fun p => .inr ⟨fun j hj => absurd hj (hno j), rfl⟩⟩
end M
end Go.Cx

end

section
namespace Go.Cx
open Go.RowKit (Below)
set_option linter.unusedSimpArgs false
theorem wrOb_of {c : Ft} {h : Nat} (hw : c.wrs (.ob h)) : wrOb c h = true := by
  unfold Ft.wrs at hw
  unfold wrOb
  split at hw
  · rename_i R W e
    rw [e]
    obtain ⟨s, h1, h2⟩ := hw
    refine List.any_eq_true.2 ⟨s, h1, ?_⟩
    cases s <;> simp only [Spot.has] at h2 <;> simp [h2]
  · rename_i e
    rw [e]; exact hw
namespace M
noncomputable def runF (E : En) (all : List Oper) : Nat → List Oper → St → Option (St × List (Ft × List Nat))
  | _, [], st => some (st, [])
  | off, o :: l, st => match Go.Cx.stepF E all o st with
    | some (s0, _) => match stepF (List.range' off (s0.hp.length - st.hp.length)) E all o st with
      | some (st', c) => (runF E all (off + (s0.hp.length - st.hp.length)) l st').map fun r => (r.1, (c, List.range' off (s0.hp.length - st.hp.length)) :: r.2)
      | none => none
    | none => none
theorem runF_trace {E : En} {all : List Oper} : ∀ (l : List Oper) (off : Nat) (st st' : St) (r : List (Ft × List Nat)), runF E all off l st = some (st', r) →
    r.length = l.length ∧ ∃ S : Nat → St, S 0 = st ∧ S l.length = st' ∧ ∀ i o, l[i]? = some o → ∃ x, r[i]? = some x ∧ stepF x.2 E all o (S i) = some (S (i + 1), x.1)
  | [], off, st, st', r, h => by
    simp [runF] at h
    obtain ⟨rfl, rfl⟩ := h
    exact ⟨rfl, fun _ => st, rfl, rfl, fun i o h => by simp at h⟩
  | o :: l, off, st, st', r, h => by
    simp only [runF] at h
    split at h
    · split at h
      · rename_i s0 c0 hs0 st1 c hs
        simp only [Option.map_eq_some_iff] at h
        obtain ⟨⟨st2, cl2⟩, h1, h2⟩ := h
        simp only [Prod.mk.injEq] at h2
        obtain ⟨rfl, rfl⟩ := h2
        obtain ⟨hl, S, hS0, hSn, hS⟩ := runF_trace l _ st1 st2 cl2 h1
        refine ⟨by simp [hl], fun i => match i with | 0 => st | i + 1 => S i, rfl, hSn, fun i o' ho => ?_⟩
        cases i with
        | zero =>
          simp at ho; subst ho
          exact ⟨_, rfl, by simp only [hS0]; exact hs⟩
        | succ i => exact hS i o' (by simpa using ho)
      · simp at h
    · simp at h
theorem draws_run {E : En} {ops : Array Oper} (hE : EnOK E) (hm : E.P.follows .mixedOrders = true) {st st' : St} {m n : Nat} {r : List (Ft × List Nat)}
    (h : runF E ops.toList st.hp.length ops.toList ⟨st.fr, st.hp ++ List.replicate m .hole⟩ = some (st', r)) (hok : okRun ops.toList st.hp.length m st' r n = true)
    {g0 : Gh} (hL : LayAt E.P g0) {Q : Exit → Act → World → Prop} (hQ : ∀ g a w, Rel g0 g ⟨st'.fr, st'.hp.take n⟩ a w → Q .normal a w) {id : Nat} {g : Gh} {a : Act} {w : World} (hr : Rel g0 g st a w) :
    (Code.region id ops true).wp E.P Q a w := by
  simp only [okRun, Bool.and_eq_true] at hok
  obtain ⟨⟨⟨k1, k2⟩, k3⟩, k4⟩ := hok
  obtain ⟨hl, S, hS0, hSn, hS⟩ := runF_trace _ _ _ _ _ h
  have hfof : ∀ {i : Nat} {x : Ft × List Nat}, r[i]? = some x → ((r[i]?).map (·.2)).getD [] = x.2 := fun e => by rw [e]; rfl
  have T : Trace (fun i => ((r[i]?).map (·.2)).getD []) E ops S (r.map (·.1)) := by
    refine ⟨by simp [hl], fun i o ho => ?_, k1⟩
    obtain ⟨x, e1, e2⟩ := hS i o ho
    exact ⟨x.1, by rw [List.getElem?_map, e1]; rfl, by rw [hfof e1]; exact e2⟩
  have inr : ∀ {i h : Nat}, h ∈ ((r[i]?).map (·.2)).getD [] → ∃ x, r[i]? = some x ∧ h ∈ x.2 := by
    intro i h hm
    cases e : r[i]? with
    | none => rw [e] at hm; simp at hm
    | some x => rw [e] at hm; exact ⟨x, rfl, hm⟩
  refine draws_of (m := m) (n := n) hE hm T (fun i j c h hij hmem hc hw => ?_) (fun i h hmem => ?_) hS0 (fun o ho => ?_) hL (fun g a w hr => hQ g a w (by rw [← hSn]; exact hr)) hr
  · obtain ⟨x, e1, e2⟩ := inr hmem
    rw [List.getElem?_map, Option.map_eq_some_iff] at hc
    obtain ⟨y, e3, rfl⟩ := hc
    have a1 := List.all_eq_true.1 (List.all_eq_true.1 k2 i (List.mem_range.2 (length_of_get e1))) j (List.mem_range.2 (length_of_get e3))
    simp only [e1, e3, Bool.or_eq_true, beq_iff_eq, hij, false_or] at a1
    have := List.all_eq_true.1 a1 h e2
    rw [wrOb_of hw] at this
    simp at this
  · obtain ⟨x, e1, e2⟩ := inr hmem
    have := List.all_eq_true.1 (List.all_eq_true.1 k3 x (List.mem_of_getElem? e1)) h e2
    simp only [decide_eq_true_eq] at this
    rw [hS0]
    show (st.hp ++ List.replicate m Ob.hole)[h]? = _
    rw [List.getElem?_append_right this.1, List.getElem?_replicate, if_pos (by omega)]
  · have := List.all_eq_true.1 k4 o (by rw [← hSn]; exact ho)
    cases o <;> simp [isHole] at this ⊢
end M
end Go.Cx

end

section
namespace Go.Cx
open Go.RowKit (Below)
set_option linter.unusedSimpArgs false
namespace M
theorem mvK_P {E : En} {o : Oper} {fr : List AV} {hp : List Ob} {off : Nat} {v : AV} {hp' : List Ob} {c : Cls} {K : AV → List Ob → Ft → List Nat → Prop} (hop : opF E o fr hp = some (v, hp', c)) (h : mvK False E o fr hp off v hp' c K) :
    ∃ v1 hp1, opM (List.range' off (hp'.length - hp.length)) E o fr hp = some (v1, hp1, c) ∧ K v1 hp1 (ftM hp.length (List.range' off (hp'.length - hp.length)) (ftOf E o fr hp c)) (List.range' off (hp'.length - hp.length)) := by
  unfold mvK at h
  generalize List.range' off (hp'.length - hp.length) = hs at h ⊢
  cases hs with
  | nil =>
    simp only at h
    cases hc : (hp'.length == hp.length && newsOK hp.length (ftOf E o fr hp c)) with
    | false => rw [hc] at h; exact h.elim
    | true =>
      rw [hc] at h
      exact ⟨v, hp', by unfold opM; simp only [hop, Option.bind_some, hc, cond_true], h⟩
  | cons x hs =>
    simp only at h
    cases hf : (ftOf E o fr hp c).f with
    | none => rw [hf] at h; exact h.elim
    | some f =>
      rw [hf] at h
      simp only at h
      cases hL : allsOf hp.length f.2 with
      | none => rw [hL] at h; exact h.elim
      | some L =>
        rw [hL] at h
        simp only at h
        cases hk : okMv hp.length (x :: hs) L hp' v with
        | false => rw [hk] at h; exact h.elim
        | true =>
          rw [hk] at h
          exact ⟨_, _, by unfold opM; simp only [hop, hf, hL, hk, Option.bind_some, cond_true], h⟩
theorem runM_F {E : En} {all : List Oper} : ∀ (l : List Oper) (off : Nat) (st : St) (acc : List (Ft × List Nat)) (K : St → List (Ft × List Nat) → Prop), runM False E all off l st acc K → ∃ st' cl, runF E all off l st = some (st', cl) ∧ K st' (acc.reverse ++ cl)
  | [], off, st, acc, K, h => ⟨st, [], rfl, by simpa [runM] using h⟩
  | o :: l, off, st, acc, K, h => by
    have go : ∀ {s0 st1 : St} {c0 c : Ft}, Go.Cx.stepF E all o st = some (s0, c0) → stepF (List.range' off (s0.hp.length - st.hp.length)) E all o st = some (st1, c) →
        runM False E all (off + (s0.hp.length - st.hp.length)) l st1 ((c, List.range' off (s0.hp.length - st.hp.length)) :: acc) K → ∃ st' cl, runF E all off (o :: l) st = some (st', cl) ∧ K st' (acc.reverse ++ cl) := by
      intro s0 st1 c0 c hs0 hs hr
      obtain ⟨st', cl, h1, h2⟩ := runM_F l _ st1 _ K hr
      exact ⟨st', (c, List.range' off (s0.hp.length - st.hp.length)) :: cl, by simp only [runF, hs0, hs, h1, Option.map_some], by simpa using h2⟩
    simp only [runM] at h
    split at h
    · rename_i hg
      obtain ⟨v, hp', c, hop, hk⟩ := opA_P h
      obtain ⟨v1, hp1, hm, hk⟩ := mvK_P hop hk
      exact go (s0 := ⟨putA st.fr o.dst v, hp'⟩) (by simp only [Go.Cx.stepF, hg, hop, Option.map_some]; try rfl) (by simp only [stepF, hg, hm, Option.map_some]; try rfl) hk
    · rename_i j want hg
      split at h
      · rename_i d hd
        split at h
        · rename_i b hb
          split at h
          · rename_i e
            obtain ⟨v, hp', c, hop, hk⟩ := opA_P h
            obtain ⟨v1, hp1, hm, hk⟩ := mvK_P hop hk
            exact go (s0 := ⟨putA st.fr o.dst v, hp'⟩) (by unfold Go.Cx.stepF; simp only [hg, hd, hb, if_pos e, hop, Option.map_some]; try rfl) (by unfold stepF; simp only [hg, hd, hb, if_pos e, hm, Option.map_some]; try rfl) hk
          · rename_i e
            have z : st.hp.length - st.hp.length = 0 := Nat.sub_self _
            exact go (s0 := ⟨putA st.fr o.dst (.tuple []), st.hp⟩) (st1 := ⟨putA st.fr o.dst (.tuple []), st.hp⟩) (c0 := ⟨.pure, none⟩) (c := ⟨.pure, none⟩) (by unfold Go.Cx.stepF; simp only [hg, hd, hb, if_neg e]) (by unfold stepF; simp only [hg, hd, hb, if_neg e]) (by simpa [z] using h)
        · rename_i hb
          have z : st.hp.length - st.hp.length = 0 := Nat.sub_self _
          exact go (s0 := ⟨putA st.fr o.dst (.tuple []), st.hp⟩) (st1 := ⟨putA st.fr o.dst (.tuple []), st.hp⟩) (c0 := ⟨.pure, none⟩) (c := ⟨.pure, none⟩) (by unfold Go.Cx.stepF; simp only [hg, hd, hb]) (by unfold stepF; simp only [hg, hd, hb]) (by simpa [z] using h)
        · exact h.elim
      · exact h.elim
theorem draws_runM {E : En} {ops : Array Oper} (hE : EnOK E) (hm : E.P.follows .mixedOrders = true) {st : St} {m n : Nat} {K : St → Prop}
    (h : runM False E ops.toList st.hp.length ops.toList ⟨st.fr, st.hp ++ List.replicate m .hole⟩ [] fun st' r => cond (okRun ops.toList st.hp.length m st' r n) (K ⟨st'.fr, st'.hp.take n⟩) False)
    {g0 : Gh} (hL : LayAt E.P g0) {Q : Exit → Act → World → Prop} (hQ : ∀ g st a w, Rel g0 g st a w → K st → Q .normal a w) {id : Nat} {g : Gh} {a : Act} {w : World} (hr : Rel g0 g st a w) : (Code.region id ops true).wp E.P Q a w := by
  obtain ⟨st', r, h1, h2⟩ := runM_F _ _ _ _ _ h
  simp only [List.reverse_nil, List.nil_append] at h2
  cases hok : okRun ops.toList st.hp.length m st' r n with
  | false => rw [hok] at h2; exact h2.elim
  | true => rw [hok] at h2; exact draws_run hE hm h1 hok hL (fun g a w hr => hQ g _ a w hr h2) hr
end M
theorem draws {E : En} (hE : EnOK E) (hm : E.P.follows .mixedOrders = true) : Draws E := by
  intro g0 hL ops Q st K id h hQ g a w hr
  obtain ⟨st', cl, h1, h2⟩ := runOps_F _ _ _ _ h
  simp only [List.reverse_nil, List.nil_append] at h2
  cases hf : fine ops.toList cl with
  | false =>
    rw [hf] at h2
    simp only [cond_false, M.redo, M.runMK_eq, heapK_eq] at h2
    exact M.draws_runM hE hm h2 hL hQ hr
  | true =>
    rw [hf] at h2
    simp only [cond_true] at h2
    obtain ⟨hlen, S, hS0, hSn, hS⟩ := runF_trace _ _ _ _ h1
    have T : Trace E ops S cl := ⟨hlen, hS, hf⟩
    refine wp_region_any hm (any_sound hE T hL (fun g a w hr => hQ g st' a w (by rw [← hSn]; exact hr) h2) ops.size _ st (by simp) ?_ ?_ ?_ g a _ ⟨hr.le, hr.r.drew, hr.vl, hr.defers⟩)
    · unfold unlisted
      exact Nat.le_trans (List.length_filter_le _ _) (by simp)
    · intro k o hk hkl
      exfalso
      simp [Array.getD] at hkl
    · have hno : ∀ j, ¬ ((Array.replicate ops.size false).getD j false = true) := by
        intro j hj
        simp [Array.getD] at hj
      refine ⟨by rw [hS0], fun t => .inr ⟨fun j hj => absurd hj (hno j), by rw [hS0]⟩, fun p => .inr ⟨fun j hj => absurd hj (hno j), by rw [hS0]⟩⟩
theorem wp_sound_E {E : En} (hE : EnOK E) (hm : E.P.follows .mixedOrders = true) {g0 : Gh} (hL : LayAt E.P g0) {c : Code} {K : Ex → St → Prop} {st : St} (hI : Ids g0 E.keep) (hB : Ids g0 E.base) (h : wpA E c K st) {g : Gh} {a : Act} {w : World} (hr : Rel g0 g st a w) : c.wp E.P (QC g0 K) a w :=
  wpA_sound hE (draws hE hm) hL hI hB h hr
end Go.Cx

end
