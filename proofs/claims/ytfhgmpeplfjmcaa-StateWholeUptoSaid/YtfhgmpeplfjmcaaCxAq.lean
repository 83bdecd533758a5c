/- Regions whose makers have their numbers before: any order comes to the same. -/
import Derived.Test.YtfhgmpeplfjmcaaCxAp
import Derived.Test.YtfhgmpeplfjmcaaCxW
namespace Go.Cx
noncomputable section
open Go.RowKit (Below)
set_option linter.unusedSimpArgs false
theorem opM_congr {E : En} {hs : List Nat} {o : Oper} {fr fr' : List AV} {hp : List Ob} (h : ∀ x ∈ o.op.operands.toList, evalA fr x = evalA fr' x) : opM hs E o fr hp = opM hs E o fr' hp := by
  have : ∀ c, ftOf E o fr hp c = ftOf E o fr' hp c := fun c => ftOf_congr h (fun _ _ => rfl)
  unfold opM
  simp only [opF_congr h, this]
theorem ftM_congr {E : En} {hs : List Nat} {o : Oper} {fr fr' : List AV} {hp h2 : List Ob} {c : Cls} (h : ∀ x ∈ o.op.operands.toList, evalA fr x = evalA fr' x) (hR : ∀ p, (ftM hp.length hs (ftOf E o fr' hp c)).rds p → pl h2 p = pl hp p) :
    ftM h2.length hs (ftOf E o fr h2 c) = ftM hp.length hs (ftOf E o fr' hp c) := by
  rw [ftOf_congr h (fun p hp' => hR p ?_)]
  · cases hf : (ftOf E o fr' hp c).f with
    | none => simp [ftM, hf]
    | some f =>
      have : pl h2 .len = pl hp .len := hR .len (by unfold Ft.rds ftM; rw [hf]; exact ⟨_, List.mem_cons_self, trivial⟩)
      have : h2.length = hp.length := by simpa [pl] using this
      rw [this]
  · unfold Ft.rds ftM at *
    cases hf : (ftOf E o fr' hp c).f with
    | none => rw [hf] at hp'; simpa [hf] using hp'
    | some f => rw [hf] at hp'; obtain ⟨s, h1, h2⟩ := hp'; exact ⟨s, List.mem_cons_of_mem _ h1, h2⟩
namespace M
def stepF (hs : List Nat) (E : En) (all : List Oper) (o : Oper) (st : St) : Option (St × Ft) :=
  match o.guard with
  | none => (opM hs E o st.fr st.hp).map fun r => (⟨putA st.fr o.dst r.1, r.2.1⟩, ftM st.hp.length hs (ftOf E o st.fr st.hp r.2.2))
  | some (j, want) => match (all[j]?).bind (·.dst) with
    | some d => match st.fr.getD d .junk with
      | .bool b => if b = want then (opM hs E o st.fr st.hp).map fun r => (⟨putA st.fr o.dst r.1, r.2.1⟩, ftM st.hp.length hs (ftOf E o st.fr st.hp r.2.2)) else some (⟨putA st.fr o.dst (.tuple []), st.hp⟩, ⟨.pure, none⟩)
      | .tuple [] => some (⟨putA st.fr o.dst (.tuple []), st.hp⟩, ⟨.pure, none⟩)
      | _ => none
    | none => none
theorem stepF_spec {hs : List Nat} {E : En} (hE : EnOK E) {all : List Oper} {o : Oper} {s s1 : St} {c : Ft} (h : stepF hs E all o s = some (s1, c)) :
    ∃ v, s1.fr = putA s.fr o.dst v ∧ ∀ st : St, (∀ t ∈ opReads all o, st.fr[t]? = s.fr[t]?) → (∀ p, c.rds p → pl st.hp p = pl s.hp p) →
      ∃ h2, stepF hs E all o st = some (⟨putA st.fr o.dst v, h2⟩, c) ∧ ∀ p, (c.wrs p → pl h2 p = pl s1.hp p) ∧ (¬ c.wrs p → pl h2 p = pl st.hp p) := by
  have ops : ∀ st : St, (∀ t ∈ opReads all o, st.fr[t]? = s.fr[t]?) → ∀ x ∈ o.op.operands.toList, evalA st.fr x = evalA s.fr x := by
    intro st hst x hx
    refine eval_congr fun t ht => hst t ?_
    subst ht
    simp only [opReads, List.mem_append, List.mem_filterMap]
    left; exact ⟨_, hx, rfl⟩
  have act : ∀ {c : Ft}, ((opM hs E o s.fr s.hp).map fun r => ((⟨putA s.fr o.dst r.1, r.2.1⟩ : St), ftM s.hp.length hs (ftOf E o s.fr s.hp r.2.2))) = some (s1, c) →
      ∃ v, s1.fr = putA s.fr o.dst v ∧ ∀ st : St, (∀ t ∈ opReads all o, st.fr[t]? = s.fr[t]?) → (∀ p, c.rds p → pl st.hp p = pl s.hp p) →
      ∃ h2, ((opM hs E o st.fr st.hp).map fun r => ((⟨putA st.fr o.dst r.1, r.2.1⟩ : St), ftM st.hp.length hs (ftOf E o st.fr st.hp r.2.2))) = some (⟨putA st.fr o.dst v, h2⟩, c) ∧ ∀ p, (c.wrs p → pl h2 p = pl s1.hp p) ∧ (¬ c.wrs p → pl h2 p = pl st.hp p) := by
    intro c hh
    simp only [Option.map_eq_some_iff] at hh
    obtain ⟨⟨v, hp', c'⟩, h1, h2⟩ := hh
    simp only [Prod.mk.injEq] at h2
    obtain ⟨rfl, rfl⟩ := h2
    have k := opM_frame hE h1
    refine ⟨v, rfl, fun st h3 h4 => ?_⟩
    obtain ⟨h2', k1, k2⟩ := k st.hp h4
    refine ⟨h2', ?_, k2⟩
    rw [opM_congr (ops st h3), k1]
    simp only [Option.map_some, ftM_congr (ops st h3) h4]
  have nop : ∀ st : St, ∀ p, ((⟨.pure, none⟩ : Ft).wrs p → pl st.hp p = pl s.hp p) ∧ (¬ (⟨.pure, none⟩ : Ft).wrs p → pl st.hp p = pl st.hp p) := fun st p => ⟨fun e => by simp [Ft.wrs, Cls.isWrite] at e, fun _ => rfl⟩
  unfold stepF at h
  split at h
  · rename_i hg
    obtain ⟨v, h1, h3⟩ := act h
    exact ⟨v, h1, fun st h4 h5 => by unfold stepF; rw [hg]; exact h3 st h4 h5⟩
  · rename_i j want hg
    split at h
    · rename_i d hd
      split at h
      · rename_i b hb
        have slot : ∀ st : St, (∀ t ∈ opReads all o, st.fr[t]? = s.fr[t]?) → st.fr.getD d .junk = .bool b := by
          intro st hst
          have := hst d (by simp only [opReads, hg, hd]; simp)
          rw [List.getD_eq_getElem?_getD, this, ← List.getD_eq_getElem?_getD]; exact hb
        split at h
        · rename_i e
          obtain ⟨v, h1, h3⟩ := act h
          exact ⟨v, h1, fun st h4 h5 => by unfold stepF; simp only [hg, hd, slot st h4, if_pos e]; exact h3 st h4 h5⟩
        · rename_i e
          simp only [Option.some.injEq, Prod.mk.injEq] at h
          obtain ⟨rfl, rfl⟩ := h
          exact ⟨.tuple [], rfl, fun st h4 h5 => ⟨st.hp, by unfold stepF; simp only [hg, hd, slot st h4, if_neg e], nop st⟩⟩
      · rename_i hb
        have slot : ∀ st : St, (∀ t ∈ opReads all o, st.fr[t]? = s.fr[t]?) → st.fr.getD d .junk = .tuple [] := by
          intro st hst
          have := hst d (by simp only [opReads, hg, hd]; simp)
          rw [List.getD_eq_getElem?_getD, this, ← List.getD_eq_getElem?_getD]; exact hb
        simp only [Option.some.injEq, Prod.mk.injEq] at h
        obtain ⟨rfl, rfl⟩ := h
        exact ⟨.tuple [], rfl, fun st h4 h5 => ⟨st.hp, by unfold stepF; simp only [hg, hd, slot st h4], nop st⟩⟩
      · simp at h
    · simp at h
theorem stepF_keeps {hs : List Nat} {E : En} (hE : EnOK E) {all : List Oper} {o : Oper} {s s1 : St} {c : Ft} (h : stepF hs E all o s = some (s1, c)) {p : Pl} (hp : ¬ c.wrs p) : pl s1.hp p = pl s.hp p := by
  obtain ⟨v, h1, h3⟩ := stepF_spec hE h
  obtain ⟨h2, k1, k2⟩ := h3 s (fun _ _ => rfl) (fun _ _ => rfl)
  rw [h] at k1
  simp only [Option.some.injEq, Prod.mk.injEq] at k1
  have := (k2 p).2 hp
  rw [k1.1]
  exact this
variable {hf : Nat → List Nat} {E : En} {ops : Array Oper} {S : Nat → St} {cls : List Ft}
structure Trace (hf : Nat → List Nat) (E : En) (ops : Array Oper) (S : Nat → St) (cls : List Ft) : Prop where
  len : cls.length = ops.toList.length
  step : ∀ i o, ops.toList[i]? = some o → ∃ c, cls[i]? = some c ∧ stepF (hf i) E ops.toList o (S i) = some (S (i + 1), c)
  fine : fine ops.toList cls = true
theorem Trace.slot (hE : EnOK E) (T : Trace hf E ops S cls) {i : Nat} {o : Oper} (ho : ops.toList[i]? = some o) {t : Nat} (ht : o.dst ≠ some t) : (S (i + 1)).fr[t]? = (S i).fr[t]? := by
  obtain ⟨c, hc, hs⟩ := T.step i o ho
  obtain ⟨v, h1, _⟩ := stepF_spec hE hs
  rw [h1, put_get ht]
theorem Trace.flen (hE : EnOK E) (T : Trace hf E ops S cls) {i : Nat} (hi : i ≤ ops.toList.length) : (S i).fr.length = (S 0).fr.length := by
  induction i with
  | zero => rfl
  | succ i ih =>
    have hlt : i < ops.toList.length := by omega
    obtain ⟨c, hc, hs⟩ := T.step i _ (List.getElem?_eq_getElem hlt)
    obtain ⟨v, h1, _⟩ := stepF_spec hE hs
    rw [h1, put_len, ih (by omega)]
theorem Trace.slots (hE : EnOK E) (T : Trace hf E ops S cls) {t : Nat} : ∀ (d i : Nat), i + d ≤ ops.toList.length → (∀ j, i ≤ j → j < i + d → ¬ Wr ops j t) → (S (i + d)).fr[t]? = (S i).fr[t]?
  | 0, i, _, _ => rfl
  | d + 1, i, hn, hw => by
    have hlt : i + d < ops.toList.length := by omega
    have ho := List.getElem?_eq_getElem hlt
    rw [show i + (d + 1) = (i + d) + 1 by omega, Trace.slot hE T ho (fun e => hw (i + d) (by omega) (by omega) ⟨_, ho, e⟩)]
    exact Trace.slots hE T d i (by omega) (fun j h1 h2 => hw j h1 (by omega))
theorem Trace.heaps (hE : EnOK E) (T : Trace hf E ops S cls) {p : Pl} : ∀ (d i : Nat), i + d ≤ ops.toList.length → (∀ j, i ≤ j → j < i + d → ¬ WrP cls j p) → pl (S (i + d)).hp p = pl (S i).hp p
  | 0, i, _, _ => rfl
  | d + 1, i, hn, hw => by
    have hlt : i + d < ops.toList.length := by omega
    obtain ⟨c, hc, hs⟩ := T.step (i + d) _ (List.getElem?_eq_getElem hlt)
    rw [show i + (d + 1) = (i + d) + 1 by omega, stepF_keeps hE hs (fun e => hw (i + d) (by omega) (by omega) ⟨c, hc, e⟩)]
    exact Trace.heaps hE T d i (by omega) (fun j h1 h2 => hw j h1 (by omega))
theorem Trace.next (hE : EnOK E) (T : Trace hf E ops S cls) {In : Nat → Prop} (hIn : ∀ j, In j → j < ops.toList.length) (hcl : ∀ k o, ops.toList[k]? = some o → In k → ∀ e ∈ o.after.toList, Region.binds .any e = true → In e.on) {st : St} (h : Inv ops S cls In st)
    {i : Nat} {o : Oper} (ho : ops.toList[i]? = some o) (hi : ¬ In i) (hp : ∀ e ∈ o.after.toList, Region.binds .any e = true → In e.on) :
    ∃ st' c, stepF (hf i) E ops.toList o st = some (st', c) ∧ Inv ops S cls (fun j => In j ∨ j = i) st' := by
  obtain ⟨c, hc, hs⟩ := T.step i o ho
  obtain ⟨v, hv, hrun⟩ := stepF_spec hE hs
  have hilt : i < ops.toList.length := length_of_get ho
  have cget : ∀ j, j < ops.toList.length → ∃ cj, cls[j]? = some cj := fun j hj => ⟨_, List.getElem?_eq_getElem (by rw [T.len]; exact hj)⟩
  -- what is ahead of i lies in the set
  have ahead := closure_in ops.toList In hcl i o ho hp
  have fi := (fine_spec T.fine ho hc).2
  -- an operation behind i that lies in the set has i ahead of it: there is none that clashes
  have behind : ∀ j b cj, i < j → In j → ops.toList[j]? = some b → cls[j]? = some cj → clash ops.toList o b c cj = false := by
    intro j b cj hj hInj hb hcj
    rcases (fine_spec T.fine hb hcj).2 i o c hj ho hc with hm | hm
    · exact absurd (closure_in ops.toList In hcl j b hb (hcl j b hb hInj) i hm) hi
    · exact hm
  have before : ∀ j b cj, j < i → ¬ In j → ops.toList[j]? = some b → cls[j]? = some cj → clash ops.toList b o cj c = false := by
    intro j b cj hj hInj hb hcj
    rcases fi j b cj hj hb hcj with hm | hm
    · exact absurd (ahead j hm) hInj
    · exact hm
  have noW : ∀ {t j}, (t ∈ opReads ops.toList o ∨ o.dst = some t) → Wr ops j t → In j → j < i := by
    intro t j ht hw hInj
    obtain ⟨b, hb, hd⟩ := hw
    rcases Nat.lt_trichotomy j i with h1 | h1 | h1
    · exact h1
    · subst h1; exact absurd hInj hi
    · obtain ⟨cj, hcj⟩ := cget j (length_of_get hb)
      have := behind j b cj h1 hInj hb hcj
      simp only [clash, hd, Bool.or_eq_false_iff] at this
      rcases ht with ht | ht
      · have h2 := this.1.1.2
        rw [List.contains_eq_mem] at h2
        simp [ht] at h2
      · have h2 := this.1.1.1
        simp [ht] at h2
  have allW : ∀ {t j}, t ∈ opReads ops.toList o → Wr ops j t → j < i → In j := by
    intro t j ht hw hj
    obtain ⟨b, hb, hd⟩ := hw
    by_cases hIn' : In j
    · exact hIn'
    · obtain ⟨cj, hcj⟩ := cget j (length_of_get hb)
      have := before j b cj hj hIn' hb hcj
      simp only [clash, hd, Bool.or_eq_false_iff] at this
      have h2 := this.1.1.1.1
      rw [List.contains_eq_mem] at h2
      simp [ht] at h2
  have slots : ∀ t ∈ opReads ops.toList o, st.fr[t]? = (S i).fr[t]? := by
    intro t ht
    rcases h.slot t with ⟨j, hj, hw, hlast, he⟩ | ⟨hno, he⟩
    · have hji := noW (.inl ht) hw hj
      rw [he]
      have := Trace.slots hE T (t := t) (i - (j + 1)) (j + 1) (by omega) (fun k h1 h2 hw' => by
        have := hlast k (allW ht hw' (by omega)) hw'
        omega)
      rw [show j + 1 + (i - (j + 1)) = i by omega] at this; exact this.symm
    · rw [he]
      have := Trace.slots hE T (t := t) i 0 (by omega) (fun k h1 h2 hw' => hno k (allW ht hw' (by omega)) hw')
      rw [Nat.zero_add] at this
      exact this.symm
  have noP : ∀ {p j}, (c.rds p ∨ c.wrs p) → WrP cls j p → In j → j < i := by
    intro p j ht hw hInj
    obtain ⟨cj, hcj, hwj⟩ := hw
    rcases Nat.lt_trichotomy j i with h1 | h1 | h1
    · exact h1
    · subst h1; exact absurd hInj hi
    · have hb := List.getElem?_eq_getElem (hIn j hInj)
      have := behind j _ cj h1 hInj hb hcj
      simp only [clash, Bool.or_eq_false_iff] at this
      exact absurd ⟨hwj, ht⟩ (meet1_spec this.2 p)
  have allP : ∀ {p j}, c.rds p → WrP cls j p → j < i → In j := by
    intro p j ht hw hj
    obtain ⟨cj, hcj, hwj⟩ := hw
    by_cases hIn' : In j
    · exact hIn'
    · have hb := List.getElem?_eq_getElem (show j < ops.toList.length by omega)
      have := before j _ cj hj hIn' hb hcj
      simp only [clash, Bool.or_eq_false_iff] at this
      exact absurd ⟨hwj, .inl ht⟩ (meet1_spec this.1.2 p)
  have heap : ∀ p, c.rds p → pl st.hp p = pl (S i).hp p := by
    intro p ht
    rcases h.heap p with ⟨j, hj, hw, hlast, he⟩ | ⟨hno, he⟩
    · have hji := noP (.inl ht) hw hj
      rw [he]
      have := Trace.heaps hE T (p := p) (i - (j + 1)) (j + 1) (by omega) (fun k h1 h2 hw' => by
        have := hlast k (allP ht hw' (by omega)) hw'
        omega)
      rw [show j + 1 + (i - (j + 1)) = i by omega] at this; exact this.symm
    · rw [he]
      have := Trace.heaps hE T (p := p) i 0 (by omega) (fun k h1 h2 hw' => hno k (allP ht hw' (by omega)) hw')
      rw [Nat.zero_add] at this
      exact this.symm
  obtain ⟨h2', hst, hpl⟩ := hrun st slots heap
  refine ⟨_, c, hst, ?_, ?_, ?_⟩
  · simp only [put_len]; exact h.len
  · intro t
    by_cases ht : o.dst = some t
    · left
      refine ⟨i, .inr rfl, ⟨o, ho, ht⟩, fun j' hj' hw' => ?_, ?_⟩
      · rcases hj' with hj' | rfl
        · exact Nat.le_of_lt (noW (.inr ht) hw' hj')
        · exact Nat.le_refl _
      · simp only [hv, ht, putA, List.getElem?_set]
        have l1 : (S i).fr.length = st.fr.length := by rw [h.len, Trace.flen hE T (by omega)]
        simp [l1]
    · simp only [put_get ht]
      rcases h.slot t with ⟨j, hj, hw, hlast, he⟩ | ⟨hno, he⟩
      · refine .inl ⟨j, .inl hj, hw, fun j' hj' hw' => ?_, he⟩
        rcases hj' with hj' | rfl
        · exact hlast j' hj' hw'
        · obtain ⟨b, hb, hd⟩ := hw'
          rw [ho] at hb; cases hb
          exact absurd hd ht
      · refine .inr ⟨fun j hj hw => ?_, he⟩
        rcases hj with hj | rfl
        · exact hno j hj hw
        · obtain ⟨b, hb, hd⟩ := hw
          rw [ho] at hb; cases hb
          exact ht hd
  · intro p
    by_cases ht : c.wrs p
    · left
      refine ⟨i, .inr rfl, ⟨c, hc, ht⟩, fun j' hj' hw' => ?_, (hpl p).1 ht⟩
      rcases hj' with hj' | rfl
      · exact Nat.le_of_lt (noP (.inr ht) hw' hj')
      · exact Nat.le_refl _
    · have e := (hpl p).2 ht
      rcases h.heap p with ⟨j, hj, hw, hlast, he⟩ | ⟨hno, he⟩
      · refine .inl ⟨j, .inl hj, hw, fun j' hj' hw' => ?_, e.trans he⟩
        rcases hj' with hj' | rfl
        · exact hlast j' hj' hw'
        · obtain ⟨b, hb, hd⟩ := hw'
          rw [hc] at hb; cases hb
          exact absurd hd ht
      · refine .inr ⟨fun j hj hw => ?_, e.trans he⟩
        rcases hj with hj | rfl
        · exact hno j hj hw
        · obtain ⟨b, hb, hd⟩ := hw
          rw [hc] at hb; cases hb
          exact ht hd
theorem Trace.all (hE : EnOK E) (T : Trace hf E ops S cls) {In : Nat → Prop} (hIn : ∀ j, j < ops.toList.length → In j) {st : St} (h : Inv ops S cls In st) : st = S ops.toList.length := by
  have e1 : st.fr = (S ops.toList.length).fr := by
    apply List.ext_getElem?
    intro t
    rcases h.slot t with ⟨j, hj, hw, hlast, he⟩ | ⟨hno, he⟩
    · obtain ⟨b, hb, hd⟩ := hw
      have hlt := length_of_get hb
      rw [he]
      have := Trace.slots hE T (t := t) (ops.toList.length - (j + 1)) (j + 1) (by omega) (fun k h1 h2 hw' => by
        have := hlast k (hIn k (by omega)) hw'
        omega)
      rw [show j + 1 + (ops.toList.length - (j + 1)) = ops.toList.length by omega] at this; exact this.symm
    · rw [he]
      have := Trace.slots hE T (t := t) ops.toList.length 0 (by omega) (fun k h1 h2 hw' => hno k (hIn k (by omega)) hw')
      rw [Nat.zero_add] at this
      exact this.symm
  have e2 : st.hp = (S ops.toList.length).hp := by
    apply pl_ext
    intro p
    rcases h.heap p with ⟨j, hj, hw, hlast, he⟩ | ⟨hno, he⟩
    · obtain ⟨b, hb, hd⟩ := hw
      have hlt := length_of_get hb
      rw [T.len] at hlt
      rw [he]
      have := Trace.heaps hE T (p := p) (ops.toList.length - (j + 1)) (j + 1) (by omega) (fun k h1 h2 hw' => by
        have := hlast k (hIn k (by omega)) hw'
        omega)
      rw [show j + 1 + (ops.toList.length - (j + 1)) = ops.toList.length by omega] at this; exact this.symm
    · rw [he]
      have := Trace.heaps hE T (p := p) ops.toList.length 0 (by omega) (fun k h1 h2 hw' => hno k (hIn k (by omega)) hw')
      rw [Nat.zero_add] at this
      exact this.symm
  cases st
  cases hS : S ops.toList.length
  rw [hS] at e1 e2
  simp_all
end M
end
end Go.Cx
