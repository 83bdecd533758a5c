/- Regions that draw their order: any order comes to the same. -/
import Derived.Test.YtfhgmpeplfjmcaaCxV
namespace Go.Cx
noncomputable section
open Go.RowKit (Below)
set_option linter.unusedSimpArgs false
def stepF (E : En) (all : List Oper) (o : Oper) (st : St) : Option (St × Ft) :=
  match o.guard with
  | none => (opF E o st.fr st.hp).map fun r => (⟨putA st.fr o.dst r.1, r.2.1⟩, ftOf E o st.fr st.hp r.2.2)
  | some (j, want) => match (all[j]?).bind (·.dst) with
    | some d => match st.fr.getD d .junk with
      | .bool b => if b = want then (opF E o st.fr st.hp).map fun r => (⟨putA st.fr o.dst r.1, r.2.1⟩, ftOf E o st.fr st.hp r.2.2) else some (⟨putA st.fr o.dst (.tuple []), st.hp⟩, ⟨.pure, none⟩)
      | .tuple [] => some (⟨putA st.fr o.dst (.tuple []), st.hp⟩, ⟨.pure, none⟩)
      | _ => none
    | none => none
def runF (E : En) (all : List Oper) : List Oper → St → Option (St × List Ft)
  | [], st => some (st, [])
  | o :: l, st => match stepF E all o st with
    | some (st', c) => (runF E all l st').map fun r => (r.1, c :: r.2)
    | none => none
theorem set_same {fr : List AV} {d : Nat} {b : Bool} (h : fr.getD d .junk = .bool b) : fr.set d (.bool b) = fr := by
  have hlt : d < fr.length := by
    rcases Nat.lt_or_ge d fr.length with h' | h'
    · exact h'
    · rw [List.getD_eq_getElem?_getD, List.getElem?_eq_none h'] at h; simp at h
  apply List.ext_getElem?
  intro i
  rw [List.getElem?_set]
  split
  · rename_i e; subst e
    rw [List.getD_eq_getElem?_getD, List.getElem?_eq_getElem hlt] at h
    rw [List.getElem?_eq_getElem hlt]; simpa using h.symm
  · rfl
theorem runOps_F {E : En} {all : List Oper} : ∀ (l : List Oper) (st : St) (acc : List Ft) (K : St → List Ft → Prop), runOps False E all l st acc K → ∃ st' cl, runF E all l st = some (st', cl) ∧ K st' (acc.reverse ++ cl)
  | [], st, acc, K, h => ⟨st, [], rfl, by simpa [runOps] using h⟩
  | o :: l, st, acc, K, h => by
    have go : ∀ {st1 : St} {c : Ft}, stepF E all o st = some (st1, c) → runOps False E all l st1 (c :: acc) K → ∃ st' cl, runF E all (o :: l) st = some (st', cl) ∧ K st' (acc.reverse ++ cl) := by
      intro st1 c hs hr
      obtain ⟨st', cl, h1, h2⟩ := runOps_F l st1 (c :: acc) K hr
      exact ⟨st', c :: cl, by simp [runF, hs, h1], by simpa using h2⟩
    simp only [runOps] at h
    split at h
    · rename_i hg
      obtain ⟨v, hp', c, hop, hk⟩ := opA_P h
      exact go (by simp [stepF, hg, hop]) hk
    · rename_i j want hg
      split at h
      · rename_i d hd
        split at h
        · rename_i b hb
          cases b with
          | true =>
            simp only [cond_true, set_same hb] at h
            cases want with
            | true =>
              simp only [if_true] at h
              obtain ⟨v, hp', c, hop, hk⟩ := opA_P h
              exact go (by unfold stepF; simp only [hg, hd, hb]; simp [hop]) hk
            | false =>
              simp only [Bool.false_eq_true, if_false] at h
              exact go (by unfold stepF; simp only [hg, hd, hb]; simp) h
          | false =>
            simp only [cond_false, set_same hb] at h
            cases want with
            | true =>
              simp only [if_true] at h
              exact go (by unfold stepF; simp only [hg, hd, hb]; simp) h
            | false =>
              simp only [Bool.false_eq_true, if_false] at h
              obtain ⟨v, hp', c, hop, hk⟩ := opA_P h
              exact go (by unfold stepF; simp only [hg, hd, hb]; simp [hop]) hk
        · rename_i hb
          exact go (by unfold stepF; simp only [hg, hd, hb]) h
        · exact h.elim
      · exact h.elim
theorem runF_trace {E : En} {all : List Oper} : ∀ (l : List Oper) (st st' : St) (cl : List Ft), runF E all l st = some (st', cl) →
    cl.length = l.length ∧ ∃ S : Nat → St, S 0 = st ∧ S l.length = st' ∧ ∀ i o, l[i]? = some o → ∃ c, cl[i]? = some c ∧ stepF E all o (S i) = some (S (i + 1), c)
  | [], st, st', cl, h => by
    simp [runF] at h
    obtain ⟨rfl, rfl⟩ := h
    exact ⟨rfl, fun _ => st, rfl, rfl, fun i o h => by simp at h⟩
  | o :: l, st, st', cl, h => by
    simp only [runF] at h
    split at h
    · rename_i st1 c hs
      simp only [Option.map_eq_some_iff] at h
      obtain ⟨⟨st2, cl2⟩, h1, h2⟩ := h
      simp only [Prod.mk.injEq] at h2
      obtain ⟨rfl, rfl⟩ := h2
      obtain ⟨hl, S, hS0, hSn, hS⟩ := runF_trace l st1 st2 cl2 h1
      refine ⟨by simp [hl], fun i => match i with | 0 => st | i + 1 => S i, rfl, hSn, fun i o' ho => ?_⟩
      cases i with
      | zero =>
        simp at ho; subst ho
        exact ⟨c, rfl, by simp only [hS0]; exact hs⟩
      | succ i => exact hS i o' (by simpa using ho)
    · simp at h
theorem eval_congr {fr fr' : List AV} {x : Operand} (h : ∀ t, x = .tmp t → fr[t]? = fr'[t]?) : evalA fr x = evalA fr' x := by
  cases x with
  | tmp t => simp only [evalA, getR_eq, List.getD_eq_getElem?_getD, h t rfl]
  | _ => rfl
theorem stepF_spec {E : En} (hE : EnOK E) {all : List Oper} {o : Oper} {s s1 : St} {c : Ft} (h : stepF E all o s = some (s1, c)) :
    ∃ v, s1.fr = putA s.fr o.dst v ∧ ∀ st : St, (∀ t ∈ opReads all o, st.fr[t]? = s.fr[t]?) → (∀ p, c.rds p → pl st.hp p = pl s.hp p) →
      ∃ h2, stepF E all o st = some (⟨putA st.fr o.dst v, h2⟩, c) ∧ ∀ p, (c.wrs p → pl h2 p = pl s1.hp p) ∧ (¬ c.wrs p → pl h2 p = pl st.hp p) := by
  have ops : ∀ st : St, (∀ t ∈ opReads all o, st.fr[t]? = s.fr[t]?) → ∀ x ∈ o.op.operands.toList, evalA st.fr x = evalA s.fr x := by
    intro st hst x hx
    refine eval_congr fun t ht => hst t ?_
    subst ht
    simp only [opReads, List.mem_append, List.mem_filterMap]
    left; exact ⟨_, hx, rfl⟩
  have act : ∀ {c : Ft}, ((opF E o s.fr s.hp).map fun r => ((⟨putA s.fr o.dst r.1, r.2.1⟩ : St), ftOf E o s.fr s.hp r.2.2)) = some (s1, c) →
      ∃ v, s1.fr = putA s.fr o.dst v ∧ ∀ st : St, (∀ t ∈ opReads all o, st.fr[t]? = s.fr[t]?) → (∀ p, c.rds p → pl st.hp p = pl s.hp p) →
      ∃ h2, ((opF E o st.fr st.hp).map fun r => ((⟨putA st.fr o.dst r.1, r.2.1⟩ : St), ftOf E o st.fr st.hp r.2.2)) = some (⟨putA st.fr o.dst v, h2⟩, c) ∧ ∀ p, (c.wrs p → pl h2 p = pl s1.hp p) ∧ (¬ c.wrs p → pl h2 p = pl st.hp p) := by
    intro c hh
    simp only [Option.map_eq_some_iff] at hh
    obtain ⟨⟨v, hp', c'⟩, h1, h2⟩ := hh
    simp only [Prod.mk.injEq] at h2
    obtain ⟨rfl, rfl⟩ := h2
    have k := opF_frame hE h1
    refine ⟨v, rfl, fun st h3 h4 => ?_⟩
    obtain ⟨h2', k1, k2⟩ := k st.hp h4
    refine ⟨h2', ?_, k2⟩
    rw [opF_congr (ops st h3), k1]
    simp only [Option.map_some, ftOf_congr (ops st h3) h4]
  have nop : ∀ st : St, ∀ p, ((⟨.pure, none⟩ : Ft).wrs p → pl st.hp p = pl s.hp p) ∧ (¬ (⟨.pure, none⟩ : Ft).wrs p → pl st.hp p = pl st.hp p) := fun st p => ⟨fun e => by simp [Ft.wrs, Cls.isWrite] at e, fun _ => rfl⟩
  unfold stepF at h
  split at h
  · rename_i hg
    obtain ⟨v, h1, h3⟩ := act h
    exact ⟨v, h1, fun st h4 h5 => by unfold stepF; rw [hg]; exact h3 st h4 h5⟩
  · rename_i j want hg
    split at h
    · rename_i d hd
      split at h
      · rename_i b hb
        have slot : ∀ st : St, (∀ t ∈ opReads all o, st.fr[t]? = s.fr[t]?) → st.fr.getD d .junk = .bool b := by
          intro st hst
          have := hst d (by simp only [opReads, hg, hd]; simp)
          rw [List.getD_eq_getElem?_getD, this, ← List.getD_eq_getElem?_getD]; exact hb
        split at h
        · rename_i e
          obtain ⟨v, h1, h3⟩ := act h
          exact ⟨v, h1, fun st h4 h5 => by unfold stepF; simp only [hg, hd, slot st h4, if_pos e]; exact h3 st h4 h5⟩
        · rename_i e
          simp only [Option.some.injEq, Prod.mk.injEq] at h
          obtain ⟨rfl, rfl⟩ := h
          exact ⟨.tuple [], rfl, fun st h4 h5 => ⟨st.hp, by unfold stepF; simp only [hg, hd, slot st h4, if_neg e], nop st⟩⟩
      · rename_i hb
        have slot : ∀ st : St, (∀ t ∈ opReads all o, st.fr[t]? = s.fr[t]?) → st.fr.getD d .junk = .tuple [] := by
          intro st hst
          have := hst d (by simp only [opReads, hg, hd]; simp)
          rw [List.getD_eq_getElem?_getD, this, ← List.getD_eq_getElem?_getD]; exact hb
        simp only [Option.some.injEq, Prod.mk.injEq] at h
        obtain ⟨rfl, rfl⟩ := h
        exact ⟨.tuple [], rfl, fun st h4 h5 => ⟨st.hp, by unfold stepF; simp only [hg, hd, slot st h4], nop st⟩⟩
      · simp at h
    · simp at h
theorem stepF_keeps {E : En} (hE : EnOK E) {all : List Oper} {o : Oper} {s s1 : St} {c : Ft} (h : stepF E all o s = some (s1, c)) {p : Pl} (hp : ¬ c.wrs p) : pl s1.hp p = pl s.hp p := by
  obtain ⟨v, h1, h3⟩ := stepF_spec hE h
  obtain ⟨h2, k1, k2⟩ := h3 s (fun _ _ => rfl) (fun _ _ => rfl)
  rw [h] at k1
  simp only [Option.some.injEq, Prod.mk.injEq] at k1
  have := (k2 p).2 hp
  rw [k1.1]
  exact this
def preds (acc : List (List Nat)) (o : Oper) : List Nat := ddupF ((o.after.toList.filter (Region.binds .any)).flatMap fun e => e.on :: acc.getD e.on []) 0
theorem closure_from : ∀ (l : List Oper) (acc : List (List Nat)),
    (l.foldl (fun acc o => acc ++ [preds acc o]) acc).take acc.length = acc ∧ (l.foldl (fun acc o => acc ++ [preds acc o]) acc).length = acc.length + l.length ∧
    ∀ i o, l[i]? = some o → (l.foldl (fun acc o => acc ++ [preds acc o]) acc)[acc.length + i]? = some (preds ((l.foldl (fun acc o => acc ++ [preds acc o]) acc).take (acc.length + i)) o)
  | [], acc => ⟨by simp, by simp, fun i o h => by simp at h⟩
  | o :: l, acc => by
    obtain ⟨h1, h2, h3⟩ := closure_from l (acc ++ [preds acc o])
    simp only [List.foldl_cons]
    generalize l.foldl (fun acc o => acc ++ [preds acc o]) (acc ++ [preds acc o]) = F at *
    simp only [List.length_append, List.length_cons, List.length_nil] at h1 h2 h3
    have h4 : F.take acc.length = acc := by
      have := congrArg (List.take acc.length) h1
      rw [List.take_take, Nat.min_eq_left (by omega), List.take_left' rfl] at this
      exact this
    refine ⟨h4, by simp; omega, fun i o' ho => ?_⟩
    cases i with
    | zero =>
      simp at ho; subst ho
      rw [Nat.add_zero, h4]
      have := congrArg (fun l => l[acc.length]?) h1
      simpa using this
    | succ i =>
      have := h3 i o' (by simpa using ho)
      rw [show acc.length + (i + 1) = acc.length + (0 + 1) + i by omega]
      exact this
theorem closure_spec (ops : List Oper) {j : Nat} {o : Oper} (h : ops[j]? = some o) : (closure ops)[j]? = some (preds ((closure ops).take j) o) := by
  have := (closure_from ops []).2.2 j o h
  simpa [closure, preds] using this
theorem closure_len (ops : List Oper) : (closure ops).length = ops.length := by
  have := (closure_from ops []).2.1
  simpa [closure, preds] using this
theorem closure_in (ops : List Oper) (L : Nat → Prop) (hL : ∀ k o, ops[k]? = some o → L k → ∀ e ∈ o.after.toList, Region.binds .any e = true → L e.on) :
    ∀ (j : Nat) (o : Oper), ops[j]? = some o → (∀ e ∈ o.after.toList, Region.binds .any e = true → L e.on) → ∀ i ∈ (closure ops).getD j [], L i := by
  intro j
  induction j using Nat.strongRecOn with
  | _ j ih =>
    intro o ho hp i hi
    rw [List.getD_eq_getElem?_getD, closure_spec ops ho] at hi
    simp only [Option.getD_some, preds] at hi
    replace hi := mem_ddupF _ _ hi
    simp only [List.mem_flatMap, List.mem_filter, List.mem_cons] at hi
    obtain ⟨e, ⟨he, hb⟩, hi⟩ := hi
    have hLe := hp e he hb
    rcases hi with rfl | hi
    · exact hLe
    · rw [List.getD_eq_getElem?_getD, List.getElem?_take] at hi
      split at hi
      · rename_i hlt
        cases hoe : ops[e.on]? with
        | none =>
          rw [List.getElem?_eq_none (by rw [closure_len]; exact List.getElem?_eq_none_iff.1 hoe)] at hi
          simp at hi
        | some oe =>
          refine ih e.on hlt oe hoe (hL e.on oe hoe hLe) i ?_
          rw [List.getD_eq_getElem?_getD]; exact hi
      · simp at hi
theorem fine1_spec {all : List Oper} {before : List Nat} {b : Oper} {cb : Ft} : ∀ (l : List Oper) (cl : List Ft) (k : Nat), fine1 all before b cb k l cl = true → ∀ i a ca, l[i]? = some a → cl[i]? = some ca → (k + i) ∈ before ∨ clash all a b ca cb = false
  | [], _, _, _, i, a, ca, h, _ => by simp at h
  | _ :: _, [], _, _, i, a, ca, _, h => by simp at h
  | x :: l, cx :: cl, k, hf, i, a, ca, h1, h2 => by
    simp only [fine1, Bool.and_eq_true, Bool.or_eq_true, Bool.not_eq_true', List.contains_iff_mem] at hf
    cases i with
    | zero => simp at h1 h2; subst h1 h2; simpa using hf.1
    | succ i =>
      have := fine1_spec l cl (k + 1) hf.2 i a ca (by simpa using h1) (by simpa using h2)
      rwa [show k + (i + 1) = k + 1 + i by omega]
theorem fineFrom_spec {all : List Oper} {cls : List Ft} : ∀ (l : List Oper) (cl : List Ft) (bs : List (List Nat)) (k : Nat), fineFrom all cls k l cl bs = true → ∀ j b cb bf, l[j]? = some b → cl[j]? = some cb → bs[j]? = some bf →
    fine1 all bf b cb 0 (all.take (k + j)) (cls.take (k + j)) = true ∧ ∀ e ∈ b.after.toList, Region.binds .any e = true → e.on < k + j
  | [], _, _, _, _, j, b, cb, bf, h, _, _ => by simp at h
  | _ :: _, [], _, _, _, j, b, cb, bf, _, h, _ => by simp at h
  | _ :: _, _ :: _, [], _, _, j, b, cb, bf, _, _, h => by simp at h
  | x :: l, cx :: cl, bx :: bs, k, hf, j, b, cb, bf, h1, h2, h3 => by
    simp only [fineFrom, Bool.and_eq_true] at hf
    cases j with
    | zero =>
      simp at h1 h2 h3; subst h1 h2 h3
      refine ⟨hf.1.1, fun e he hb => ?_⟩
      have := List.all_eq_true.1 hf.1.2 e he
      simpa [hb] using this
    | succ j =>
      have := fineFrom_spec l cl bs (k + 1) hf.2 j b cb bf (by simpa using h1) (by simpa using h2) (by simpa using h3)
      rwa [show k + (j + 1) = k + 1 + j by omega]
theorem fine_spec {ops : List Oper} {cls : List Ft} (h : fine ops cls = true) {j : Nat} {b : Oper} {cb : Ft} (hb : ops[j]? = some b) (hc : cls[j]? = some cb) :
    (∀ e ∈ b.after.toList, Region.binds .any e = true → e.on < j) ∧ ∀ i a ca, i < j → ops[i]? = some a → cls[i]? = some ca → i ∈ (closure ops).getD j [] ∨ clash ops a b ca cb = false := by
  have hbs := closure_spec ops hb
  obtain ⟨h1, h2⟩ := fineFrom_spec ops cls (closure ops) 0 h j b cb _ hb hc hbs
  rw [Nat.zero_add] at h1 h2
  refine ⟨h2, fun i a ca hi ha hca => ?_⟩
  have := fine1_spec _ _ 0 h1 i a ca (by rw [List.getElem?_take, if_pos hi]; exact ha) (by rw [List.getElem?_take, if_pos hi]; exact hca)
  rw [Nat.zero_add] at this
  rw [List.getD_eq_getElem?_getD, hbs]
  exact this
section
variable {E : En} {ops : Array Oper} {S : Nat → St} {cls : List Ft}
def Wr (ops : Array Oper) (j t : Nat) : Prop := ∃ o, ops.toList[j]? = some o ∧ o.dst = some t
def WrP (cls : List Ft) (j : Nat) (p : Pl) : Prop := ∃ c, cls[j]? = some c ∧ c.wrs p
structure Inv (ops : Array Oper) (S : Nat → St) (cls : List Ft) (In : Nat → Prop) (st : St) : Prop where
  len : st.fr.length = (S 0).fr.length
  slot : ∀ t, (∃ j, In j ∧ Wr ops j t ∧ (∀ j', In j' → Wr ops j' t → j' ≤ j) ∧ st.fr[t]? = (S (j + 1)).fr[t]?) ∨ ((∀ j, In j → ¬ Wr ops j t) ∧ st.fr[t]? = (S 0).fr[t]?)
  heap : ∀ p, (∃ j, In j ∧ WrP cls j p ∧ (∀ j', In j' → WrP cls j' p → j' ≤ j) ∧ pl st.hp p = pl (S (j + 1)).hp p) ∨ ((∀ j, In j → ¬ WrP cls j p) ∧ pl st.hp p = pl (S 0).hp p)
structure Trace (E : En) (ops : Array Oper) (S : Nat → St) (cls : List Ft) : Prop where
  len : cls.length = ops.toList.length
  step : ∀ i o, ops.toList[i]? = some o → ∃ c, cls[i]? = some c ∧ stepF E ops.toList o (S i) = some (S (i + 1), c)
  fine : fine ops.toList cls = true
theorem put_get {fr : List AV} {dst : Option Nat} {v : AV} {t : Nat} (h : dst ≠ some t) : (putA fr dst v)[t]? = fr[t]? := by
  cases dst with
  | none => rfl
  | some d =>
    simp only [putA, List.getElem?_set]
    rw [if_neg (by intro e; subst e; exact h rfl)]
theorem put_len {fr : List AV} {dst : Option Nat} {v : AV} : (putA fr dst v).length = fr.length := by
  cases dst <;> simp [putA]
theorem Trace.slot (hE : EnOK E) (T : Trace E ops S cls) {i : Nat} {o : Oper} (ho : ops.toList[i]? = some o) {t : Nat} (ht : o.dst ≠ some t) : (S (i + 1)).fr[t]? = (S i).fr[t]? := by
  obtain ⟨c, hc, hs⟩ := T.step i o ho
  obtain ⟨v, h1, _⟩ := stepF_spec hE hs
  rw [h1, put_get ht]
theorem Trace.flen (hE : EnOK E) (T : Trace E ops S cls) {i : Nat} (hi : i ≤ ops.toList.length) : (S i).fr.length = (S 0).fr.length := by
  induction i with
  | zero => rfl
  | succ i ih =>
    have hlt : i < ops.toList.length := by omega
    obtain ⟨c, hc, hs⟩ := T.step i _ (List.getElem?_eq_getElem hlt)
    obtain ⟨v, h1, _⟩ := stepF_spec hE hs
    rw [h1, put_len, ih (by omega)]
theorem Trace.slots (hE : EnOK E) (T : Trace E ops S cls) {t : Nat} : ∀ (d i : Nat), i + d ≤ ops.toList.length → (∀ j, i ≤ j → j < i + d → ¬ Wr ops j t) → (S (i + d)).fr[t]? = (S i).fr[t]?
  | 0, i, _, _ => rfl
  | d + 1, i, hn, hw => by
    have hlt : i + d < ops.toList.length := by omega
    have ho := List.getElem?_eq_getElem hlt
    rw [show i + (d + 1) = (i + d) + 1 by omega, Trace.slot hE T ho (fun e => hw (i + d) (by omega) (by omega) ⟨_, ho, e⟩)]
    exact Trace.slots hE T d i (by omega) (fun j h1 h2 => hw j h1 (by omega))
theorem Trace.heaps (hE : EnOK E) (T : Trace E ops S cls) {p : Pl} : ∀ (d i : Nat), i + d ≤ ops.toList.length → (∀ j, i ≤ j → j < i + d → ¬ WrP cls j p) → pl (S (i + d)).hp p = pl (S i).hp p
  | 0, i, _, _ => rfl
  | d + 1, i, hn, hw => by
    have hlt : i + d < ops.toList.length := by omega
    obtain ⟨c, hc, hs⟩ := T.step (i + d) _ (List.getElem?_eq_getElem hlt)
    rw [show i + (d + 1) = (i + d) + 1 by omega, stepF_keeps hE hs (fun e => hw (i + d) (by omega) (by omega) ⟨c, hc, e⟩)]
    exact Trace.heaps hE T d i (by omega) (fun j h1 h2 => hw j h1 (by omega))
theorem Trace.next (hE : EnOK E) (T : Trace E ops S cls) {In : Nat → Prop} (hIn : ∀ j, In j → j < ops.toList.length) (hcl : ∀ k o, ops.toList[k]? = some o → In k → ∀ e ∈ o.after.toList, Region.binds .any e = true → In e.on) {st : St} (h : Inv ops S cls In st)
    {i : Nat} {o : Oper} (ho : ops.toList[i]? = some o) (hi : ¬ In i) (hp : ∀ e ∈ o.after.toList, Region.binds .any e = true → In e.on) :
    ∃ st' c, stepF E ops.toList o st = some (st', c) ∧ Inv ops S cls (fun j => In j ∨ j = i) st' := by
  obtain ⟨c, hc, hs⟩ := T.step i o ho
  obtain ⟨v, hv, hrun⟩ := stepF_spec hE hs
  have hilt : i < ops.toList.length := length_of_get ho
  have cget : ∀ j, j < ops.toList.length → ∃ cj, cls[j]? = some cj := fun j hj => ⟨_, List.getElem?_eq_getElem (by rw [T.len]; exact hj)⟩
  -- what is ahead of i lies in the set
  have ahead := closure_in ops.toList In hcl i o ho hp
  have fi := (fine_spec T.fine ho hc).2
  -- an operation behind i that lies in the set has i ahead of it: there is none that clashes
  have behind : ∀ j b cj, i < j → In j → ops.toList[j]? = some b → cls[j]? = some cj → clash ops.toList o b c cj = false := by
    intro j b cj hj hInj hb hcj
    rcases (fine_spec T.fine hb hcj).2 i o c hj ho hc with hm | hm
    · exact absurd (closure_in ops.toList In hcl j b hb (hcl j b hb hInj) i hm) hi
    · exact hm
  have before : ∀ j b cj, j < i → ¬ In j → ops.toList[j]? = some b → cls[j]? = some cj → clash ops.toList b o cj c = false := by
    intro j b cj hj hInj hb hcj
    rcases fi j b cj hj hb hcj with hm | hm
    · exact absurd (ahead j hm) hInj
    · exact hm
  have noW : ∀ {t j}, (t ∈ opReads ops.toList o ∨ o.dst = some t) → Wr ops j t → In j → j < i := by
    intro t j ht hw hInj
    obtain ⟨b, hb, hd⟩ := hw
    rcases Nat.lt_trichotomy j i with h1 | h1 | h1
    · exact h1
    · subst h1; exact absurd hInj hi
    · obtain ⟨cj, hcj⟩ := cget j (length_of_get hb)
      have := behind j b cj h1 hInj hb hcj
      simp only [clash, hd, Bool.or_eq_false_iff] at this
      rcases ht with ht | ht
      · have h2 := this.1.1.2
        rw [List.contains_eq_mem] at h2
        simp [ht] at h2
      · have h2 := this.1.1.1
        simp [ht] at h2
  have allW : ∀ {t j}, t ∈ opReads ops.toList o → Wr ops j t → j < i → In j := by
    intro t j ht hw hj
    obtain ⟨b, hb, hd⟩ := hw
    by_cases hIn' : In j
    · exact hIn'
    · obtain ⟨cj, hcj⟩ := cget j (length_of_get hb)
      have := before j b cj hj hIn' hb hcj
      simp only [clash, hd, Bool.or_eq_false_iff] at this
      have h2 := this.1.1.1.1
      rw [List.contains_eq_mem] at h2
      simp [ht] at h2
  have slots : ∀ t ∈ opReads ops.toList o, st.fr[t]? = (S i).fr[t]? := by
    intro t ht
    rcases h.slot t with ⟨j, hj, hw, hlast, he⟩ | ⟨hno, he⟩
    · have hji := noW (.inl ht) hw hj
      rw [he]
      have := Trace.slots hE T (t := t) (i - (j + 1)) (j + 1) (by omega) (fun k h1 h2 hw' => by
        have := hlast k (allW ht hw' (by omega)) hw'
        omega)
      rw [show j + 1 + (i - (j + 1)) = i by omega] at this; exact this.symm
    · rw [he]
      have := Trace.slots hE T (t := t) i 0 (by omega) (fun k h1 h2 hw' => hno k (allW ht hw' (by omega)) hw')
      rw [Nat.zero_add] at this
      exact this.symm
  have noP : ∀ {p j}, (c.rds p ∨ c.wrs p) → WrP cls j p → In j → j < i := by
    intro p j ht hw hInj
    obtain ⟨cj, hcj, hwj⟩ := hw
    rcases Nat.lt_trichotomy j i with h1 | h1 | h1
    · exact h1
    · subst h1; exact absurd hInj hi
    · have hb := List.getElem?_eq_getElem (hIn j hInj)
      have := behind j _ cj h1 hInj hb hcj
      simp only [clash, Bool.or_eq_false_iff] at this
      exact absurd ⟨hwj, ht⟩ (meet1_spec this.2 p)
  have allP : ∀ {p j}, c.rds p → WrP cls j p → j < i → In j := by
    intro p j ht hw hj
    obtain ⟨cj, hcj, hwj⟩ := hw
    by_cases hIn' : In j
    · exact hIn'
    · have hb := List.getElem?_eq_getElem (show j < ops.toList.length by omega)
      have := before j _ cj hj hIn' hb hcj
      simp only [clash, Bool.or_eq_false_iff] at this
      exact absurd ⟨hwj, .inl ht⟩ (meet1_spec this.1.2 p)
  have heap : ∀ p, c.rds p → pl st.hp p = pl (S i).hp p := by
    intro p ht
    rcases h.heap p with ⟨j, hj, hw, hlast, he⟩ | ⟨hno, he⟩
    · have hji := noP (.inl ht) hw hj
      rw [he]
      have := Trace.heaps hE T (p := p) (i - (j + 1)) (j + 1) (by omega) (fun k h1 h2 hw' => by
        have := hlast k (allP ht hw' (by omega)) hw'
        omega)
      rw [show j + 1 + (i - (j + 1)) = i by omega] at this; exact this.symm
    · rw [he]
      have := Trace.heaps hE T (p := p) i 0 (by omega) (fun k h1 h2 hw' => hno k (allP ht hw' (by omega)) hw')
      rw [Nat.zero_add] at this
      exact this.symm
  obtain ⟨h2', hst, hpl⟩ := hrun st slots heap
  refine ⟨_, c, hst, ?_, ?_, ?_⟩
  · simp only [put_len]; exact h.len
  · intro t
    by_cases ht : o.dst = some t
    · left
      refine ⟨i, .inr rfl, ⟨o, ho, ht⟩, fun j' hj' hw' => ?_, ?_⟩
      · rcases hj' with hj' | rfl
        · exact Nat.le_of_lt (noW (.inr ht) hw' hj')
        · exact Nat.le_refl _
      · simp only [hv, ht, putA, List.getElem?_set]
        have l1 : (S i).fr.length = st.fr.length := by rw [h.len, Trace.flen hE T (by omega)]
        simp [l1]
    · simp only [put_get ht]
      rcases h.slot t with ⟨j, hj, hw, hlast, he⟩ | ⟨hno, he⟩
      · refine .inl ⟨j, .inl hj, hw, fun j' hj' hw' => ?_, he⟩
        rcases hj' with hj' | rfl
        · exact hlast j' hj' hw'
        · obtain ⟨b, hb, hd⟩ := hw'
          rw [ho] at hb; cases hb
          exact absurd hd ht
      · refine .inr ⟨fun j hj hw => ?_, he⟩
        rcases hj with hj | rfl
        · exact hno j hj hw
        · obtain ⟨b, hb, hd⟩ := hw
          rw [ho] at hb; cases hb
          exact ht hd
  · intro p
    by_cases ht : c.wrs p
    · left
      refine ⟨i, .inr rfl, ⟨c, hc, ht⟩, fun j' hj' hw' => ?_, (hpl p).1 ht⟩
      rcases hj' with hj' | rfl
      · exact Nat.le_of_lt (noP (.inr ht) hw' hj')
      · exact Nat.le_refl _
    · have e := (hpl p).2 ht
      rcases h.heap p with ⟨j, hj, hw, hlast, he⟩ | ⟨hno, he⟩
      · refine .inl ⟨j, .inl hj, hw, fun j' hj' hw' => ?_, e.trans he⟩
        rcases hj' with hj' | rfl
        · exact hlast j' hj' hw'
        · obtain ⟨b, hb, hd⟩ := hw'
          rw [hc] at hb; cases hb
          exact absurd hd ht
      · refine .inr ⟨fun j hj hw => ?_, e.trans he⟩
        rcases hj with hj | rfl
        · exact hno j hj hw
        · obtain ⟨b, hb, hd⟩ := hw
          rw [hc] at hb; cases hb
          exact ht hd
theorem Trace.all (hE : EnOK E) (T : Trace E ops S cls) {In : Nat → Prop} (hIn : ∀ j, j < ops.toList.length → In j) {st : St} (h : Inv ops S cls In st) : st = S ops.toList.length := by
  have e1 : st.fr = (S ops.toList.length).fr := by
    apply List.ext_getElem?
    intro t
    rcases h.slot t with ⟨j, hj, hw, hlast, he⟩ | ⟨hno, he⟩
    · obtain ⟨b, hb, hd⟩ := hw
      have hlt := length_of_get hb
      rw [he]
      have := Trace.slots hE T (t := t) (ops.toList.length - (j + 1)) (j + 1) (by omega) (fun k h1 h2 hw' => by
        have := hlast k (hIn k (by omega)) hw'
        omega)
      rw [show j + 1 + (ops.toList.length - (j + 1)) = ops.toList.length by omega] at this; exact this.symm
    · rw [he]
      have := Trace.slots hE T (t := t) ops.toList.length 0 (by omega) (fun k h1 h2 hw' => hno k (hIn k (by omega)) hw')
      rw [Nat.zero_add] at this
      exact this.symm
  have e2 : st.hp = (S ops.toList.length).hp := by
    apply pl_ext
    intro p
    rcases h.heap p with ⟨j, hj, hw, hlast, he⟩ | ⟨hno, he⟩
    · obtain ⟨b, hb, hd⟩ := hw
      have hlt := length_of_get hb
      rw [T.len] at hlt
      rw [he]
      have := Trace.heaps hE T (p := p) (ops.toList.length - (j + 1)) (j + 1) (by omega) (fun k h1 h2 hw' => by
        have := hlast k (hIn k (by omega)) hw'
        omega)
      rw [show j + 1 + (ops.toList.length - (j + 1)) = ops.toList.length by omega] at this; exact this.symm
    · rw [he]
      have := Trace.heaps hE T (p := p) ops.toList.length 0 (by omega) (fun k h1 h2 hw' => hno k (hIn k (by omega)) hw')
      rw [Nat.zero_add] at this
      exact this.symm
  cases st
  cases hS : S ops.toList.length
  rw [hS] at e1 e2
  simp_all
end
end
end Go.Cx
