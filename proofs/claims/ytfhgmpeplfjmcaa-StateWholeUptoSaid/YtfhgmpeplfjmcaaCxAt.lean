/- The text's run with its makers' numbers given before. -/
import Derived.Test.YtfhgmpeplfjmcaaCxAs
namespace Go.Cx
open Go.RowKit (Below)
set_option linter.unusedSimpArgs false
theorem wrOb_of {c : Ft} {h : Nat} (hw : c.wrs (.ob h)) : wrOb c h = true := by
  unfold Ft.wrs at hw
  unfold wrOb
  split at hw
  · rename_i R W e
    rw [e]
    obtain ⟨s, h1, h2⟩ := hw
    refine List.any_eq_true.2 ⟨s, h1, ?_⟩
    cases s <;> simp only [Spot.has] at h2 <;> simp [h2]
  · rename_i e
    rw [e]; exact hw
namespace M
noncomputable def runF (E : En) (all : List Oper) : Nat → List Oper → St → Option (St × List (Ft × List Nat))
  | _, [], st => some (st, [])
  | off, o :: l, st => match Go.Cx.stepF E all o st with
    | some (s0, _) => match stepF (List.range' off (s0.hp.length - st.hp.length)) E all o st with
      | some (st', c) => (runF E all (off + (s0.hp.length - st.hp.length)) l st').map fun r => (r.1, (c, List.range' off (s0.hp.length - st.hp.length)) :: r.2)
      | none => none
    | none => none
theorem runF_trace {E : En} {all : List Oper} : ∀ (l : List Oper) (off : Nat) (st st' : St) (r : List (Ft × List Nat)), runF E all off l st = some (st', r) →
    r.length = l.length ∧ ∃ S : Nat → St, S 0 = st ∧ S l.length = st' ∧ ∀ i o, l[i]? = some o → ∃ x, r[i]? = some x ∧ stepF x.2 E all o (S i) = some (S (i + 1), x.1)
  | [], off, st, st', r, h => by
    simp [runF] at h
    obtain ⟨rfl, rfl⟩ := h
    exact ⟨rfl, fun _ => st, rfl, rfl, fun i o h => by simp at h⟩
  | o :: l, off, st, st', r, h => by
    simp only [runF] at h
    split at h
    · split at h
      · rename_i s0 c0 hs0 st1 c hs
        simp only [Option.map_eq_some_iff] at h
        obtain ⟨⟨st2, cl2⟩, h1, h2⟩ := h
        simp only [Prod.mk.injEq] at h2
        obtain ⟨rfl, rfl⟩ := h2
        obtain ⟨hl, S, hS0, hSn, hS⟩ := runF_trace l _ st1 st2 cl2 h1
        refine ⟨by simp [hl], fun i => match i with | 0 => st | i + 1 => S i, rfl, hSn, fun i o' ho => ?_⟩
        cases i with
        | zero =>
          simp at ho; subst ho
          exact ⟨_, rfl, by simp only [hS0]; exact hs⟩
        | succ i => exact hS i o' (by simpa using ho)
      · simp at h
    · simp at h
theorem draws_run {E : En} {ops : Array Oper} (hE : EnOK E) (hm : E.P.follows .mixedOrders = true) {st st' : St} {m n : Nat} {r : List (Ft × List Nat)}
    (h : runF E ops.toList st.hp.length ops.toList ⟨st.fr, st.hp ++ List.replicate m .hole⟩ = some (st', r)) (hok : okRun ops.toList st.hp.length m st' r n = true)
    {g0 : Gh} {Q : Exit → Act → World → Prop} (hQ : ∀ g a w, Rel g0 g ⟨st'.fr, st'.hp.take n⟩ a w → Q .normal a w) {id : Nat} {g : Gh} {a : Act} {w : World} (hr : Rel g0 g st a w) :
    (Code.region id ops true).wp E.P Q a w := by
  simp only [okRun, Bool.and_eq_true] at hok
  obtain ⟨⟨⟨k1, k2⟩, k3⟩, k4⟩ := hok
  obtain ⟨hl, S, hS0, hSn, hS⟩ := runF_trace _ _ _ _ _ h
  have hfof : ∀ {i : Nat} {x : Ft × List Nat}, r[i]? = some x → ((r[i]?).map (·.2)).getD [] = x.2 := fun e => by rw [e]; rfl
  have T : Trace (fun i => ((r[i]?).map (·.2)).getD []) E ops S (r.map (·.1)) := by
    refine ⟨by simp [hl], fun i o ho => ?_, k1⟩
    obtain ⟨x, e1, e2⟩ := hS i o ho
    exact ⟨x.1, by rw [List.getElem?_map, e1]; rfl, by rw [hfof e1]; exact e2⟩
  have inr : ∀ {i h : Nat}, h ∈ ((r[i]?).map (·.2)).getD [] → ∃ x, r[i]? = some x ∧ h ∈ x.2 := by
    intro i h hm
    cases e : r[i]? with
    | none => rw [e] at hm; simp at hm
    | some x => rw [e] at hm; exact ⟨x, rfl, hm⟩
  refine draws_of (m := m) (n := n) hE hm T (fun i j c h hij hmem hc hw => ?_) (fun i h hmem => ?_) hS0 (fun o ho => ?_) (fun g a w hr => hQ g a w (by rw [← hSn]; exact hr)) hr
  · obtain ⟨x, e1, e2⟩ := inr hmem
    rw [List.getElem?_map, Option.map_eq_some_iff] at hc
    obtain ⟨y, e3, rfl⟩ := hc
    have a1 := List.all_eq_true.1 (List.all_eq_true.1 k2 i (List.mem_range.2 (length_of_get e1))) j (List.mem_range.2 (length_of_get e3))
    simp only [e1, e3, Bool.or_eq_true, beq_iff_eq, hij, false_or] at a1
    have := List.all_eq_true.1 a1 h e2
    rw [wrOb_of hw] at this
    simp at this
  · obtain ⟨x, e1, e2⟩ := inr hmem
    have := List.all_eq_true.1 (List.all_eq_true.1 k3 x (List.mem_of_getElem? e1)) h e2
    simp only [decide_eq_true_eq] at this
    rw [hS0]
    show (st.hp ++ List.replicate m Ob.hole)[h]? = _
    rw [List.getElem?_append_right this.1, List.getElem?_replicate, if_pos (by omega)]
  · have := List.all_eq_true.1 k4 o (by rw [← hSn]; exact ho)
    cases o <;> simp [isHole] at this ⊢
end M
end Go.Cx
