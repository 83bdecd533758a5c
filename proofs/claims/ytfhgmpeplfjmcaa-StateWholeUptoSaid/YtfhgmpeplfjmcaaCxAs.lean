/- Holes put behind a heap, and dropped again; a region, its makers' numbers given before. -/
import Derived.Test.YtfhgmpeplfjmcaaCxAr
namespace Go.Cx
open Go.RowKit (Below)
set_option linter.unusedSimpArgs false
theorem R.holes {g : Gh} {w : World} {hp : List Ob} (h : R g w hp) (m : Nat) : R g w (hp ++ List.replicate m .hole) := by
  have back : ∀ i, hp.length ≤ i → (hp ++ List.replicate m Ob.hole)[i]? = none ∨ (hp ++ List.replicate m Ob.hole)[i]? = some .hole := by
    intro i hi
    rw [List.getElem?_append_right hi, List.getElem?_replicate]
    split
    · exact .inr rfl
    · exact .inl rfl
  have front : ∀ i, i < hp.length → (hp ++ List.replicate m Ob.hole)[i]? = hp[i]? := fun i hi => List.getElem?_append_left hi
  refine ⟨h.below, h.base, h.frz, h.imm, fun i => ?_, fun i j b hij hi hj oi oj => ?_⟩
  · rcases Nat.lt_or_ge i hp.length with hi | hi
    · rw [front i hi]; exact h.objs i
    · rcases back i hi with e | e <;> rw [e] <;> exact h.none_blk hi
  · have lt : ∀ {i b}, own g i b → i < hp.length := by
      intro i b o
      rcases Nat.lt_or_ge i hp.length with hi | hi
      · exact hi
      · have := h.none_blk hi
        rcases o with o | ⟨_, _, _, o⟩
        · rw [this.1] at o; simp at o
        · rw [this.2] at o; simp at o
    rw [front i (lt oi)] at hi
    rw [front j (lt oj)] at hj
    exact h.inj i j b hij hi hj oi oj
theorem R.unhole {g : Gh} {w : World} {hp : List Ob} (h : R g w hp) (n : Nat) (hn : ∀ o ∈ hp.drop n, o = .hole) : R g w (hp.take n) := by
  have back : ∀ i, n ≤ i → g.blk i = none ∧ g.cur i = none := by
    intro i hi
    have k := h.objs i
    cases ho : hp[i]? with
    | none => rw [ho] at k; exact k
    | some o =>
      have : o = .hole := hn o (List.mem_of_getElem? (i := i - n) (by rw [List.getElem?_drop, show n + (i - n) = i by omega]; exact ho))
      subst this; rw [ho] at k; exact k
  have front : ∀ i, i < n → (hp.take n)[i]? = hp[i]? := fun i hi => by rw [List.getElem?_take, if_pos hi]
  refine ⟨h.below, h.base, h.frz, h.imm, fun i => ?_, fun i j b hij hi hj oi oj => ?_⟩
  · rcases Nat.lt_or_ge i n with hi | hi
    · rw [front i hi]; exact h.objs i
    · rw [List.getElem?_take, if_neg (by omega)]; exact back i hi
  · have lt : ∀ {i b}, own g i b → i < n := by
      intro i b o
      rcases Nat.lt_or_ge i n with hi | hi
      · exact hi
      · have := back i hi
        rcases o with o | ⟨_, _, _, o⟩
        · rw [this.1] at o; simp at o
        · rw [this.2] at o; simp at o
    rw [front i (lt oi)] at hi
    rw [front j (lt oj)] at hj
    exact h.inj i j b hij hi hj oi oj
namespace M
theorem draws_of {hf : Nat → List Nat} {E : En} {ops : Array Oper} {S : Nat → St} {cls : List Ft} (hE : EnOK E) (hm : E.P.follows .mixedOrders = true) (T : Trace hf E ops S cls)
    (hA : ∀ i j c h, i ≠ j → h ∈ hf i → cls[j]? = some c → ¬ c.wrs (.ob h)) (hH : ∀ i h, h ∈ hf i → (S 0).hp[h]? = some .hole)
    {st : St} {m n : Nat} (h0 : S 0 = ⟨st.fr, st.hp ++ List.replicate m .hole⟩) (hn : ∀ o ∈ (S ops.toList.length).hp.drop n, o = .hole)
    {g0 : Gh} {Q : Exit → Act → World → Prop} (hQ : ∀ g a w, Rel g0 g ⟨(S ops.toList.length).fr, (S ops.toList.length).hp.take n⟩ a w → Q .normal a w) {id : Nat} {g : Gh} {a : Act} {w : World} (hr : Rel g0 g st a w) :
    (Code.region id ops true).wp E.P Q a w := by
  refine wp_region_any hm (any_sound hE T hA hH (fun g a w hr => hQ g a w ⟨hr.le, hr.r.unhole n hn, hr.vl, hr.defers⟩) ops.size _ (S 0) (by simp) ?_ ?_ ?_ g a _ ⟨hr.le, by rw [h0]; exact (hr.r.holes m).drew, by rw [h0]; exact hr.vl, hr.defers⟩)
  · unfold unlisted
    exact Nat.le_trans (List.length_filter_le _ _) (by simp)
  · intro k o hk hkl
    exfalso
    simp [Array.getD] at hkl
  · have hno : ∀ j, ¬ ((Array.replicate ops.size false).getD j false = true) := by
      intro j hj
      simp [Array.getD] at hj
    exact ⟨rfl, fun t => .inr ⟨fun j hj => absurd hj (hno j), rfl⟩, fun p => .inr ⟨fun j hj => absurd hj (hno j), rfl⟩⟩
end M
end Go.Cx
