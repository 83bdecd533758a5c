/- Single operations: memory. -/
import Derived.Test.YtfhgmpeplfjmcaaCxD
namespace Go.Cx
open Go.RowKit (Below)
set_option linter.unusedSimpArgs false
theorem add_none (b o i : Nat) : (⟨b, o, none⟩ : Addr).add i = ⟨b, o + i, none⟩ := by
  unfold Addr.add; split <;> simp_all
section
variable {P : Program} {g : Gh} {w : World}
def Lies (w : World) (b o : Nat) (vs : List Value) : Prop := ∀ (i : Nat) (v : Value), vs[i]? = some v → w.cell? ⟨b, o + i, none⟩ = some v
theorem Lies.drop {b o : Nat} {vs : List Value} (h : Lies w b o vs) (n : Nat) : Lies w b (o + n) (vs.drop n) := by
  intro i v hv
  rw [List.getElem?_drop] at hv
  have := h (n + i) v hv
  rwa [Nat.add_assoc]
theorem Lies.take {b o : Nat} {vs : List Value} (h : Lies w b o vs) (n : Nat) : Lies w b o (vs.take n) := by
  intro i v hv
  rw [List.getElem?_take] at hv
  split at hv
  · exact h i v hv
  · simp at hv
theorem load_lies {b o : Nat} {vs : List Value} (h : Lies w b o vs) : (loadCells ⟨b, o, none⟩ vs.length).run P w = .ok vs.toArray w :=
  run_loadCells_list w ⟨b, o, none⟩ vs fun j v hv => by rw [add_none]; exact h j v hv
theorem lies_at (h : ∀ b o v, g.imm b o = some v → w.cell? ⟨b, o, none⟩ = some v) {b o : Nat} {vs : List Value} (k : At g b o vs) : Lies w b o vs := fun i v hv => h _ _ _ (k i v hv)
theorem lies_block {b : Nat} {vs : Array Value} {ty : TypeId} {fz : Nat × Nat} (h : w.heap[b]? = some (.cells vs ty fz)) : Lies w b 0 vs.toList := by
  intro i v hv
  simp only [Nat.zero_add, World.cell?, h]
  simpa using hv
def isAggD : TypeDesc → Bool
  | .struct _ | .array _ _ => true
  | _ => false
theorem isAgg_run {t : TypeId} {d : TypeDesc} (h : P.underlying t = some d) : (isAgg t).run P w = .ok (isAggD d) w := by
  simp only [isAgg, Sem.run_bind, run_underlying h, Result.andThen_ok]
  cases d <;> rfl
theorem tk_agg {t : TypeId} (h : (∃ l, tk P t = .struct l) ∨ (∃ n e, tk P t = .array n e)) : ∃ d, P.underlying t = some d ∧ (isAggD d) = true := by
  rcases h with ⟨l, h⟩ | ⟨n, e, h⟩
  · obtain ⟨fs, hu, _⟩ := tk_struct h; exact ⟨_, hu, rfl⟩
  · exact ⟨_, tk_array h, rfl⟩
theorem tk_unsafe {t : TypeId} (h : tk P t = .unsafeP) : P.underlying t = some .unsafePointer := by
  rw [tk_def] at h; split at h <;> simp_all
theorem tk_plain {t : TypeId} (h1 : ∀ l, tk P t ≠ .struct l) (h2 : ∀ n e, tk P t ≠ .array n e) (h3 : tk P t ≠ .other) :
    ∃ d, P.underlying t = some d ∧ (isAggD d) = false := by
  cases hk : tk P t with
  | int k => exact ⟨_, tk_int hk, rfl⟩
  | bool => exact ⟨_, tk_bool hk, rfl⟩
  | str => exact ⟨_, tk_str hk, rfl⟩
  | slice e => exact ⟨_, tk_slice hk, rfl⟩
  | array n e => exact absurd hk (h2 n e)
  | struct l => exact absurd hk (h1 l)
  | pointer e => exact ⟨_, tk_pointer hk, rfl⟩
  | func => obtain ⟨a, b, c, h⟩ := tk_func hk; exact ⟨_, h, rfl⟩
  | unsafeP => exact ⟨_, tk_unsafe hk, rfl⟩
  | other => exact absurd hk h3
theorem VL.aggV {cs : List AV} {vs : List Value} (h : VL g cs vs) : V g (.agg cs) (.agg vs.toArray) := .agg _ _ (by simpa using h.1) (by simpa using h.2)
theorem fromCells_sound {t : TypeId} {cs : List AV} {off : Nat} {v : AV} (h : fromCells none P t cs off some = some v) {vs : List Value} (hc : VL g cs vs) :
    (∀ (b o : Nat), Lies w b o vs → ∃ cv, (loadVar t ⟨b, o + off, none⟩).run P w = .ok cv w ∧ V g v cv) ∧ ∃ cv, (part t vs.toArray off).run P w = .ok cv w ∧ V g v cv := by
  unfold fromCells at h
  split at h
  · rename_i l ht
    split at h <;> simp at h
    rename_i hle; subst h
    obtain ⟨d, hu, hd⟩ := tk_agg (.inl ⟨l, ht⟩)
    have hv := ((hc.drop off).take (sizeA P t)).aggV
    have hl : ((vs.drop off).take (sizeA P t)).length = sizeA P t := by have := hc.1; simp; omega
    refine ⟨fun b o hL => ⟨_, ?_, hv⟩, ⟨_, ?_, hv⟩⟩
    · have := load_lies (P := P) ((hL.drop off).take (sizeA P t))
      rw [hl] at this
      simp only [loadVar, Sem.run_bind, isAgg_run hu, hd, Result.andThen_ok, if_true, run_sizeOf_u hu, this]
      rfl
    · simp only [part, Sem.run_bind, isAgg_run hu, hd, Result.andThen_ok, if_true, run_sizeOf_u hu]
      simp only [Sem.run_pure, List.extract_toArray, List.extract_eq_take_drop, Nat.add_sub_cancel_left]
  · rename_i n e ht
    split at h <;> simp at h
    rename_i hle; subst h
    obtain ⟨d, hu, hd⟩ := tk_agg (.inr ⟨n, e, ht⟩)
    have hv := ((hc.drop off).take (sizeA P t)).aggV
    have hl : ((vs.drop off).take (sizeA P t)).length = sizeA P t := by have := hc.1; simp; omega
    refine ⟨fun b o hL => ⟨_, ?_, hv⟩, ⟨_, ?_, hv⟩⟩
    · have := load_lies (P := P) ((hL.drop off).take (sizeA P t))
      rw [hl] at this
      simp only [loadVar, Sem.run_bind, isAgg_run hu, hd, Result.andThen_ok, if_true, run_sizeOf_u hu, this]
      rfl
    · simp only [part, Sem.run_bind, isAgg_run hu, hd, Result.andThen_ok, if_true, run_sizeOf_u hu]
      simp only [Sem.run_pure, List.extract_toArray, List.extract_eq_take_drop, Nat.add_sub_cancel_left]
  · simp at h
  · rename_i h1 h2 h3
    obtain ⟨d, hu, hd⟩ := tk_plain (fun l e => h1 l e) (fun n e k => h2 n e k) h3
    split at h <;> simp at h
    rename_i v' hv'; subst h
    obtain ⟨cv, hcv, hV⟩ := hc.get hv'
    refine ⟨fun b o hL => ⟨cv, ?_, hV⟩, ⟨cv, ?_, hV⟩⟩
    · simp only [loadVar, Sem.run_bind, isAgg_run hu, hd, Result.andThen_ok, Bool.false_eq_true, if_false, run_load, hL off cv hcv]
    · simp only [part, Sem.run_bind, isAgg_run hu, hd, Result.andThen_ok, Bool.false_eq_true, if_false]
      simp [hcv]
end
end Go.Cx
