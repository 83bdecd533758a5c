/- Single operations: memory. -/
import Derived.Test.YthapkffhmekmcaaDoorCxD
section
namespace Go.Cx
open Go.RowKit (Below)
set_option linter.unusedSimpArgs false

theorem add_none (b o i : Nat) : (⟨b, o, none⟩ : Addr).add i = ⟨b, o + i, none⟩ := by
  unfold Addr.add; split <;> simp_all

section
variable {P : Program} {g : Gh} {w : World}

/-- Cells that lie one behind the other. -/
def Lies (w : World) (b o : Nat) (vs : List Value) : Prop := ∀ (i : Nat) (v : Value), vs[i]? = some v → w.cell? ⟨b, o + i, none⟩ = some v

theorem Lies.drop {b o : Nat} {vs : List Value} (h : Lies w b o vs) (n : Nat) : Lies w b (o + n) (vs.drop n) := by
  intro i v hv
  rw [List.getElem?_drop] at hv
  have := h (n + i) v hv
  rwa [Nat.add_assoc]
theorem Lies.take {b o : Nat} {vs : List Value} (h : Lies w b o vs) (n : Nat) : Lies w b o (vs.take n) := by
  intro i v hv
  rw [List.getElem?_take] at hv
  split at hv
  · exact h i v hv
  · simp at hv

theorem load_lies {b o : Nat} {vs : List Value} (h : Lies w b o vs) : (loadCells ⟨b, o, none⟩ vs.length).run P w = .ok vs.toArray w :=
  run_loadCells_list w ⟨b, o, none⟩ vs fun j v hv => by rw [add_none]; exact h j v hv

theorem lies_at (h : ∀ b o v, g.imm b o = some v → w.cell? ⟨b, o, none⟩ = some v) {b o : Nat} {vs : List Value} (k : At g b o vs) : Lies w b o vs := fun i v hv => h _ _ _ (k i v hv)

theorem lies_block {b : Nat} {vs : Array Value} {ty : TypeId} {fz : Nat × Nat} (h : w.heap[b]? = some (.cells vs ty fz)) : Lies w b 0 vs.toList := by
  intro i v hv
  simp only [Nat.zero_add, World.cell?, h]
  simpa using hv

def isAggD : TypeDesc → Bool
  | .struct _ | .array _ _ => true
  | _ => false

theorem isAgg_run {t : TypeId} {d : TypeDesc} (h : P.underlying t = some d) : (isAgg t).run P w = .ok (isAggD d) w := by
  simp only [isAgg, Sem.run_bind, run_underlying h, Result.andThen_ok]
  cases d <;> rfl

theorem tk_agg {t : TypeId} (h : (∃ l, tk P t = .struct l) ∨ (∃ n e, tk P t = .array n e)) : ∃ d, P.underlying t = some d ∧ (isAggD d) = true := by
  rcases h with ⟨l, h⟩ | ⟨n, e, h⟩
  · obtain ⟨fs, hu, _⟩ := tk_struct h; exact ⟨_, hu, rfl⟩
  · exact ⟨_, tk_array h, rfl⟩

theorem tk_unsafe {t : TypeId} (h : tk P t = .unsafeP) : P.underlying t = some .unsafePointer := by
  rw [tk_def] at h; split at h <;> simp_all
theorem tk_plain {t : TypeId} (h1 : ∀ l, tk P t ≠ .struct l) (h2 : ∀ n e, tk P t ≠ .array n e) (h3 : tk P t ≠ .other) :
    ∃ d, P.underlying t = some d ∧ (isAggD d) = false := by
  cases hk : tk P t with
  | int k => exact ⟨_, tk_int hk, rfl⟩
  | bool => exact ⟨_, tk_bool hk, rfl⟩
  | str => exact ⟨_, tk_str hk, rfl⟩
  | slice e => exact ⟨_, tk_slice hk, rfl⟩
  | array n e => exact absurd hk (h2 n e)
  | struct l => exact absurd hk (h1 l)
  | pointer e => exact ⟨_, tk_pointer hk, rfl⟩
  | func => obtain ⟨a, b, c, h⟩ := tk_func hk; exact ⟨_, h, rfl⟩
  | unsafeP => exact ⟨_, tk_unsafe hk, rfl⟩
  | other => exact absurd hk h3

theorem VL.aggV {cs : List AV} {vs : List Value} (h : VL g cs vs) : V g (.agg cs) (.agg vs.toArray) := .agg _ _ (by simpa using h.1) (by simpa using h.2)

theorem fromCells_sound {t : TypeId} {cs : List AV} {off : Nat} {v : AV} (h : fromCells none P t cs off some = some v) {vs : List Value} (hc : VL g cs vs) :
    (∀ (b o : Nat), Lies w b o vs → ∃ cv, (loadVar t ⟨b, o + off, none⟩).run P w = .ok cv w ∧ V g v cv) ∧ ∃ cv, (part t vs.toArray off).run P w = .ok cv w ∧ V g v cv := by
  unfold fromCells at h
  split at h
  · rename_i l ht
    split at h <;> simp at h
    rename_i hle; subst h
    obtain ⟨d, hu, hd⟩ := tk_agg (.inl ⟨l, ht⟩)
    have hv := ((hc.drop off).take (sizeA P t)).aggV
    have hl : ((vs.drop off).take (sizeA P t)).length = sizeA P t := by have := hc.1; simp; omega
    refine ⟨fun b o hL => ⟨_, ?_, hv⟩, ⟨_, ?_, hv⟩⟩
    · have := load_lies (P := P) ((hL.drop off).take (sizeA P t))
      rw [hl] at this
      simp only [loadVar, Sem.run_bind, isAgg_run hu, hd, Result.andThen_ok, if_true, run_sizeOf_u hu, this]
      rfl
    · simp only [part, Sem.run_bind, isAgg_run hu, hd, Result.andThen_ok, if_true, run_sizeOf_u hu]
      simp only [Sem.run_pure, List.extract_toArray, List.extract_eq_take_drop, Nat.add_sub_cancel_left]
  · rename_i n e ht
    split at h <;> simp at h
    rename_i hle; subst h
    obtain ⟨d, hu, hd⟩ := tk_agg (.inr ⟨n, e, ht⟩)
    have hv := ((hc.drop off).take (sizeA P t)).aggV
    have hl : ((vs.drop off).take (sizeA P t)).length = sizeA P t := by have := hc.1; simp; omega
    refine ⟨fun b o hL => ⟨_, ?_, hv⟩, ⟨_, ?_, hv⟩⟩
    · have := load_lies (P := P) ((hL.drop off).take (sizeA P t))
      rw [hl] at this
      simp only [loadVar, Sem.run_bind, isAgg_run hu, hd, Result.andThen_ok, if_true, run_sizeOf_u hu, this]
      rfl
    · simp only [part, Sem.run_bind, isAgg_run hu, hd, Result.andThen_ok, if_true, run_sizeOf_u hu]
      simp only [Sem.run_pure, List.extract_toArray, List.extract_eq_take_drop, Nat.add_sub_cancel_left]
  · simp at h
  · rename_i h1 h2 h3
    obtain ⟨d, hu, hd⟩ := tk_plain (fun l e => h1 l e) (fun n e k => h2 n e k) h3
    split at h <;> simp at h
    rename_i v' hv'; subst h
    obtain ⟨cv, hcv, hV⟩ := hc.get hv'
    refine ⟨fun b o hL => ⟨cv, ?_, hV⟩, ⟨cv, ?_, hV⟩⟩
    · simp only [loadVar, Sem.run_bind, isAgg_run hu, hd, Result.andThen_ok, Bool.false_eq_true, if_false, run_load, hL off cv hcv]
    · simp only [part, Sem.run_bind, isAgg_run hu, hd, Result.andThen_ok, Bool.false_eq_true, if_false]
      simp [hcv]
end

end Go.Cx

end

section
namespace Go.Cx
open Go.RowKit (Below)
set_option linter.unusedSimpArgs false

mutual
theorem Sh.beq_eq : ∀ (a b : Sh), a.beq b = true → a = b
  | .int k, .int k', h => by simp [Sh.beq] at h; subst h; rfl
  | .bool, .bool, _ => rfl
  | .str, .str, _ => rfl
  | .any, .any, _ => rfl
  | .slice n s, .slice n' s', h => by
    simp [Sh.beq] at h
    obtain ⟨rfl, h⟩ := h
    rw [Sh.beq_eq s s' h]
  | .agg l, .agg l', h => by
    simp [Sh.beq] at h
    rw [Sh.beqL_eq l l' h]
  | .int _, .bool, h | .int _, .str, h | .int _, .slice .., h | .int _, .agg _, h | .int _, .any, h => by simp [Sh.beq] at h
  | .bool, .int _, h | .bool, .str, h | .bool, .slice .., h | .bool, .agg _, h | .bool, .any, h => by simp [Sh.beq] at h
  | .str, .int _, h | .str, .bool, h | .str, .slice .., h | .str, .agg _, h | .str, .any, h => by simp [Sh.beq] at h
  | .slice .., .int _, h | .slice .., .bool, h | .slice .., .str, h | .slice .., .agg _, h | .slice .., .any, h => by simp [Sh.beq] at h
  | .agg _, .int _, h | .agg _, .bool, h | .agg _, .str, h | .agg _, .slice .., h | .agg _, .any, h => by simp [Sh.beq] at h
  | .any, .int _, h | .any, .bool, h | .any, .str, h | .any, .slice .., h | .any, .agg _, h => by simp [Sh.beq] at h
theorem Sh.beqL_eq : ∀ (a b : List Sh), Sh.beqL a b = true → a = b
  | [], [], _ => rfl
  | a :: l, b :: l', h => by
    simp [Sh.beqL] at h
    rw [Sh.beq_eq a b h.1, Sh.beqL_eq l l' h.2]
  | [], _ :: _, h => by simp [Sh.beqL] at h
  | _ :: _, [], h => by simp [Sh.beqL] at h
end

theorem oneCell_V {g : Gh} {c : AV} {x : Value} (hc : oneCell c = true) (hv : V g c x) : x.oneCell' = true := by
  cases hv <;> first | rfl | simp [oneCell] at hc

/-- A value whose cells are one each. -/
theorem cells_V {g : Gh} {v : AV} {cv : Value} (h : V g v cv) (h1 : (cells v).all oneCell = true) :
    VL g (cells v) cv.cells.toList ∧ ∀ x ∈ cv.cells.toList, x.oneCell' = true := by
  have one : ∀ {c : AV} {x : Value}, oneCell c = true → V g c x → x.oneCell' = true := by
    intro c x hc hv; cases hv <;> first | rfl | simp [oneCell] at hc
  cases v with
  | agg cs =>
    cases h with
    | agg _ vs hl hv =>
      simp only [cells] at h1 ⊢
      refine ⟨⟨by simpa [Value.cells] using hl, by simpa [Value.cells] using hv⟩, fun x hx => ?_⟩
      simp only [Value.cells] at hx
      obtain ⟨i, hi⟩ := List.getElem?_of_mem hx
      have hlt := length_of_get hi
      have : i < cs.length := by simp at hlt; omega
      have hc : cs[i]? = some cs[i] := by simp [this]
      exact one (List.all_eq_true.1 h1 _ (List.getElem_mem this)) (hv i _ x hc (by simpa using hi))
  | tuple cs => simp [cells, oneCell] at h1
  | junk => simp [cells, oneCell] at h1
  | _ =>
    have hc : cv.cells = #[cv] := by cases h <;> rfl
    rw [hc]
    refine ⟨VL.cons h (VL.nil g), fun x hx => ?_⟩
    simp at hx; subst hx
    cases h <;> rfl

/-- A shorter list of elements. -/
theorem slice_weak {g : Gh} {sz : Nat} {sh : Sh} {xs : List AV} {k : SK} {v : Value} (h : V g (.slice sz sh xs k) v) : V g (.slice sz sh xs .ro) v := by
  cases h with
  | slice _ _ _ _ vs b o c h1 h2 h3 h4 h5 h6 => exact .slice _ _ _ _ vs b o c h1 h2 h3 h4 h5 h6
  | slice0 => exact .slice0 _ _
  | slice1 => exact .slice1 _ _ _ _ _

theorem flat_append (a b : List AV) : flat (a ++ b) = flat a ++ flat b := by simp [flat]

theorem fslice_weak {g : Gh} {sz : Nat} {sh : Sh} {xs ys : List AV} {v : Value} (h : V g (.fslice sz sh xs ys) v) : V g (.slice sz sh xs .nn) v := by
  cases h with
  | fslice _ _ _ _ vs b o h1 h2 h3 h4 h5 =>
    rw [flat_append] at h1 h2
    have hvl : VL g (flat xs ++ flat ys) vs := ⟨h1, h2⟩
    have ht := hvl.take (flat xs).length
    rw [List.take_left'  rfl] at ht
    refine .slice _ _ _ _ (vs.take (flat xs).length) b o _ ht.1 ht.2 (fun i v hv => ?_) (fun x hx => h4 x (by simp [hx])) (by simp) (by simp at h5; omega)
    rw [List.getElem?_take] at hv
    split at hv
    · exact h3 i v hv
    · simp at hv

theorem getF_agg (cs : List AV) (i : Nat) : getF (.agg cs) i = cs.getD i .junk := rfl

mutual
theorem fit_sound : ∀ (sh : Sh) (v v' : AV), fit sh v = some v' → reshape sh v' = v' ∧ (∀ g cv, V g v cv → V g v' cv) ∧ (cells v').length = (cells v).length ∧ (cells v').all oneCell = true
  | .int k, v, v', h => by
    cases v <;> simp [fit] at h
    obtain ⟨rfl, rfl⟩ := h
    exact ⟨rfl, fun _ _ h => h, rfl, rfl⟩
  | .bool, v, v', h => by cases v <;> simp [fit] at h; subst h; exact ⟨rfl, fun _ _ h => h, rfl, rfl⟩
  | .str, v, v', h => by cases v <;> simp [fit] at h; subst h; exact ⟨rfl, fun _ _ h => h, rfl, rfl⟩
  | .slice sz sh, v, v', h => by
    cases v <;> simp [fit] at h
    · subst h; exact ⟨rfl, fun g cv h => by cases h; exact .slice0 _ _, rfl, rfl⟩
    · obtain ⟨⟨rfl, hb⟩, rfl⟩ := h
      have := Sh.beq_eq _ _ hb; subst this
      exact ⟨rfl, fun g cv h => slice_weak h, rfl, rfl⟩
    · obtain ⟨⟨rfl, hb⟩, rfl⟩ := h
      have := Sh.beq_eq _ _ hb; subst this
      exact ⟨rfl, fun g cv h => slice_weak (fslice_weak h), rfl, rfl⟩
  | .agg l, v, v', h => by
    cases v <;> simp [fit] at h
    rename_i cs
    obtain ⟨cs', h, rfl⟩ := h
    obtain ⟨h1, h2, h3, h4⟩ := fitL_sound l cs cs' h
    refine ⟨by simp only [reshape]; rw [h1 (.agg cs') 0 (fun j hj => by simp [getF_agg])], fun g cv hv => ?_, by simp [cells, h3], by simpa [cells] using h4⟩
    cases hv with
    | agg _ vs hl hv =>
      have := h2 g vs.toList ⟨by simpa using hl, by simpa using hv⟩
      exact .agg _ _ (by simpa using this.1) (by simpa using this.2)
  | .any, v, v', h => by
    cases v <;> simp [fit] at h <;> (subst h; exact ⟨rfl, fun _ _ h => h, rfl, rfl⟩)
theorem fitL_sound : ∀ (l : List Sh) (cs cs' : List AV), fitL l cs = some cs' →
    (∀ (x : AV) (i : Nat), (∀ j, j < cs'.length → getF x (i + j) = cs'.getD j .junk) → reshapeL l i x = cs') ∧ (∀ g vs, VL g cs vs → VL g cs' vs) ∧ cs'.length = cs.length ∧ cs'.all oneCell = true
  | [], [], cs', h => by simp [fitL] at h; subst h; exact ⟨fun _ _ _ => rfl, fun _ _ h => h, rfl, rfl⟩
  | [], _ :: _, _, h => by simp [fitL] at h
  | _ :: _, [], _, h => by simp [fitL] at h
  | s :: l, c :: cs, cs', h => by
    simp only [fitL] at h
    split at h
    · rename_i c' hc
      split at h
      · rename_i ho
        simp at h
        obtain ⟨cs'', hcs, rfl⟩ := h
        obtain ⟨h1, h2, h3, h4⟩ := fitL_sound l cs cs'' hcs
        obtain ⟨k1, k2, k3, k4⟩ := fit_sound s c c' hc
        refine ⟨fun x i hx => ?_, fun g vs hv => ?_, by simp [h3], by simp [ho, h4]⟩
        · simp only [reshapeL]
          have := hx 0 (by simp)
          simp at this
          rw [this, k1, h1 x (i + 1) (fun j hj => by have := hx (j + 1) (by simp; omega); rw [show i + 1 + j = i + (j + 1) by omega, this]; simp)]
        · obtain ⟨v, vs', rfl, v1, v2⟩ := hv.cons_inv
          exact VL.cons (k2 g v v1) (h2 g vs' v2)
      · simp at h
    · simp at h
end

theorem fit_cells {sh : Sh} {v v' : AV} (h : fit sh v = some v') {g : Gh} {vs : List Value} (hv : VL g (cells v) vs) : VL g (cells v') vs := by
  have plain : ∀ {v v' : AV}, cells v = [v] → cells v' = [v'] → fit sh v = some v' → VL g (cells v) vs → VL g (cells v') vs := by
    intro v v' e1 e2 h hv
    rw [e1] at hv; rw [e2]
    obtain ⟨x, vs', rfl, h1, h2⟩ := hv.cons_inv
    exact VL.cons ((fit_sound sh v v' h).2.1 g x h1) (h2.nil_inv ▸ VL.nil g)
  cases sh with
  | agg l =>
    cases v <;> simp [fit] at h
    obtain ⟨cs', h, rfl⟩ := h
    exact (fitL_sound l _ cs' h).2.1 g vs hv
  | _ =>
    cases v <;> first
      | (refine plain ?_ ?_ h hv <;> simp [fit] at h <;> first | rfl | (obtain ⟨_, rfl⟩ := h; rfl) | (subst h; rfl))
      | (simp [fit] at h; done)

theorem fitAll_sound (sh : Sh) : ∀ (xs xs' : List AV), fitAll sh xs = some xs' → (∀ x ∈ xs', reshape sh x = x ∧ (cells x).all oneCell = true) ∧ (∀ g vs, VL g (flat xs) vs → VL g (flat xs') vs) ∧ xs'.length = xs.length ∧
    (∀ n, (∀ x ∈ xs, (cells x).length = n) → ∀ x ∈ xs', (cells x).length = n)
  | [], xs', h => by simp [fitAll] at h; subst h; exact ⟨fun x hx => by simp at hx, fun _ _ h => h, rfl, fun _ _ x hx => by simp at hx⟩
  | x :: xs, xs', h => by
    simp only [fitAll] at h
    split at h
    · rename_i x' hx
      simp at h
      obtain ⟨xs'', hxs, rfl⟩ := h
      obtain ⟨h1, h2, h3, h4⟩ := fitAll_sound sh xs xs'' hxs
      obtain ⟨k1, k2, k3, k4⟩ := fit_sound sh x x' hx
      refine ⟨fun y hy => ?_, fun g vs hv => ?_, by simp [h3], fun n hn y hy => ?_⟩
      · simp at hy; rcases hy with rfl | hy
        · exact ⟨k1, k4⟩
        · exact h1 y hy
      · have e1 : flat (x :: xs) = cells x ++ flat xs := rfl
        have e2 : flat (x' :: xs'') = cells x' ++ flat xs'' := rfl
        rw [e1] at hv; rw [e2]
        have l1 : VL g (cells x) (vs.take (cells x).length) := by have := hv.take (cells x).length; rwa [List.take_left' rfl] at this
        have l2 : VL g (flat xs) (vs.drop (cells x).length) := by have := hv.drop (cells x).length; rwa [List.drop_left' rfl] at this
        have := (fit_cells hx l1).append (h2 g _ l2)
        rwa [List.take_append_drop] at this
      · simp at hy; rcases hy with rfl | hy
        · rw [k3]; exact hn x (by simp)
        · exact h4 n (fun z hz => hn z (by simp [hz])) y hy
    · simp at h

end Go.Cx

end

section
namespace Go.Cx
open Go.RowKit (Below)
set_option linter.unusedSimpArgs false

/- flat lists -/
theorem flat_cons (x : AV) (xs : List AV) : flat (x :: xs) = cells x ++ flat xs := rfl
theorem flat_len {sz : Nat} : ∀ {xs : List AV}, (∀ x ∈ xs, (cells x).length = sz) → (flat xs).length = xs.length * sz
  | [], _ => by simp [flat]
  | x :: xs, h => by
    rw [flat_cons, List.length_append, h x (by simp), flat_len (fun y hy => h y (by simp [hy])), List.length_cons, Nat.succ_mul, Nat.add_comm]
theorem flat_take {sz : Nat} : ∀ {xs : List AV} (n : Nat), (∀ x ∈ xs, (cells x).length = sz) → flat (xs.take n) = (flat xs).take (n * sz)
  | [], n, _ => by simp [flat]
  | x :: xs, 0, h => by simp [flat]
  | x :: xs, n + 1, h => by
    have hx := h x (by simp)
    rw [List.take_succ_cons, flat_cons, flat_cons, flat_take n (fun y hy => h y (by simp [hy])), List.take_append, hx, Nat.succ_mul]
    rw [List.take_of_length_le (l := cells x) (by omega), show n * sz + sz - sz = n * sz by omega]
theorem flat_drop {sz : Nat} : ∀ {xs : List AV} (n : Nat), (∀ x ∈ xs, (cells x).length = sz) → flat (xs.drop n) = (flat xs).drop (n * sz)
  | [], n, _ => by simp [flat]
  | x :: xs, 0, h => by simp [flat]
  | x :: xs, n + 1, h => by
    have hx := h x (by simp)
    rw [List.drop_succ_cons, flat_cons, flat_drop n (fun y hy => h y (by simp [hy])), List.drop_append, hx, Nat.succ_mul]
    rw [List.drop_of_length_le (l := cells x) (by omega), show n * sz + sz - sz = n * sz by omega]; rfl
theorem flat_seg {sz : Nat} {xs : List AV} {i : Nat} {x : AV} (h : ∀ x ∈ xs, (cells x).length = sz) (hx : xs[i]? = some x) : ((flat xs).drop (i * sz)).take sz = cells x := by
  rw [← flat_drop i h]
  have : xs.drop i = x :: xs.drop (i + 1) := by
    have hlt := length_of_get hx
    rw [List.drop_eq_getElem_cons hlt]
    congr 1
    rw [List.getElem?_eq_getElem hlt] at hx; exact Option.some.inj hx
  rw [this, flat_cons, List.take_left' (h x (List.mem_of_getElem? hx))]
theorem flat_set {sz : Nat} : ∀ {xs : List AV} {i : Nat} {y : AV}, (∀ x ∈ xs, (cells x).length = sz) → i < xs.length → flat (xs.set i y) = (flat xs).take (i * sz) ++ cells y ++ (flat xs).drop (i * sz + sz)
  | x :: xs, 0, y, h, _ => by
    have hx := h x (by simp)
    simp only [List.set_cons_zero, flat_cons, Nat.zero_mul, List.take_zero, List.nil_append, Nat.zero_add]
    rw [List.drop_left' hx]
  | x :: xs, i + 1, y, h, hi => by
    have hx := h x (by simp)
    simp only [List.set_cons_succ, flat_cons]
    rw [flat_set (fun z hz => h z (by simp [hz])) (by simpa using hi), Nat.succ_mul, List.take_append, List.drop_append, hx]
    rw [List.take_of_length_le (l := cells x) (by omega), List.drop_of_length_le (l := cells x) (by omega), show i * sz + sz - sz = i * sz by omega, show i * sz + sz + sz - sz = i * sz + sz by omega]
    simp

theorem elemAt_eq {sh : Sh} {xs : List AV} {i : Nat} {x : AV} (h : ∀ x ∈ xs, reshape sh x = x) (hx : xs[i]? = some x) : elemAt sh xs i = x := by
  unfold elemAt
  rw [List.getD_eq_getElem?_getD, hx]
  exact h x (List.mem_of_getElem? hx)

theorem grown_inv {α : Type} {hp : List Ob} {id ver len : Nat} {K : TypeId → Nat → Sh → List AV → Option α} {r : α} (h : grown none hp id ver len K = some r) :
    ∃ ty sz sh xs, hp[id]? = some (.grow ty ver sz sh xs) ∧ len = xs.length ∧ K ty sz sh xs = some r := by
  unfold grown at h
  split at h
  · rename_i ty ver' sz sh xs he
    obtain ⟨h1, k1⟩ := ask_some h
    obtain ⟨h2, k2⟩ := ask_some k1
    simp at h1 h2; subst h1
    exact ⟨ty, sz, sh, xs, he, h2, k2⟩
  · simp at h

theorem grownR_inv {α : Type} {hp : List Ob} {id ver len : Nat} {K : Nat → Sh → List AV → Option α} {r : α} (h : grownR none hp id ver len K = some r) :
    ∃ sz sh xs, ((∃ ty, hp[id]? = some (.grow ty ver sz sh xs)) ∨ hp[id]? = some (.froz ver sz sh xs)) ∧ len = xs.length ∧ K sz sh xs = some r := by
  unfold grownR at h
  split at h
  · rename_i ty ver' sz sh xs he
    obtain ⟨h1, k1⟩ := ask_some h
    obtain ⟨h2, k2⟩ := ask_some k1
    simp at h1 h2; subst h1
    exact ⟨sz, sh, xs, .inl ⟨ty, he⟩, h2, k2⟩
  · rename_i ver' sz sh xs he
    obtain ⟨h1, k1⟩ := ask_some h
    obtain ⟨h2, k2⟩ := ask_some k1
    simp at h1 h2; subst h1
    exact ⟨sz, sh, xs, .inr he, h2, k2⟩
  · simp at h

/-- What is known of an array that may grow. -/
structure GrowOK (g : Gh) (w : World) (id ver sz : Nat) (sh : Sh) (xs : List AV) (b c : Nat) (vs : Array Value) (ty : TypeId) (fz : Nat × Nat) : Prop where
  cur : g.cur id = some (ver, xs.length, some b, c)
  blk : g.blk id = none
  base : g.free b
  heap : w.heap[b]? = some (.cells vs ty fz)
  size : vs.size = c * sz
  pos : 0 < sz
  le : xs.length ≤ c
  vl : VL g (flat xs) (vs.toList.take (xs.length * sz))
  sh : ∀ x ∈ xs, reshape sh x = x ∧ (cells x).length = sz ∧ (cells x).all oneCell
  lim : xs.length < TOP
  imm : ∀ o, g.imm b o = none
  froz : ∀ o, o < vs.size → w.frozen? ⟨b, o, none⟩ = false
  soft : soft vs.size fz

section
variable {P : Program} {g : Gh} {w : World} {hp : List Ob}

/-- One that has no block yet. -/
structure VirtOK (g : Gh) (id ver sz : Nat) (xs : List AV) : Prop where
  nil : xs = []
  pos : 0 < sz
  cur : g.cur id = some (ver, 0, none, 0)
  blk : g.blk id = none

theorem VirtOK.slice {id ver sz : Nat} (k : VirtOK g id ver sz []) {cv : Value} (h : V g (.oslice id ver 0) cv) : cv = .slice none 0 0 := by
  cases h with
  | oslice _ _ _ b' c' x hx hh =>
    rw [k.cur] at hx; cases hx
    rcases hh with hh | ⟨_, _, hh⟩
    · omega
    · have := (hh rfl).1; simp at this
  | oslice0 _ _ x hx hh => rfl

theorem R.growOK (h : R g w hp) {ty : TypeId} {id ver sz : Nat} {sh : Sh} {xs : List AV} (he : hp[id]? = some (.grow ty ver sz sh xs)) : VirtOK g id ver sz xs ∨ ∃ b c vs fz, GrowOK g w id ver sz sh xs b c vs ty fz := by
  have := h.objs id
  rw [he] at this
  obtain ⟨k1, ⟨k0, k3, k2⟩ | ⟨b, c, vs, fz, k2, k3, k4, k5, k6, k7, k8, k9, klim, k10, k11, k12⟩⟩ := this
  · exact .inl ⟨k0, k3, k2, k1⟩
  right
  exact ⟨b, c, vs, fz, k2, k1, k3, k4, k5, k6, k7, k8, k9, klim, k10, k11, k12⟩

/-- A header of an array that is given up. -/
theorem R.frozV (h : R g w hp) {id ver sz : Nat} {sh : Sh} {xs : List AV} (he : hp[id]? = some (.froz ver sz sh xs)) {cv : Value} (hV : V g (.oslice id ver xs.length) cv) : V g (.slice sz sh xs .ro) cv := by
  have := h.objs id
  rw [he] at this
  obtain ⟨-, b, c, hc, hs⟩ := this
  generalize hn : xs.length = n at hV hc hs
  cases hV with
  | oslice _ _ _ b' c' x hx hh =>
    rw [hc] at hx; cases hx
    rcases hh with hh | ⟨_, _, hh⟩
    · omega
    · obtain ⟨h1, h2⟩ := hh rfl
      subst h1 h2; exact hs
  | oslice0 _ _ x hx hh =>
    rw [hc] at hx; cases hx
    rcases hh with hh | ⟨_, _, hh⟩
    · omega
    · obtain ⟨h1, h2⟩ := hh rfl
      subst h1 h2; exact hs

theorem R.frozP (h : R g w hp) {id ver sz : Nat} {sh : Sh} {xs : List AV} (he : hp[id]? = some (.froz ver sz sh xs)) {s i j : Nat} {cv : Value} (hV : V g (.optr id ver xs.length s i j) cv) : ∃ b c, cv = .pointer (some ⟨b, i * s + j, none⟩) ∧ V g (.slice sz sh xs .ro) (.slice (some ⟨b, 0, none⟩) xs.length c) := by
  have := h.objs id
  rw [he] at this
  obtain ⟨-, b, c, hc, hs⟩ := this
  generalize hn : xs.length = n at hV hc hs
  cases hV with
  | optr _ _ _ _ _ _ b' c' x hx hh =>
    rw [hc] at hx; cases hx
    rcases hh with hh | ⟨_, _, hh⟩
    · omega
    · obtain ⟨h1, h2⟩ := hh rfl
      subst h1 h2; exact ⟨_, _, rfl, hs⟩

theorem GrowOK.slice {id ver sz : Nat} {sh : Sh} {xs : List AV} {b c : Nat} {vs : Array Value} {ty : TypeId} {fz : Nat × Nat} (k : GrowOK g w id ver sz sh xs b c vs ty fz) {cv : Value}
    (h : V g (.oslice id ver xs.length) cv) : cv = .slice (some ⟨b, 0, none⟩) xs.length c := by
  have hc := k.cur
  generalize xs.length = n at h hc
  cases h with
  | oslice _ _ _ b' c' x hx hh =>
    rw [hc] at hx; cases hx
    rcases hh with hh | ⟨_, _, hh⟩
    · omega
    · have := hh rfl; simp at this; obtain ⟨rfl, rfl⟩ := this; rfl
  | oslice0 _ _ x hx hh =>
    rw [hc] at hx; cases hx
    rcases hh with hh | ⟨_, _, hh⟩
    · omega
    · have := (hh rfl).1; simp at this

theorem GrowOK.addr {id ver sz : Nat} {sh : Sh} {xs : List AV} {b c : Nat} {vs : Array Value} {ty : TypeId} {fz : Nat × Nat} (k : GrowOK g w id ver sz sh xs b c vs ty fz) {i j sz' : Nat} {cv : Value}
    (h : V g (.optr id ver xs.length sz' i j) cv) : cv = .pointer (some ⟨b, i * sz' + j, none⟩) := by
  cases h with
  | optr _ _ _ _ _ _ b' c' x hx hh =>
    rw [k.cur] at hx; cases hx
    rcases hh with hh | ⟨_, _, hh⟩
    · omega
    · have := hh rfl; simp at this; obtain ⟨rfl, rfl⟩ := this; rfl

theorem GrowOK.lies {id ver sz : Nat} {sh : Sh} {xs : List AV} {b c : Nat} {vs : Array Value} {ty : TypeId} {fz : Nat × Nat} (k : GrowOK g w id ver sz sh xs b c vs ty fz) : Lies w b 0 (vs.toList.take (xs.length * sz)) :=
  (lies_block k.heap).take _

theorem loadA_sound (h : R g w hp) {t : TypeId} {a v : AV} {c : Cls} (hl : loadA none P t a hp (fun v c => some (v, c)) = some (v, c)) {ca : Value} (ha : V g a ca) :
    ∃ cv, (Instr.loadAt t ca).run P w = .ok cv w ∧ V g v cv := by
  have cps : ∀ {cs : List AV} {off : Nat} {c' : Cls}, fromCells none P t cs off (fun v => some (v, c')) = some (v, c) → fromCells none P t cs off some = some v := by
    intro cs off c' hh
    unfold fromCells at hh ⊢
    split at hh
    · split at hh <;> simp at hh ⊢; simp_all
    · split at hh <;> simp at hh ⊢; simp_all
    · simp at hh
    · split at hh <;> simp at hh ⊢; simp_all
  unfold loadA at hl
  split at hl
  · rename_i id off
    split at hl
    · rename_i cs he
      have k := h.objs id
      rw [he] at k
      obtain ⟨_, b, vs, fz, k2, k3, k4, k5, k6, k7, k8⟩ := k
      cases ha with
      | ptr _ _ b' hb =>
        rw [k2] at hb; cases hb
        obtain ⟨cv, hr, hV⟩ := (fromCells_sound (w := w) (cps hl) k5).1 b 0 (lies_block k4)
        rw [Nat.zero_add] at hr
        exact ⟨cv, by simpa [Instr.loadAt, Instr.sureAddr] using hr, hV⟩
    · simp at hl
  · rename_i cs
    cases ha with
    | rptr _ vs b o h1 h2 h3 =>
      obtain ⟨cv, hr, hV⟩ := (fromCells_sound (w := w) (cps hl) ⟨h1, h2⟩).1 b o (lies_at h.imm h3)
      exact ⟨cv, by simpa [Instr.loadAt, Instr.sureAddr] using hr, hV⟩
  · rename_i id ver len sz i j
    obtain ⟨sz', sh, xs, he, rfl, hl⟩ := grownR_inv hl
    obtain ⟨hs, hl1⟩ := ask_some hl
    obtain ⟨hi, hl2⟩ := ask_some hl1
    clear hl hl1
    simp at hs hi; subst hs
    rcases he with ⟨tyo, he⟩ | he
    rotate_left
    · obtain ⟨b, cc, rfl, hs⟩ := h.frozP he ha
      cases hs with
      | slice1 => simp at hi
      | slice _ _ _ _ vs _ _ _ h1 h2 h3 h4 h5 h6 =>
        have hx : xs[i]? = some xs[i] := by simp [hi]
        rw [elemAt_eq (fun x hx => (h4 x hx).1) hx] at hl2
        have hw : ∀ x ∈ xs, (cells x).length = sz := fun x hx => (h4 x hx).2.1
        have hv := (VL.drop (i * sz) (show VL g (flat xs) vs from ⟨h1, h2⟩)).take sz
        rw [flat_seg hw hx] at hv
        obtain ⟨cv, hr, hV⟩ := (fromCells_sound (w := w) (cps hl2) hv).1 b (i * sz) (by have := ((lies_at h.imm h3).drop (i * sz)).take sz; rwa [Nat.zero_add] at this)
        exact ⟨cv, by simpa [Instr.loadAt, Instr.sureAddr] using hr, hV⟩
    rcases h.growOK he with k | ⟨b, cc, vs, fz, k⟩
    · rw [k.nil] at hi; simp at hi
    rw [k.addr ha]
    have hx : xs[i]? = some xs[i] := by simp [hi]
    rw [elemAt_eq (fun x hx => (k.sh x hx).1) hx] at hl2
    have hw : ∀ x ∈ xs, (cells x).length = sz := fun x hx => (k.sh x hx).2.1
    have hv := (k.vl.drop (i * sz)).take sz
    rw [flat_seg hw hx] at hv
    obtain ⟨cv, hr, hV⟩ := (fromCells_sound (w := w) (cps hl2) hv).1 b (i * sz) (by have := (k.lies.drop (i * sz)).take sz; rwa [Nat.zero_add] at this)
    exact ⟨cv, by simpa [Instr.loadAt, Instr.sureAddr] using hr, hV⟩
  · simp at hl

theorem setRange_VL : ∀ {vs : List AV} {cvs : List Value} {cs : List AV} {cur : Array Value} {off : Nat}, VL g vs cvs → VL g cs cur.toList → VL g (setRange cs off vs) (putR cur off cvs).toList
  | [], cvs, cs, cur, off, h, k => by rw [h.nil_inv]; exact k
  | v :: vs, cvs, cs, cur, off, h, k => by
    obtain ⟨cv, cvs', rfl, h1, h2⟩ := h.cons_inv
    rw [setRange, putR]
    exact setRange_VL h2 (by simpa using k.set off h1)

theorem setRange_one : ∀ {vs cs : List AV} {off : Nat}, (∀ c ∈ vs, oneCell c) → (∀ c ∈ cs, oneCell c) → ∀ c ∈ setRange cs off vs, oneCell c
  | [], cs, off, _, k, c, hc => k c hc
  | v :: vs, cs, off, h, k, c, hc => by
    rw [setRange] at hc
    refine setRange_one (fun x hx => h x (by simp [hx])) (fun x hx => ?_) c hc
    rcases List.mem_or_eq_of_mem_set hx with hx | rfl
    · exact k x hx
    · exact h x (by simp)

/-- Cells stored into a block that is an object's own. -/
theorem store_own (b o : Nat) {vs : Array Value} {ty : TypeId} {fz : Nat × Nat} (hb : w.heap[b]? = some (.cells vs ty fz)) (hf : ∀ o, o < vs.size → w.frozen? ⟨b, o, none⟩ = false) (new : List Value) (hn : o + new.length ≤ vs.size)
    (h1 : ∀ v ∈ new, v.oneCell' = true) : (storeCells ⟨b, o, none⟩ new).run P w = .ok () (w.setCells b o new) := by
  have := run_storeCells_cells (P := P) b o new 0 w (fun j hj => ?_) (fun j hj => hf _ (by omega)) h1
  · simpa using this
  · have hlt : o + 0 + j < vs.size := by omega
    simp only [World.cell?, hb]
    simp [hlt]
    omega

theorem storeVar_own {t : TypeId} {i : TypeInfo} (ht : P.info? t = some i) (b o : Nat) {vs : Array Value} {ty : TypeId} {fz : Nat × Nat} (hb : w.heap[b]? = some (.cells vs ty fz)) (hf : ∀ o, o < vs.size → w.frozen? ⟨b, o, none⟩ = false)
    (cv : Value) (hs : cv.cells.size = sizeA P t) (hn : o + cv.cells.size ≤ vs.size) (h1 : ∀ v ∈ cv.cells.toList, v.oneCell' = true) :
    (storeVar t ⟨b, o, none⟩ cv).run P w = .ok () (w.setCells b o cv.cells.toList) := by
  have := store_own (P := P) b o hb hf cv.cells.toList (by simpa using hn) h1
  simp only [storeVar, Sem.run_bind, run_sizeOf ht, Result.andThen_ok, hs, ne_eq, not_true_eq_false, if_false]
  simpa using this

theorem storeA_sound (h : R g w hp) {t : TypeId} {a v : AV} {hp' : List Ob} (hl : storeA none P t a v hp some = some hp') {ca cv : Value} (ha : V g a ca) (hv : V g v cv) :
    ∃ w', (Instr.storeAt t ca cv).run P w = .ok () w' ∧ R g w' hp' := by
  unfold storeA at hl
  split at hl
  · rename_i hc
    obtain ⟨hlen, hone, ht⟩ := hc
    obtain ⟨ti, hti⟩ := Option.isSome_iff_exists.1 (show (P.info? t).isSome = true by rw [← infoF_eq]; exact ht)
    obtain ⟨hvl, h1⟩ := cells_V hv hone
    have hsz : cv.cells.size = sizeA P t := by rw [← hlen]; have := hvl.1; simpa using this.symm
    split at hl
    · rename_i id off
      split at hl
      · rename_i cs he
        split at hl <;> simp at hl
        rename_i hle; subst hl
        have k := h.objs id
        rw [he] at k
        obtain ⟨k1, b, vs, fz, k2, k3, k4, k5, k6, k7, k8⟩ := k
        cases ha with
        | ptr _ _ b' hb =>
          rw [k2] at hb; cases hb
          have hcs : cs.length = vs.size := by have := k5.1; simpa using this
          have hrun := storeVar_own (P := P) hti b off k4 k8 cv hsz (by omega) h1
          refine ⟨_, by simpa [Instr.storeAt, Instr.sureAddr] using hrun, ?_⟩
          obtain ⟨r1, r2, r3, r4⟩ := rest_setCells b cv.cells.toList off w
          refine h.turn (g' := g) (b := b) (Gh.le.refl g) (length_of_get he) (by rw [he]; simp) (.inl k2) (fun _ _ => rfl) (fun _ _ => rfl) (fun _ _ _ e => .inl e) (fun _ _ _ e => e) r1 r2 r3 (by omega)
            (fun k _ hk => heap_setCells_other b _ off w k hk) ?_ (fun _ b' ho => ?_)
          · refine ⟨k1, b, _, fz, k2, k3, heap_setCells b cv.cells.toList off w vs _ fz k4, setRange_VL hvl k5, setRange_one (fun c hc => List.all_eq_true.1 hone c hc) k6, k7, fun o ho => ?_⟩
            rw [World.frozen?_setCells]
            exact k8 o (by simpa using ho)
          · left
            rcases ho with ho | ⟨_, _, _, ho⟩
            · rw [k2] at ho; exact (Option.some.inj ho).symm
            · rw [k1] at ho; simp at ho
      · simp at hl
    · rename_i id ver len sz i j
      obtain ⟨tyo, sz', sh, xs, he, rfl, hl⟩ := grown_inv hl
      obtain ⟨hs, hl1⟩ := ask_some hl
      obtain ⟨hi, hl2⟩ := ask_some hl1
      clear hl hl1
      simp at hs hi; subst hs
      split at hl2
      · rename_i v' hv'
        split at hl2 <;> simp at hl2
        rename_i hj; obtain ⟨rfl, hjl⟩ := hj; subst hl2
        rcases h.growOK he with k | ⟨b, cc, vs, fz, k⟩
        · rw [k.nil] at hi; simp at hi
        obtain ⟨f1, f2, f3, f4⟩ := fit_sound sh v v' hv'
        have hw : ∀ x ∈ xs, (cells x).length = sz := fun x hx => (k.sh x hx).2.1
        have hvl' := fit_cells hv' hvl
        have hnew : cv.cells.toList.length = sz := by rw [← hvl'.1]; exact hjl
        have hroom : i * sz + sz ≤ xs.length * sz := by
          have : (i + 1) * sz ≤ xs.length * sz := Nat.mul_le_mul_right _ (by omega)
          rwa [Nat.succ_mul] at this
        have hroom2 : xs.length * sz ≤ vs.size := by rw [k.size]; exact Nat.mul_le_mul_right _ k.le
        rw [k.addr ha]
        have hrun := storeVar_own (P := P) hti b (i * sz) k.heap k.froz cv hsz (by have : cv.cells.size = sz := by simpa using hnew
                                                                                   omega) h1
        refine ⟨_, by simpa [Instr.storeAt, Instr.sureAddr] using hrun, ?_⟩
        obtain ⟨r1, r2, r3, r4⟩ := rest_setCells b cv.cells.toList (i * sz) w
        refine h.turn (g' := g) (b := b) (Gh.le.refl g) (length_of_get he) (by rw [he]; simp) (.inr ⟨_, _, _, k.cur⟩) (fun _ _ => rfl) (fun _ _ => rfl) (fun _ _ _ e => .inl e) (fun _ _ _ e => e) r1 r2 r3 (by omega)
            (fun k _ hk => heap_setCells_other b _ _ w k hk) ?_ (fun _ b' ho => ?_)
        · refine ⟨k.blk, .inr ?_⟩
          refine ⟨b, cc, _, fz, by rw [List.length_set]; exact k.cur, k.base, heap_setCells b cv.cells.toList _ w vs _ fz k.heap, by rw [size_putR]; exact k.size, k.pos, by rw [List.length_set]; exact k.le, ?_, fun x hx => ?_, by rw [List.length_set]; exact k.lim, k.imm, fun o ho => ?_, by rw [size_putR]; exact k.soft⟩
          · rw [List.length_set, putR_list _ _ _ (by rw [hnew]; omega), flat_set hw hi, hnew]
            have e : List.take (xs.length * sz) (List.take (i * sz) vs.toList ++ cv.cells.toList ++ List.drop (i * sz + sz) vs.toList) =
                List.take (i * sz) (List.take (xs.length * sz) vs.toList) ++ cv.cells.toList ++ List.drop (i * sz + sz) (List.take (xs.length * sz) vs.toList) := by
              rw [List.append_assoc, List.take_append, List.take_append, List.take_take, List.take_take, List.drop_take, List.append_assoc]
              have l0 : (List.take (i * sz) vs.toList).length = i * sz := by simp; omega
              rw [l0, hnew, Nat.min_comm]
              congr 2
              · rw [List.take_of_length_le (by omega)]
              · congr 1; omega
            rw [e]
            exact ((k.vl.take (i * sz)).append hvl').append (k.vl.drop (i * sz + sz))
          · rcases List.mem_or_eq_of_mem_set hx with hx | rfl
            · exact k.sh x hx
            · exact ⟨f1, hjl, f4⟩
          · rw [World.frozen?_setCells]
            exact k.froz o (by simpa using ho)
        · left
          rcases ho with ho | ⟨_, _, _, ho⟩
          · rw [k.blk] at ho; simp at ho
          · rw [k.cur] at ho; cases ho; rfl
      · simp at hl2
    · simp at hl
  · simp at hl
end

end Go.Cx

end

section
namespace Go.Cx
open Go.RowKit (Below)
set_option linter.unusedSimpArgs false

section
theorem ask_some2 {α : Type} {a b : Bool} {k : Option α} {v : α} (h : ask none a (ask none b k) = some v) : a = true ∧ b = true ∧ k = some v := by
  cases a <;> cases b <;> simp_all [ask]
theorem ask_some4 {α : Type} {a b c d : Bool} {k : Option α} {v : α} (h : ask none a (ask none b (ask none c (ask none d k))) = some v) : a = true ∧ b = true ∧ c = true ∧ d = true ∧ k = some v := by
  cases a <;> cases b <;> cases c <;> cases d <;> simp_all [ask]
theorem ask_some5 {α : Type} {a b c d e : Bool} {k : Option α} {v : α} (h : ask none a (ask none b (ask none c (ask none d (ask none e k)))) = some v) : a = true ∧ b = true ∧ c = true ∧ d = true ∧ e = true ∧ k = some v := by
  cases a <;> cases b <;> cases c <;> cases d <;> cases e <;> simp_all [ask]
end
section
variable {P : Program} {g : Gh} {w : World} {hp : List Ob}

/-- A slice's elements, and where they lie. -/
structure Els (g : Gh) (w : World) (sz : Nat) (sh : Sh) (xs : List AV) (cx : Value) : Prop where
  some : ∃ a c, cx = .slice a xs.length c ∧ xs.length ≤ c ∧ (a = none → xs = [] ∧ c = 0) ∧ (∀ x, a = some x → xs = [] ∨ ∃ b o vs, x = ⟨b, o, none⟩ ∧ VL g (flat xs) vs ∧ Lies w b o vs)
  el : ∀ x ∈ xs, reshape sh x = x ∧ (cells x).length = sz ∧ (cells x).all oneCell
  lim : xs.length < TOP

theorem slice_els (h : R g w hp) {sz : Nat} {sh : Sh} {xs : List AV} {k : SK} {cx : Value} (hx : V g (.slice sz sh xs k) cx) : Els g w sz sh xs cx := by
  cases hx with
  | slice _ _ _ _ vs b o c h1 h2 h3 h4 h5 h6 =>
    exact ⟨⟨_, c, rfl, h5, fun e => by simp at e, fun x e => .inr ⟨b, o, vs, (Option.some.inj e).symm, ⟨h1, h2⟩, lies_at h.imm h3⟩⟩, h4, h6⟩
  | slice1 _ _ _ a c => exact ⟨⟨_, c, rfl, Nat.zero_le _, fun e => by simp at e, fun x _ => .inl rfl⟩, fun x hx => by simp at hx, by simp [TOP]⟩
  | slice0 => exact ⟨⟨none, 0, rfl, Nat.le_refl _, fun _ => ⟨rfl, rfl⟩, fun x e => by simp at e⟩, fun x hx => by simp at hx, by simp [TOP]⟩

theorem GrowOK.els {id ver sz : Nat} {sh : Sh} {xs : List AV} {b c : Nat} {vs : Array Value} {ty : TypeId} {fz : Nat × Nat} (k : GrowOK g w id ver sz sh xs b c vs ty fz) :
    Els g w sz sh xs (.slice (some ⟨b, 0, none⟩) xs.length c) :=
  ⟨⟨_, c, rfl, k.le, fun e => by simp at e, fun x e => .inr ⟨b, 0, _, (Option.some.inj e).symm, k.vl, k.lies⟩⟩, k.sh, k.lim⟩

theorem elems_sound (h : R g w hp) {x : AV} {sz : Nat} {sh : Sh} {xs : List AV} {c : Cls} (he : elems none hp x (fun sz sh xs c => some (sz, sh, xs, c)) = some (sz, sh, xs, c)) {cx : Value} (hx : V g x cx) :
    Els g w sz sh xs cx := by
  unfold elems at he
  split at he
  · simp at he; obtain ⟨rfl, rfl, rfl, rfl⟩ := he
    cases hx
    exact ⟨⟨none, 0, rfl, Nat.le_refl _, fun _ => ⟨rfl, rfl⟩, fun x e => by simp at e⟩, fun x hx => by simp at hx, by simp [TOP]⟩
  · simp at he; obtain ⟨rfl, rfl, rfl, rfl⟩ := he
    exact slice_els h hx
  · simp at he; obtain ⟨rfl, rfl, rfl, rfl⟩ := he
    exact slice_els h (fslice_weak hx)
  · obtain ⟨sz', sh', xs', e, rfl, he2⟩ := grownR_inv he
    clear he
    simp at he2; obtain ⟨rfl, rfl, rfl, rfl⟩ := he2
    rcases e with ⟨tyo, e⟩ | e
    rotate_left
    · exact slice_els h (h.frozV e hx)
    rcases h.growOK e with k | ⟨b, cc, vs, fz, k⟩
    · have := k.nil; subst this
      have := k.slice hx; subst this
      exact ⟨⟨none, 0, rfl, Nat.le_refl _, fun _ => ⟨rfl, rfl⟩, fun x _ => .inl rfl⟩, fun x hx => by simp at hx, by simp [TOP]⟩
    rw [k.slice hx]
    exact k.els
  · simp at he

theorem Els.width {sz : Nat} {sh : Sh} {xs : List AV} {cx : Value} (e : Els g w sz sh xs cx) : ∀ x ∈ xs, (cells x).length = sz := fun x hx => (e.el x hx).2.1

theorem Els.one {sz : Nat} {sh : Sh} {xs : List AV} {cx : Value} (e : Els g w sz sh xs cx) : (flat xs).all oneCell = true := by
  simp only [flat, List.all_flatMap, List.all_eq_true]
  intro x hx c hc
  exact List.all_eq_true.1 (e.el x hx).2.2 c hc

theorem one_vals : ∀ {cs : List AV} {vs : List Value}, cs.all oneCell = true → VL g cs vs → ∀ v ∈ vs, v.oneCell' = true
  | [], vs, _, h, v, hv => by rw [h.nil_inv] at hv; simp at hv
  | c :: cs, vs, h1, h, v, hv => by
    obtain ⟨x, vs', rfl, k1, k2⟩ := h.cons_inv
    simp only [List.all_cons, Bool.and_eq_true] at h1
    simp at hv
    rcases hv with rfl | hv
    · exact oneCell_V h1.1 k1
    · exact one_vals h1.2 k2 v hv

/-- A slice's cells are read. -/
theorem Els.read {sz : Nat} {sh : Sh} {xs : List AV} {cx : Value} (e : Els g w sz sh xs cx) (n : Nat) (hn : xs.length = n) (s : Nat) (hs : s = sz ∨ xs = []) : ∃ vs, (Builtin.firstCells s n cx).run P w = .ok (Array.mk vs) w ∧ VL g (flat xs) vs := by
  subst hn
  obtain ⟨a, c, rfl, _, h0, h1⟩ := e.some
  cases a with
  | none => obtain ⟨rfl, rfl⟩ := h0 rfl; exact ⟨[], rfl, VL.nil g⟩
  | some a =>
    rcases h1 a rfl with rfl | ⟨b, o, vs, rfl, hv, hl⟩
    · exact ⟨[], by simp [Builtin.firstCells, loadCells, loadCellsFrom], VL.nil g⟩
    refine ⟨vs, ?_, hv⟩
    have hlen : xs.length * s = vs.length := by
      rcases hs with rfl | rfl
      · rw [← hv.1, flat_len e.width]
      · have := hv.1; simp [flat] at this; simp [← this]
    simp only [Builtin.firstCells, hlen]
    exact load_lies hl

/- cuts -/
theorem sliceBound_run (k : IntKind) (i : Int) (y : Nat) (code : BoundsCode) (h0 : 0 ≤ i) (h1 : i ≤ y) : (Instr.sliceBound (.int k i) y code).run P w = .ok i.toNat w := by
  simp [Instr.sliceBound, asIntOf, h0, h1]

/-- A bound that may be left out. -/
def Bd (o : Option Int) (c : Option Value) : Prop := match o with
  | none => c = none
  | some n => ∃ k, c = some (.int k n)

theorem bounds_run {lo hi : Option Int} {clo chi : Option Value} (hl : Bd lo clo) (hh : Bd hi chi) (isS : Bool) (len cap : Nat) (h1 : 0 ≤ hi.getD len) (h2 : hi.getD len ≤ cap) (h3 : 0 ≤ lo.getD 0) (h4 : lo.getD 0 ≤ hi.getD len) :
    (Instr.sliceBounds isS len cap clo chi none).run P w = .ok ((lo.getD 0).toNat, (hi.getD len).toNat, cap) w := by
  cases lo with
  | none =>
    cases hl
    cases hi with
    | none => cases hh; simp [Instr.sliceBounds]
    | some n => obtain ⟨k, rfl⟩ := hh; simp at h1 h2; simp [Instr.sliceBounds, sliceBound_run k n cap _ h1 h2]
  | some m =>
    obtain ⟨k, rfl⟩ := hl
    simp at h3 h4
    cases hi with
    | none => cases hh; simp at h4; simp [Instr.sliceBounds, sliceBound_run k m len _ h3 h4]
    | some n =>
      obtain ⟨k', rfl⟩ := hh
      simp at h1 h2 h4
      simp [Instr.sliceBounds, sliceBound_run k' n cap _ h1 h2, sliceBound_run k m n.toNat _ h3 (by omega)]


theorem slice_run {t e : TypeId} (ht : P.underlying t = some (.slice e)) (a : Option Addr) (len cap : Nat) {lo hi : Option Int} {clo chi : Option Value} (hl : Bd lo clo) (hh : Bd hi chi)
    (h1 : 0 ≤ hi.getD len) (h2 : hi.getD len ≤ cap) (h3 : 0 ≤ lo.getD 0) (h4 : lo.getD 0 ≤ hi.getD len) (he : (P.info? e).isSome) :
    (Instr.sliceAt t (.slice a len cap) clo chi none).run P w = .ok (.slice (if cap = (lo.getD 0).toNat then a else a.map (·.add ((lo.getD 0).toNat * sizeA P e))) ((hi.getD len).toNat - (lo.getD 0).toNat) (cap - (lo.getD 0).toNat)) w := by
  obtain ⟨i, hi'⟩ := Option.isSome_iff_exists.1 he
  simp only [Instr.sliceAt, Sem.run_bind, run_underlying ht, Result.andThen_ok, Instr.slice, bounds_run (P := P) (w := w) hl hh true len cap h1 h2 h3 h4, run_sizeOf hi']
  rfl

theorem str_cut {t : TypeId} (ht : P.underlying t = some .string) (s : List UInt8) {lo hi : Option Int} {clo chi : Option Value} (hl : Bd lo clo) (hh : Bd hi chi)
    (h1 : 0 ≤ hi.getD s.length) (h2 : hi.getD s.length ≤ s.length) (h3 : 0 ≤ lo.getD 0) (h4 : lo.getD 0 ≤ hi.getD s.length) :
    (Instr.sliceAt t (.string ⟨⟨s⟩⟩) clo chi none).run P w = .ok (.string ⟨⟨(s.take (hi.getD s.length).toNat).drop (lo.getD 0).toNat⟩⟩) w := by
  have e1 : (⟨⟨s⟩⟩ : ByteArray).size = s.length := rfl
  simp only [Instr.sliceAt, Sem.run_bind, run_underlying ht, Result.andThen_ok, Instr.slice, e1]
  have : (⟨⟨s⟩⟩ : ByteArray).extract (lo.getD 0).toNat (hi.getD s.length).toNat = ⟨⟨(s.take (hi.getD s.length).toNat).drop (lo.getD 0).toNat⟩⟩ := by
    apply ByteArray.ext
    simp [ByteArray.data_extract, List.extract_eq_take_drop, List.drop_take]
  have hb := bounds_run (P := P) (w := w) hl hh false s.length s.length h1 h2 h3 h4
  simp only [Option.isSome_none, Bool.false_eq_true, if_false, Sem.run_bind, hb, Result.andThen_ok, this]
  rfl

theorem mem_cut {xs : List AV} {h l : Nat} {x : AV} (hx : x ∈ (xs.take h).drop l) : x ∈ xs := List.mem_of_mem_take (List.mem_of_mem_drop hx)

/-- A part of a slice, in the model's words. -/
theorem cut_V {sz : Nat} {sh : Sh} {xs : List AV} {k : SK} {cx : Value} (hx : V g (.slice sz sh xs k) cx) {h l : Nat} (hh : h ≤ xs.length) (hl : l ≤ h) :
    ∃ a c, cx = .slice a xs.length c ∧ xs.length ≤ c ∧ V g (.slice sz sh ((xs.take h).drop l) k) (.slice (if c = l then a else a.map (·.add (l * sz))) (h - l) (c - l)) := by
  have hlen : ((xs.take h).drop l).length = h - l := by simp; omega
  cases hx with
  | slice _ _ _ _ vs b o c h1 h2 h3 h4 h5 h6 =>
    refine ⟨_, c, rfl, h5, ?_⟩
    have hvl : VL g (flat xs) vs := ⟨h1, h2⟩
    have hw : ∀ x ∈ xs, (cells x).length = sz := fun x hx => (h4 x hx).2.1
    have hw' : ∀ x ∈ xs.take h, (cells x).length = sz := fun x hx => hw x (List.mem_of_mem_take hx)
    have hv := (hvl.take (h * sz)).drop (l * sz)
    rw [← flat_take h hw, ← flat_drop l hw'] at hv
    have hat : At g b (o + l * sz) ((vs.take (h * sz)).drop (l * sz)) := by
      intro i v hv'
      rw [List.getElem?_drop, List.getElem?_take] at hv'
      split at hv'
      · have := h3 _ v hv'; rwa [Nat.add_assoc]
      · simp at hv'
    rw [← hlen]
    split
    · rename_i e
      have : (xs.take h).drop l = [] := by apply List.eq_nil_of_length_eq_zero; omega
      rw [this] at hv ⊢
      refine .slice _ _ _ _ [] b o _ rfl (fun i c v h => by simp [flat] at h) (fun i v h => by simp at h) (fun x hx => by simp at hx) (by simp) (by simp [TOP])
    · rw [Option.map_some, add_none]
      exact .slice _ _ _ _ _ b (o + l * sz) _ hv.1 hv.2 hat (fun x hx => h4 x (mem_cut hx)) (by omega) (by omega)
  | slice1 _ _ _ a c =>
    simp at hh; subst hh
    have : l = 0 := by omega
    subst this
    exact ⟨some a, c, rfl, Nat.zero_le _, by simpa [Addr.add] using V.slice1 sz sh _ _ _⟩
  | slice0 =>
    simp at hh; subst hh
    have : l = 0 := by omega
    subst this
    exact ⟨none, 0, rfl, Nat.le_refl _, by simpa using V.slice0 sz sh⟩

theorem fcut_V {sz : Nat} {sh : Sh} {xs ys : List AV} {cx : Value} (hx : V g (.fslice sz sh xs ys) cx) {h l : Nat} (hh : h ≤ (xs ++ ys).length) (hl : l ≤ h) :
    ∃ a, cx = .slice a xs.length (xs ++ ys).length ∧ V g (.fslice sz sh (((xs ++ ys).take h).drop l) ((xs ++ ys).drop h)) (.slice (if (xs ++ ys).length = l then a else a.map (·.add (l * sz))) (h - l) ((xs ++ ys).length - l)) := by
  cases hx with
  | fslice _ _ _ _ vs b o h1 h2 h3 h4 h5 =>
    refine ⟨_, rfl, ?_⟩
    generalize hz : xs ++ ys = zs at *
    have hlen : ((zs.take h).drop l).length = h - l := by simp; omega
    have hsum : (zs.take h).drop l ++ zs.drop h = zs.drop l := by
      conv => rhs; rw [← List.take_append_drop h zs]
      rw [List.drop_append_of_le_length (by simp; omega)]
    have htot : zs.length - l = ((zs.take h).drop l ++ zs.drop h).length := by rw [hsum]; simp
    have hvl : VL g (flat zs) vs := ⟨h1, h2⟩
    have hw : ∀ x ∈ zs, (cells x).length = sz := fun x hx => (h4 x hx).2.1
    have hv := hvl.drop (l * sz)
    rw [← flat_drop l hw, ← hsum] at hv
    have hat : At g b (o + l * sz) (vs.drop (l * sz)) := by
      intro i v hv'
      rw [List.getElem?_drop] at hv'
      have := h3 _ v hv'; rwa [Nat.add_assoc]
    have hmem : ∀ x ∈ (zs.take h).drop l ++ zs.drop h, reshape sh x = x ∧ (cells x).length = sz ∧ (cells x).all oneCell := fun x hx => by
      rw [hsum] at hx; exact h4 x (List.mem_of_mem_drop hx)
    rw [← hlen, htot]
    split
    · rename_i e
      have e0 : zs.drop l = [] := by apply List.eq_nil_of_length_eq_zero; simp; omega
      rw [hsum, e0] at hv
      have hvn : vs.drop (l * sz) = [] := hv.nil_inv
      refine .fslice _ _ _ _ [] b o ?_ ?_ (fun i v h => by simp at h) hmem (by rw [hsum]; simp; omega)
      · rw [hsum, e0]; rfl
      · rw [hsum, e0]; intro i c v h; simp [flat] at h
    · rw [Option.map_some, add_none]
      exact .fslice _ _ _ _ _ b (o + l * sz) hv.1 hv.2 hat hmem (by rw [hsum]; simp; omega)


/-- What an operation on memory comes to. -/
def Does (P : Program) (g : Gh) (w : World) (s : Sem Value) (v : AV) (hp' : List Ob) : Prop :=
  ∃ cv w' g', s.run P w = .ok cv w' ∧ g.le g' ∧ R g' w' hp' ∧ V g' v cv

theorem Does.pure (h : R g w hp) {s : Sem Value} {v : AV} {cv : Value} (hr : s.run P w = .ok cv w) (hv : V g v cv) : Does P g w s v hp := ⟨cv, w, g, hr, Gh.le.refl g, h, hv⟩

/-- An array is given up: what it holds stays for good. -/
theorem R.give (h : R g w hp) {ty : TypeId} {id ver sz : Nat} {sh : Sh} {xs : List AV} (he : hp[id]? = some (.grow ty ver sz sh xs)) :
    ∃ g', g.le g' ∧ R g' w (hp.set id (.froz ver sz sh xs)) ∧ (∀ g2 cv, g2.cur = g.cur → V g2 (.oslice id ver xs.length) cv → V g' (.slice sz sh xs .ro) cv) ∧ g'.cur = g.cur := by
  rcases h.growOK he with k | ⟨b, c, vs, fz, k⟩
  · refine ⟨g, Gh.le.refl g, ?_, fun g2 cv e hV => ?_, rfl⟩
    · exact h.turnV (Gh.le.refl g) (length_of_get he) (fun _ _ => rfl) (fun _ _ => rfl) rfl (Below.refl _ _) ⟨k.blk, none, 0, by have := k.nil; subst this; exact k.cur, by have := k.nil; subst this; exact .slice0 _ _⟩ (fun e => by simp at e)
    · have := k.nil; subst this
      cases hV with
      | oslice _ _ _ b' c' x hx hh =>
        rw [e, k.cur] at hx; cases hx
        rcases hh with hh | ⟨_, _, hh⟩
        · omega
        · have := (hh rfl).1; simp at this
      | oslice0 _ _ x hx hh => exact .slice0 _ _
  let seg := vs.toList.take (xs.length * sz)
  let g' : Gh := { g with imm := fun b' o => if b' = b then seg[o]? else g.imm b' o }
  have hle : g.le g' := ⟨rfl, rfl, rfl, fun b' o hn => if_neg (fun (e : b' = b) => hn (by rw [e]; exact k.base)), fun b' o v e => by
    show (if b' = b then seg[o]? else g.imm b' o) = some v
    split
    · rename_i e1; subst e1; rw [k.imm o] at e; simp at e
    · exact e, fun _ _ e => e, fun i _ _ _ _ e => ⟨_, e, Hdr.refl _ _ _ _⟩⟩
  have hs : V g' (.slice sz sh xs .ro) (.slice (some ⟨b, 0, none⟩) xs.length c) := by
    have hv := k.vl.mono hle
    exact .slice _ _ _ _ seg b 0 c hv.1 hv.2 (fun i v e => by show (if b = b then seg[0 + i]? else g.imm b (0 + i)) = some v; rw [if_pos rfl, Nat.zero_add]; exact e) k.sh k.le k.lim
  refine ⟨g', hle, ?_, fun g2 cv e hV => ?_, rfl⟩
  · refine h.turn (b := b) hle (length_of_get he) (by rw [he]; simp) (.inr ⟨_, _, _, k.cur⟩) (fun _ _ => rfl) (fun _ _ => rfl) (fun b' o' v e => ?_) (fun b' o' hne e => ?_) rfl rfl rfl (Nat.le_refl _) (fun _ _ _ => rfl) ⟨k.blk, some b, c, k.cur, hs⟩ (fun e => by simp at e)
    · have e2 : (if b' = b then seg[o']? else g.imm b' o') = some v := e
      clear e
      split at e2
      · rename_i e1; subst e1
        right; exact ⟨rfl, by have := k.lies o' v e2; rwa [Nat.zero_add] at this⟩
      · left; exact e2
    · show (if b' = b then seg[o']? else g.imm b' o') = none
      rw [if_neg hne]; exact e
  · have hc := k.cur
    generalize hn : xs.length = n at hV hc hs
    cases hV with
    | oslice _ _ _ b' c' x hx hh =>
      rw [e, hc] at hx; cases hx
      rcases hh with hh | ⟨_, _, hh⟩
      · omega
      · have := hh rfl; simp at this; obtain ⟨rfl, rfl⟩ := this; exact hs
    | oslice0 _ _ x hx hh =>
      rw [e, hc] at hx; cases hx
      rcases hh with hh | ⟨_, _, hh⟩
      · omega
      · have := (hh rfl).1; simp at this

theorem cutA_sound (h : R g w hp) {t : TypeId} {own : Bool} {esz : Nat} {x : AV} {lo hi : Option Int} {v : AV} {hp' : List Ob} {c : Cls}
    (hc : cutA none own esz x lo hi hp (fun v h c => some (v, h, c)) = some (v, hp', c)) {cx : Value} (hx : V g x cx) {clo chi : Option Value} (hl : Bd lo clo) (hh : Bd hi chi)
    (ht : (P.underlying t = some .string ∧ ∃ s, x = .str s) ∨ (∃ e, P.underlying t = some (.slice e) ∧ (P.info? e).isSome ∧ sizeA P e = esz ∧ ∀ s, x ≠ .str s)) :
    Does P g w (Instr.sliceAt t cx clo chi none) v hp' := by
  unfold cutA at hc
  split at hc
  · rename_i s
    replace hc := ask_some4 hc; obtain ⟨h1, h2, h3, h4, hc⟩ := hc
    simp only [decide_eq_true_eq] at h1 h2 h3 h4
    simp at hc; obtain ⟨rfl, rfl, rfl⟩ := hc
    obtain ⟨rfl, hlim⟩ := str_inv hx
    rcases ht with ⟨ht, _⟩ | ⟨e, _, _, _, hne⟩
    · exact Does.pure h (str_cut ht s hl hh h1 h2 h3 h4) (.str _ (by simp; omega))
    · exact absurd rfl (hne s)
  · obtain ⟨h1, hc⟩ := ask_some hc; obtain ⟨h2, hc⟩ := ask_some hc
    simp at h1 h2
    simp at hc; obtain ⟨rfl, rfl, rfl⟩ := hc
    rcases ht with ⟨_, s, hs⟩ | ⟨e, ht, hi', _, _⟩
    · simp at hs
    · cases hx
      have e1 : hi.getD ((0 : Nat) : Int) = 0 := by simpa using h1
      have := slice_run (P := P) (w := w) ht none 0 0 hl hh (by rw [e1]; exact Int.le_refl _) (by rw [e1]; exact Int.le_refl _) (by rw [h2]; exact Int.le_refl _) (by rw [e1, h2]; exact Int.le_refl _) hi'
      rw [e1, h2] at this
      exact Does.pure h (by simpa using this) .nilsl
  · rename_i sz sh xs k
    replace hc := ask_some5 hc; obtain ⟨h0, h1, h2, h3, h4, hc⟩ := hc
    simp only [decide_eq_true_eq] at h1 h2 h3 h4
    simp at h0; subst h0
    simp at hc; obtain ⟨rfl, rfl, rfl⟩ := hc
    rcases ht with ⟨_, s, hs⟩ | ⟨e, ht, hi', hsz, _⟩
    · simp at hs
    · obtain ⟨a, cc, rfl, hlc, hV⟩ := cut_V hx (h := (hi.getD xs.length).toNat) (l := (lo.getD 0).toNat) (by omega) (by omega)
      have := slice_run (P := P) (w := w) ht a xs.length cc hl hh h1 (by omega) h3 h4 hi'
      rw [hsz] at this
      exact Does.pure h this hV
  · rename_i sz sh xs ys
    replace hc := ask_some5 hc; obtain ⟨h0, h1, h2, h3, h4, hc⟩ := hc
    simp only [decide_eq_true_eq] at h1 h2 h3 h4
    simp at h0; subst h0
    simp only [Option.some.injEq, Prod.mk.injEq] at hc; obtain ⟨rfl, rfl, rfl⟩ := hc
    rcases ht with ⟨_, s, hs⟩ | ⟨e, ht, hi', hsz, _⟩
    · simp at hs
    · obtain ⟨a, rfl, hV⟩ := fcut_V hx (h := (hi.getD xs.length).toNat) (l := (lo.getD 0).toNat) (by omega) (by omega)
      have := slice_run (P := P) (w := w) ht a xs.length (xs ++ ys).length hl hh h1 (by omega) h3 h4 hi'
      rw [hsz] at this
      exact Does.pure h this hV
  · rename_i id ver len
    split at hc
    · replace hc := grownR_inv hc; obtain ⟨sz, sh, xs, he, rfl, hc⟩ := hc
      rename_i hfz
      have he : hp[id]? = some (.froz ver sz sh xs) := by
        rcases he with ⟨ty, he⟩ | he
        · simp [isFroz, he] at hfz
        · exact he
      replace hc := ask_some5 hc; obtain ⟨h0, h1, h2, h3, h4, hc⟩ := hc
      simp only [decide_eq_true_eq] at h1 h2 h3 h4
      simp at h0; subst h0
      simp at hc; obtain ⟨rfl, rfl, rfl⟩ := hc
      rcases ht with ⟨_, s, hs⟩ | ⟨e, ht, hi', hsz, _⟩
      · simp at hs
      · obtain ⟨a, cc, rfl, hlc, hV⟩ := cut_V (h.frozV he hx) (h := (hi.getD xs.length).toNat) (l := (lo.getD 0).toNat) (by omega) (by omega)
        have := slice_run (P := P) (w := w) ht a xs.length cc hl hh h1 (by omega) h3 h4 hi'
        rw [hsz] at this
        exact Does.pure h this hV
    replace hc := grown_inv hc; obtain ⟨tyo, sz, sh, xs, he, rfl, hc⟩ := hc
    replace hc := ask_some5 hc; obtain ⟨h0, h1, h2, h3, h4, hc⟩ := hc
    simp only [decide_eq_true_eq] at h1 h2 h3 h4
    simp at h0; subst h0
    rcases ht with ⟨_, s, hs⟩ | ⟨e, ht, hi', hsz, _⟩
    · simp at hs
    · split at hc
      · replace hc := ask_some hc; obtain ⟨h5, hc⟩ := hc
        simp only [decide_eq_true_eq] at h5
        simp only [Option.some.injEq, Prod.mk.injEq] at hc; obtain ⟨rfl, rfl, rfl⟩ := hc
        rcases h.growOK he with k | ⟨b, cc, vs, fz, k⟩
        · have := k.nil; subst this
          have := k.slice hx; subst this
          have e1 : hi.getD (([] : List AV).length : Int) = 0 := by simp at h1 h2 ⊢; omega
          have hrun := slice_run (P := P) (w := w) ht none 0 0 hl hh (by simpa using h1) (by simpa using h2) h3 (by simpa using h4) hi'
          have e2 : hi.getD ((0 : Nat) : Int) = 0 := by simpa using e1
          rw [hsz, h5, e2] at hrun
          let g' : Gh := { g with cur := fun i => if i = id then some (ver + 1, 0, none, 0) else g.cur i }
          have hle : g.le g' := ⟨rfl, rfl, rfl, fun _ _ _ => rfl, fun _ _ _ e => e, fun _ _ e => e, fun i v' l' b' c' e => by
            show ∃ x, (if i = id then some (ver + 1, 0, none, 0) else g.cur i) = some x ∧ _
            split
            · rename_i e1; subst e1; rw [k.cur] at e; cases e; exact ⟨_, rfl, .inl (by omega)⟩
            · exact ⟨_, e, Hdr.refl _ _ _ _⟩⟩
          have hcur : g'.cur id = some (ver + 1, 0, none, 0) := by show (if id = id then _ else _) = _; rw [if_pos rfl]
          have e3 : (([] : List AV).take (hi.getD (([] : List AV).length : Int)).toNat) = [] := by simp
          rw [e3]
          refine ⟨_, w, g', by simpa using hrun, hle, ?_, .oslice0 _ _ _ hcur (Hdr.refl _ _ _ _)⟩
          refine h.turnV hle (length_of_get he) (fun i hi => by show (if i = id then _ else _) = _; rw [if_neg hi]) (fun _ _ => rfl) rfl (Below.refl _ _) ⟨k.blk, .inl ⟨rfl, k.pos, hcur⟩⟩ (fun _ b' ho => ?_)
          rcases ho with ho | ⟨_, _, _, ho⟩
          · rw [show g'.blk id = g.blk id from rfl, k.blk] at ho; simp at ho
          · rw [hcur] at ho; cases ho
        rw [k.slice hx]
        have hrun := slice_run (P := P) (w := w) ht (some ⟨b, 0, none⟩) xs.length cc hl hh h1 (by have := k.le; omega) h3 h4 hi'
        rw [hsz, h5] at hrun
        have hrun' : (Instr.sliceAt t (.slice (some ⟨b, 0, none⟩) xs.length cc) clo chi none).run P w = .ok (.slice (some ⟨b, 0, none⟩) (hi.getD xs.length).toNat cc) w := by
          rw [hrun]; simp [Addr.add]
        let n := (hi.getD xs.length).toNat
        have hn : n ≤ xs.length := by omega
        let g' : Gh := { g with cur := fun i => if i = id then some (ver + 1, n, some b, cc) else g.cur i }
        have hle : g.le g' := ⟨rfl, rfl, rfl, fun _ _ _ => rfl, fun _ _ _ e => e, fun _ _ e => e, fun i v' l' b' c' e => by
          show ∃ x, (if i = id then some (ver + 1, n, some b, cc) else g.cur i) = some x ∧ _
          split
          · rename_i e1; subst e1; rw [k.cur] at e; cases e; exact ⟨_, rfl, .inl (by omega)⟩
          · exact ⟨_, e, Hdr.refl _ _ _ _⟩⟩
        have hcur : g'.cur id = some (ver + 1, n, some b, cc) := by show (if id = id then _ else _) = _; rw [if_pos rfl]
        have hlen : (xs.take n).length = n := by simp; omega
        refine ⟨_, w, g', hrun', hle, ?_, by rw [hlen]; exact .oslice _ _ _ b cc _ hcur (Hdr.refl _ _ _ _)⟩
        refine h.turn (b := b) hle (length_of_get he) (by rw [he]; simp) (.inr ⟨_, _, _, k.cur⟩) (fun i hi => by show (if i = id then _ else _) = _; rw [if_neg hi]) (fun _ _ => rfl) (fun _ _ _ e => .inl e) (fun _ _ _ e => e) rfl rfl rfl (Nat.le_refl _) (fun _ _ _ => rfl) ?_ (fun _ b' ho => ?_)
        · have hw : ∀ x ∈ xs, (cells x).length = sz := fun x hx => (k.sh x hx).2.1
          refine ⟨k.blk, .inr ?_⟩
          refine ⟨b, cc, vs, fz, by rw [hlen]; exact hcur, k.base, k.heap, k.size, k.pos, by rw [hlen]; have := k.le; omega, ?_, fun x hx => k.sh x (List.mem_of_mem_take hx), by rw [hlen]; have := k.lim; omega, k.imm, k.froz, k.soft⟩
          rw [hlen, flat_take n hw]
          have := (k.vl.mono hle).take (n * sz)
          rwa [List.take_take, Nat.min_eq_left (Nat.mul_le_mul_right _ hn)] at this
        · left
          rcases ho with ho | ⟨_, _, _, ho⟩
          · rw [show g'.blk id = g.blk id from rfl, k.blk] at ho; simp at ho
          · rw [hcur] at ho; cases ho; rfl
      · simp only [Option.some.injEq, Prod.mk.injEq] at hc; obtain ⟨rfl, rfl, rfl⟩ := hc
        obtain ⟨g', hle, hR, hV, -⟩ := h.give he
        replace hV := hV g _ rfl hx
        obtain ⟨a, c2, e2, hlc, hV2⟩ := cut_V hV (h := (hi.getD xs.length).toNat) (l := (lo.getD 0).toNat) (by omega) (by omega)
        subst e2
        have hrun := slice_run (P := P) (w := w) ht a xs.length c2 hl hh h1 (by omega) h3 h4 hi'
        rw [hsz] at hrun
        exact ⟨_, w, g', hrun, hle, hR, hV2⟩
  · simp at hc

end

end Go.Cx

end
