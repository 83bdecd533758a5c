/- Single operations: memory. -/
import Derived.Test.YtcnalhganahiiaaGreatDoorCxD
section
namespace Go.Cx
open Go.RowKit (Below)
set_option linter.unusedSimpArgs false
theorem add_none (b o i : Nat) : (⟨b, o, none⟩ : Addr).add i = ⟨b, o + i, none⟩ := by
  unfold Addr.add; split <;> simp_all
section
variable {P : Program} {g : Gh} {w : World}
def Lies (w : World) (b o : Nat) (vs : List Value) : Prop := ∀ (i : Nat) (v : Value), vs[i]? = some v → w.cell? ⟨b, o + i, none⟩ = some v
theorem Lies.drop {b o : Nat} {vs : List Value} (h : Lies w b o vs) (n : Nat) : Lies w b (o + n) (vs.drop n) := by
  intro i v hv
  rw [List.getElem?_drop] at hv
  have := h (n + i) v hv
  rwa [Nat.add_assoc]
theorem Lies.take {b o : Nat} {vs : List Value} (h : Lies w b o vs) (n : Nat) : Lies w b o (vs.take n) := by
  intro i v hv
  rw [List.getElem?_take] at hv
  split at hv
  · exact h i v hv
  · simp at hv
theorem load_lies {b o : Nat} {vs : List Value} (h : Lies w b o vs) : (loadCells ⟨b, o, none⟩ vs.length).run P w = .ok vs.toArray w :=
  run_loadCells_list w ⟨b, o, none⟩ vs fun j v hv => by rw [add_none]; exact h j v hv
theorem lies_at (h : ∀ b o v, g.imm b o = some v → w.cell? ⟨b, o, none⟩ = some v) {b o : Nat} {vs : List Value} (k : At g b o vs) : Lies w b o vs := fun i v hv => h _ _ _ (k i v hv)
theorem lies_block {b : Nat} {vs : Array Value} {ty : TypeId} {fz : Nat × Nat} (h : w.heap[b]? = some (.cells vs ty fz)) : Lies w b 0 vs.toList := by
  intro i v hv
  simp only [Nat.zero_add, World.cell?, h]
  simpa using hv
def isAggD : TypeDesc → Bool
  | .struct _ | .array _ _ => true
  | _ => false
theorem isAgg_run {t : TypeId} {d : TypeDesc} (h : P.underlying t = some d) : (isAgg t).run P w = .ok (isAggD d) w := by
  simp only [isAgg, Sem.run_bind, run_underlying h, Result.andThen_ok]
  cases d <;> rfl
theorem tk_agg {t : TypeId} (h : (∃ l, tk P t = .struct l) ∨ (∃ n e, tk P t = .array n e)) : ∃ d, P.underlying t = some d ∧ (isAggD d) = true := by
  rcases h with ⟨l, h⟩ | ⟨n, e, h⟩
  · obtain ⟨fs, hu, _⟩ := tk_struct h; exact ⟨_, hu, rfl⟩
  · exact ⟨_, tk_array h, rfl⟩
theorem tk_unsafe {t : TypeId} (h : tk P t = .unsafeP) : P.underlying t = some .unsafePointer := by
  rw [tk_def] at h; split at h <;> simp_all
theorem tk_plain {t : TypeId} (h1 : ∀ l, tk P t ≠ .struct l) (h2 : ∀ n e, tk P t ≠ .array n e) (h3 : tk P t ≠ .other) :
    ∃ d, P.underlying t = some d ∧ (isAggD d) = false := by
  cases hk : tk P t with
  | int k => exact ⟨_, tk_int hk, rfl⟩
  | bool => exact ⟨_, tk_bool hk, rfl⟩
  | str => exact ⟨_, tk_str hk, rfl⟩
  | slice e => exact ⟨_, tk_slice hk, rfl⟩
  | array n e => exact absurd hk (h2 n e)
  | struct l => exact absurd hk (h1 l)
  | pointer e => exact ⟨_, tk_pointer hk, rfl⟩
  | func => obtain ⟨a, b, c, h⟩ := tk_func hk; exact ⟨_, h, rfl⟩
  | unsafeP => exact ⟨_, tk_unsafe hk, rfl⟩
  | other => exact absurd hk h3
theorem VL.aggV {cs : List AV} {vs : List Value} (h : VL g cs vs) : V g (.agg cs) (.agg vs.toArray) := .agg _ _ (by simpa using h.1) (by simpa using h.2)
theorem fromCells_sound {t : TypeId} {cs : List AV} {off : Nat} {v : AV} (h : fromCells none P t cs off some = some v) {vs : List Value} (hc : VL g cs vs) :
    (∀ (b o : Nat), Lies w b o vs → ∃ cv, (loadVar t ⟨b, o + off, none⟩).run P w = .ok cv w ∧ V g v cv) ∧ ∃ cv, (part t vs.toArray off).run P w = .ok cv w ∧ V g v cv := by
  unfold fromCells at h
  split at h
  · rename_i l ht
    split at h <;> simp at h
    rename_i hle; subst h
    obtain ⟨d, hu, hd⟩ := tk_agg (.inl ⟨l, ht⟩)
    have hv := ((hc.drop off).take (sizeA P t)).aggV
    have hl : ((vs.drop off).take (sizeA P t)).length = sizeA P t := by have := hc.1; simp; omega
    refine ⟨fun b o hL => ⟨_, ?_, hv⟩, ⟨_, ?_, hv⟩⟩
    · have := load_lies (P := P) ((hL.drop off).take (sizeA P t))
      rw [hl] at this
      simp only [loadVar, Sem.run_bind, isAgg_run hu, hd, Result.andThen_ok, if_true, run_sizeOf_u hu, this]
      rfl
    · simp only [part, Sem.run_bind, isAgg_run hu, hd, Result.andThen_ok, if_true, run_sizeOf_u hu]
      simp only [Sem.run_pure, List.extract_toArray, List.extract_eq_take_drop, Nat.add_sub_cancel_left]
  · rename_i n e ht
    split at h <;> simp at h
    rename_i hle; subst h
    obtain ⟨d, hu, hd⟩ := tk_agg (.inr ⟨n, e, ht⟩)
    have hv := ((hc.drop off).take (sizeA P t)).aggV
    have hl : ((vs.drop off).take (sizeA P t)).length = sizeA P t := by have := hc.1; simp; omega
    refine ⟨fun b o hL => ⟨_, ?_, hv⟩, ⟨_, ?_, hv⟩⟩
    · have := load_lies (P := P) ((hL.drop off).take (sizeA P t))
      rw [hl] at this
      simp only [loadVar, Sem.run_bind, isAgg_run hu, hd, Result.andThen_ok, if_true, run_sizeOf_u hu, this]
      rfl
    · simp only [part, Sem.run_bind, isAgg_run hu, hd, Result.andThen_ok, if_true, run_sizeOf_u hu]
      simp only [Sem.run_pure, List.extract_toArray, List.extract_eq_take_drop, Nat.add_sub_cancel_left]
  · simp at h
  · rename_i h1 h2 h3
    obtain ⟨d, hu, hd⟩ := tk_plain (fun l e => h1 l e) (fun n e k => h2 n e k) h3
    split at h <;> simp at h
    rename_i v' hv'; subst h
    obtain ⟨cv, hcv, hV⟩ := hc.get hv'
    refine ⟨fun b o hL => ⟨cv, ?_, hV⟩, ⟨cv, ?_, hV⟩⟩
    · simp only [loadVar, Sem.run_bind, isAgg_run hu, hd, Result.andThen_ok, Bool.false_eq_true, if_false, run_load, hL off cv hcv]
    · simp only [part, Sem.run_bind, isAgg_run hu, hd, Result.andThen_ok, Bool.false_eq_true, if_false]
      simp [hcv]
end
end Go.Cx

end

section
namespace Go.Cx
open Go.RowKit (Below)
set_option linter.unusedSimpArgs false
mutual
theorem Sh.beq_eq : ∀ (a b : Sh), a.beq b = true → a = b
  | .int k, .int k', h => by simp [Sh.beq] at h; subst h; rfl
  | .bool, .bool, _ => rfl
  | .str, .str, _ => rfl
  | .any, .any, _ => rfl
  | .slice n s, .slice n' s', h => by
    simp [Sh.beq] at h
    obtain ⟨rfl, h⟩ := h
    rw [Sh.beq_eq s s' h]
  | .agg l, .agg l', h => by
    simp [Sh.beq] at h
    rw [Sh.beqL_eq l l' h]
  | .int _, .bool, h | .int _, .str, h | .int _, .slice .., h | .int _, .agg _, h | .int _, .any, h => by simp [Sh.beq] at h
  | .bool, .int _, h | .bool, .str, h | .bool, .slice .., h | .bool, .agg _, h | .bool, .any, h => by simp [Sh.beq] at h
  | .str, .int _, h | .str, .bool, h | .str, .slice .., h | .str, .agg _, h | .str, .any, h => by simp [Sh.beq] at h
  | .slice .., .int _, h | .slice .., .bool, h | .slice .., .str, h | .slice .., .agg _, h | .slice .., .any, h => by simp [Sh.beq] at h
  | .agg _, .int _, h | .agg _, .bool, h | .agg _, .str, h | .agg _, .slice .., h | .agg _, .any, h => by simp [Sh.beq] at h
  | .any, .int _, h | .any, .bool, h | .any, .str, h | .any, .slice .., h | .any, .agg _, h => by simp [Sh.beq] at h
theorem Sh.beqL_eq : ∀ (a b : List Sh), Sh.beqL a b = true → a = b
  | [], [], _ => rfl
  | a :: l, b :: l', h => by
    simp [Sh.beqL] at h
    rw [Sh.beq_eq a b h.1, Sh.beqL_eq l l' h.2]
  | [], _ :: _, h => by simp [Sh.beqL] at h
  | _ :: _, [], h => by simp [Sh.beqL] at h
end
theorem oneCell_V {g : Gh} {c : AV} {x : Value} (hc : oneCell c = true) (hv : V g c x) : x.oneCell' = true := by
  cases hv <;> first | rfl | simp [oneCell] at hc
theorem cells_V {g : Gh} {v : AV} {cv : Value} (h : V g v cv) (h1 : (cells v).all oneCell = true) :
    VL g (cells v) cv.cells.toList ∧ ∀ x ∈ cv.cells.toList, x.oneCell' = true := by
  have one : ∀ {c : AV} {x : Value}, oneCell c = true → V g c x → x.oneCell' = true := by
    intro c x hc hv; cases hv <;> first | rfl | simp [oneCell] at hc
  cases v with
  | agg cs =>
    cases h with
    | agg _ vs hl hv =>
      simp only [cells] at h1 ⊢
      refine ⟨⟨by simpa [Value.cells] using hl, by simpa [Value.cells] using hv⟩, fun x hx => ?_⟩
      simp only [Value.cells] at hx
      obtain ⟨i, hi⟩ := List.getElem?_of_mem hx
      have hlt := length_of_get hi
      have : i < cs.length := by simp at hlt; omega
      have hc : cs[i]? = some cs[i] := by simp [this]
      exact one (List.all_eq_true.1 h1 _ (List.getElem_mem this)) (hv i _ x hc (by simpa using hi))
  | tuple cs => simp [cells, oneCell] at h1
  | junk => simp [cells, oneCell] at h1
  | _ =>
    have hc : cv.cells = #[cv] := by cases h <;> rfl
    rw [hc]
    refine ⟨VL.cons h (VL.nil g), fun x hx => ?_⟩
    simp at hx; subst hx
    cases h <;> rfl
theorem slice_weak {g : Gh} {sz : Nat} {sh : Sh} {xs : List AV} {k : SK} {v : Value} (h : V g (.slice sz sh xs k) v) : V g (.slice sz sh xs .ro) v := by
  cases h with
  | slice _ _ _ _ vs b o c h1 h2 h3 h4 h5 h6 => exact .slice _ _ _ _ vs b o c h1 h2 h3 h4 h5 h6
  | slice0 => exact .slice0 _ _
  | slice1 => exact .slice1 _ _ _ _ _
theorem flat_append (a b : List AV) : flat (a ++ b) = flat a ++ flat b := by simp [flat]
theorem fslice_weak {g : Gh} {sz : Nat} {sh : Sh} {xs ys : List AV} {v : Value} (h : V g (.fslice sz sh xs ys) v) : V g (.slice sz sh xs .nn) v := by
  cases h with
  | fslice _ _ _ _ vs b o h1 h2 h3 h4 h5 =>
    rw [flat_append] at h1 h2
    have hvl : VL g (flat xs ++ flat ys) vs := ⟨h1, h2⟩
    have ht := hvl.take (flat xs).length
    rw [List.take_left'  rfl] at ht
    refine .slice _ _ _ _ (vs.take (flat xs).length) b o _ ht.1 ht.2 (fun i v hv => ?_) (fun x hx => h4 x (by simp [hx])) (by simp) (by simp at h5; omega)
    rw [List.getElem?_take] at hv
    split at hv
    · exact h3 i v hv
    · simp at hv
theorem getF_agg (cs : List AV) (i : Nat) : getF (.agg cs) i = cs.getD i .junk := rfl
mutual
theorem fit_sound : ∀ (sh : Sh) (v v' : AV), fit sh v = some v' → reshape sh v' = v' ∧ (∀ g cv, V g v cv → V g v' cv) ∧ (cells v').length = (cells v).length ∧ (cells v').all oneCell = true
  | .int k, v, v', h => by
    cases v <;> simp [fit] at h
    obtain ⟨rfl, rfl⟩ := h
    exact ⟨rfl, fun _ _ h => h, rfl, rfl⟩
  | .bool, v, v', h => by cases v <;> simp [fit] at h; subst h; exact ⟨rfl, fun _ _ h => h, rfl, rfl⟩
  | .str, v, v', h => by cases v <;> simp [fit] at h; subst h; exact ⟨rfl, fun _ _ h => h, rfl, rfl⟩
  | .slice sz sh, v, v', h => by
    cases v <;> simp [fit] at h
    · subst h; exact ⟨rfl, fun g cv h => by cases h; exact .slice0 _ _, rfl, rfl⟩
    · obtain ⟨⟨rfl, hb⟩, rfl⟩ := h
      have := Sh.beq_eq _ _ hb; subst this
      exact ⟨rfl, fun g cv h => slice_weak h, rfl, rfl⟩
    · obtain ⟨⟨rfl, hb⟩, rfl⟩ := h
      have := Sh.beq_eq _ _ hb; subst this
      exact ⟨rfl, fun g cv h => slice_weak (fslice_weak h), rfl, rfl⟩
  | .agg l, v, v', h => by
    cases v <;> simp [fit] at h
    rename_i cs
    obtain ⟨cs', h, rfl⟩ := h
    obtain ⟨h1, h2, h3, h4⟩ := fitL_sound l cs cs' h
    refine ⟨by simp only [reshape]; rw [h1 (.agg cs') 0 (fun j hj => by simp [getF_agg])], fun g cv hv => ?_, by simp [cells, h3], by simpa [cells] using h4⟩
    cases hv with
    | agg _ vs hl hv =>
      have := h2 g vs.toList ⟨by simpa using hl, by simpa using hv⟩
      exact .agg _ _ (by simpa using this.1) (by simpa using this.2)
  | .any, v, v', h => by
    cases v <;> simp [fit] at h <;> (subst h; exact ⟨rfl, fun _ _ h => h, rfl, rfl⟩)
theorem fitL_sound : ∀ (l : List Sh) (cs cs' : List AV), fitL l cs = some cs' →
    (∀ (x : AV) (i : Nat), (∀ j, j < cs'.length → getF x (i + j) = cs'.getD j .junk) → reshapeL l i x = cs') ∧ (∀ g vs, VL g cs vs → VL g cs' vs) ∧ cs'.length = cs.length ∧ cs'.all oneCell = true
  | [], [], cs', h => by simp [fitL] at h; subst h; exact ⟨fun _ _ _ => rfl, fun _ _ h => h, rfl, rfl⟩
  | [], _ :: _, _, h => by simp [fitL] at h
  | _ :: _, [], _, h => by simp [fitL] at h
  | s :: l, c :: cs, cs', h => by
    simp only [fitL] at h
    split at h
    · rename_i c' hc
      split at h
      · rename_i ho
        simp at h
        obtain ⟨cs'', hcs, rfl⟩ := h
        obtain ⟨h1, h2, h3, h4⟩ := fitL_sound l cs cs'' hcs
        obtain ⟨k1, k2, k3, k4⟩ := fit_sound s c c' hc
        refine ⟨fun x i hx => ?_, fun g vs hv => ?_, by simp [h3], by simp [ho, h4]⟩
        · simp only [reshapeL]
          have := hx 0 (by simp)
          simp at this
          rw [this, k1, h1 x (i + 1) (fun j hj => by have := hx (j + 1) (by simp; omega); rw [show i + 1 + j = i + (j + 1) by omega, this]; simp)]
        · obtain ⟨v, vs', rfl, v1, v2⟩ := hv.cons_inv
          exact VL.cons (k2 g v v1) (h2 g vs' v2)
      · simp at h
    · simp at h
end
theorem fit_cells {sh : Sh} {v v' : AV} (h : fit sh v = some v') {g : Gh} {vs : List Value} (hv : VL g (cells v) vs) : VL g (cells v') vs := by
  have plain : ∀ {v v' : AV}, cells v = [v] → cells v' = [v'] → fit sh v = some v' → VL g (cells v) vs → VL g (cells v') vs := by
    intro v v' e1 e2 h hv
    rw [e1] at hv; rw [e2]
    obtain ⟨x, vs', rfl, h1, h2⟩ := hv.cons_inv
    exact VL.cons ((fit_sound sh v v' h).2.1 g x h1) (h2.nil_inv ▸ VL.nil g)
  cases sh with
  | agg l =>
    cases v <;> simp [fit] at h
    obtain ⟨cs', h, rfl⟩ := h
    exact (fitL_sound l _ cs' h).2.1 g vs hv
  | _ =>
    cases v <;> first
      | (refine plain ?_ ?_ h hv <;> simp [fit] at h <;> first | rfl | (obtain ⟨_, rfl⟩ := h; rfl) | (subst h; rfl))
      | (simp [fit] at h; done)
theorem fitAll_sound (sh : Sh) : ∀ (xs xs' : List AV), fitAll sh xs = some xs' → (∀ x ∈ xs', reshape sh x = x ∧ (cells x).all oneCell = true) ∧ (∀ g vs, VL g (flat xs) vs → VL g (flat xs') vs) ∧ xs'.length = xs.length ∧
    (∀ n, (∀ x ∈ xs, (cells x).length = n) → ∀ x ∈ xs', (cells x).length = n)
  | [], xs', h => by simp [fitAll] at h; subst h; exact ⟨fun x hx => by simp at hx, fun _ _ h => h, rfl, fun _ _ x hx => by simp at hx⟩
  | x :: xs, xs', h => by
    simp only [fitAll] at h
    split at h
    · rename_i x' hx
      simp at h
      obtain ⟨xs'', hxs, rfl⟩ := h
      obtain ⟨h1, h2, h3, h4⟩ := fitAll_sound sh xs xs'' hxs
      obtain ⟨k1, k2, k3, k4⟩ := fit_sound sh x x' hx
      refine ⟨fun y hy => ?_, fun g vs hv => ?_, by simp [h3], fun n hn y hy => ?_⟩
      · simp at hy; rcases hy with rfl | hy
        · exact ⟨k1, k4⟩
        · exact h1 y hy
      · have e1 : flat (x :: xs) = cells x ++ flat xs := rfl
        have e2 : flat (x' :: xs'') = cells x' ++ flat xs'' := rfl
        rw [e1] at hv; rw [e2]
        have l1 : VL g (cells x) (vs.take (cells x).length) := by have := hv.take (cells x).length; rwa [List.take_left' rfl] at this
        have l2 : VL g (flat xs) (vs.drop (cells x).length) := by have := hv.drop (cells x).length; rwa [List.drop_left' rfl] at this
        have := (fit_cells hx l1).append (h2 g _ l2)
        rwa [List.take_append_drop] at this
      · simp at hy; rcases hy with rfl | hy
        · rw [k3]; exact hn x (by simp)
        · exact h4 n (fun z hz => hn z (by simp [hz])) y hy
    · simp at h
end Go.Cx

end

section
namespace Go.Cx
open Go.RowKit (Below)
set_option linter.unusedSimpArgs false
theorem flat_cons (x : AV) (xs : List AV) : flat (x :: xs) = cells x ++ flat xs := rfl
theorem flat_len {sz : Nat} : ∀ {xs : List AV}, (∀ x ∈ xs, (cells x).length = sz) → (flat xs).length = xs.length * sz
  | [], _ => by simp [flat]
  | x :: xs, h => by
    rw [flat_cons, List.length_append, h x (by simp), flat_len (fun y hy => h y (by simp [hy])), List.length_cons, Nat.succ_mul, Nat.add_comm]
theorem flat_take {sz : Nat} : ∀ {xs : List AV} (n : Nat), (∀ x ∈ xs, (cells x).length = sz) → flat (xs.take n) = (flat xs).take (n * sz)
  | [], n, _ => by simp [flat]
  | x :: xs, 0, h => by simp [flat]
  | x :: xs, n + 1, h => by
    have hx := h x (by simp)
    rw [List.take_succ_cons, flat_cons, flat_cons, flat_take n (fun y hy => h y (by simp [hy])), List.take_append, hx, Nat.succ_mul]
    rw [List.take_of_length_le (l := cells x) (by omega), show n * sz + sz - sz = n * sz by omega]
theorem flat_drop {sz : Nat} : ∀ {xs : List AV} (n : Nat), (∀ x ∈ xs, (cells x).length = sz) → flat (xs.drop n) = (flat xs).drop (n * sz)
  | [], n, _ => by simp [flat]
  | x :: xs, 0, h => by simp [flat]
  | x :: xs, n + 1, h => by
    have hx := h x (by simp)
    rw [List.drop_succ_cons, flat_cons, flat_drop n (fun y hy => h y (by simp [hy])), List.drop_append, hx, Nat.succ_mul]
    rw [List.drop_of_length_le (l := cells x) (by omega), show n * sz + sz - sz = n * sz by omega]; rfl
theorem flat_seg {sz : Nat} {xs : List AV} {i : Nat} {x : AV} (h : ∀ x ∈ xs, (cells x).length = sz) (hx : xs[i]? = some x) : ((flat xs).drop (i * sz)).take sz = cells x := by
  rw [← flat_drop i h]
  have : xs.drop i = x :: xs.drop (i + 1) := by
    have hlt := length_of_get hx
    rw [List.drop_eq_getElem_cons hlt]
    congr 1
    rw [List.getElem?_eq_getElem hlt] at hx; exact Option.some.inj hx
  rw [this, flat_cons, List.take_left' (h x (List.mem_of_getElem? hx))]
theorem flat_set {sz : Nat} : ∀ {xs : List AV} {i : Nat} {y : AV}, (∀ x ∈ xs, (cells x).length = sz) → i < xs.length → flat (xs.set i y) = (flat xs).take (i * sz) ++ cells y ++ (flat xs).drop (i * sz + sz)
  | x :: xs, 0, y, h, _ => by
    have hx := h x (by simp)
    simp only [List.set_cons_zero, flat_cons, Nat.zero_mul, List.take_zero, List.nil_append, Nat.zero_add]
    rw [List.drop_left' hx]
  | x :: xs, i + 1, y, h, hi => by
    have hx := h x (by simp)
    simp only [List.set_cons_succ, flat_cons]
    rw [flat_set (fun z hz => h z (by simp [hz])) (by simpa using hi), Nat.succ_mul, List.take_append, List.drop_append, hx]
    rw [List.take_of_length_le (l := cells x) (by omega), List.drop_of_length_le (l := cells x) (by omega), show i * sz + sz - sz = i * sz by omega, show i * sz + sz + sz - sz = i * sz + sz by omega]
    simp
theorem elemAt_eq {sh : Sh} {xs : List AV} {i : Nat} {x : AV} (h : ∀ x ∈ xs, reshape sh x = x) (hx : xs[i]? = some x) : elemAt sh xs i = x := by
  unfold elemAt
  rw [List.getD_eq_getElem?_getD, hx]
  exact h x (List.mem_of_getElem? hx)
theorem grown_inv {α : Type} {hp : List Ob} {id ver len : Nat} {K : TypeId → Nat → Sh → List AV → Option α} {r : α} (h : grown none hp id ver len K = some r) :
    ∃ ty sz sh xs, hp[id]? = some (.grow ty ver sz sh xs) ∧ len = xs.length ∧ K ty sz sh xs = some r := by
  unfold grown at h
  split at h
  · rename_i ty ver' sz sh xs he
    obtain ⟨h1, k1⟩ := ask_some h
    obtain ⟨h2, k2⟩ := ask_some k1
    simp at h1 h2; subst h1
    exact ⟨ty, sz, sh, xs, he, h2, k2⟩
  · simp at h
theorem grownR_inv {α : Type} {hp : List Ob} {id ver len : Nat} {K : Nat → Sh → List AV → Option α} {r : α} (h : grownR none hp id ver len K = some r) :
    ∃ sz sh xs, ((∃ ty, hp[id]? = some (.grow ty ver sz sh xs)) ∨ hp[id]? = some (.froz ver sz sh xs)) ∧ len = xs.length ∧ K sz sh xs = some r := by
  unfold grownR at h
  split at h
  · rename_i ty ver' sz sh xs he
    obtain ⟨h1, k1⟩ := ask_some h
    obtain ⟨h2, k2⟩ := ask_some k1
    simp at h1 h2; subst h1
    exact ⟨sz, sh, xs, .inl ⟨ty, he⟩, h2, k2⟩
  · rename_i ver' sz sh xs he
    obtain ⟨h1, k1⟩ := ask_some h
    obtain ⟨h2, k2⟩ := ask_some k1
    simp at h1 h2; subst h1
    exact ⟨sz, sh, xs, .inr he, h2, k2⟩
  · simp at h
structure GrowOK (g : Gh) (w : World) (id ver sz : Nat) (sh : Sh) (xs : List AV) (b c : Nat) (vs : Array Value) (ty : TypeId) (fz : Nat × Nat) : Prop where
  cur : g.cur id = some (ver, xs.length, some b, c)
  blk : g.blk id = none
  base : g.free b
  heap : w.heap[b]? = some (.cells vs ty fz)
  size : vs.size = c * sz
  pos : 0 < sz
  le : xs.length ≤ c
  vl : VL g (flat xs) (vs.toList.take (xs.length * sz))
  sh : ∀ x ∈ xs, reshape sh x = x ∧ (cells x).length = sz ∧ (cells x).all oneCell
  lim : xs.length < TOP
  imm : ∀ o, g.imm b o = none
  froz : ∀ o, o < vs.size → w.frozen? ⟨b, o, none⟩ = false
  soft : soft vs.size fz
section
variable {P : Program} {g : Gh} {w : World} {hp : List Ob}
structure VirtOK (g : Gh) (id ver sz : Nat) (xs : List AV) : Prop where
  nil : xs = []
  pos : 0 < sz
  cur : g.cur id = some (ver, 0, none, 0)
  blk : g.blk id = none
theorem VirtOK.slice {id ver sz : Nat} (k : VirtOK g id ver sz []) {cv : Value} (h : V g (.oslice id ver 0) cv) : cv = .slice none 0 0 := by
  cases h with
  | oslice _ _ _ b' c' x hx hh =>
    rw [k.cur] at hx; cases hx
    rcases hh with hh | ⟨_, _, hh⟩
    · omega
    · have := (hh rfl).1; simp at this
  | oslice0 _ _ x hx hh => rfl
theorem R.growOK (h : R g w hp) {ty : TypeId} {id ver sz : Nat} {sh : Sh} {xs : List AV} (he : hp[id]? = some (.grow ty ver sz sh xs)) : VirtOK g id ver sz xs ∨ ∃ b c vs fz, GrowOK g w id ver sz sh xs b c vs ty fz := by
  have := h.objs id
  rw [he] at this
  obtain ⟨k1, ⟨k0, k3, k2⟩ | ⟨b, c, vs, fz, k2, k3, k4, k5, k6, k7, k8, k9, klim, k10, k11, k12⟩⟩ := this
  · exact .inl ⟨k0, k3, k2, k1⟩
  right
  exact ⟨b, c, vs, fz, k2, k1, k3, k4, k5, k6, k7, k8, k9, klim, k10, k11, k12⟩
theorem R.frozV (h : R g w hp) {id ver sz : Nat} {sh : Sh} {xs : List AV} (he : hp[id]? = some (.froz ver sz sh xs)) {cv : Value} (hV : V g (.oslice id ver xs.length) cv) : V g (.slice sz sh xs .ro) cv := by
  have := h.objs id
  rw [he] at this
  obtain ⟨-, b, c, hc, hs⟩ := this
  generalize hn : xs.length = n at hV hc hs
  cases hV with
  | oslice _ _ _ b' c' x hx hh =>
    rw [hc] at hx; cases hx
    rcases hh with hh | ⟨_, _, hh⟩
    · omega
    · obtain ⟨h1, h2⟩ := hh rfl
      subst h1 h2; exact hs
  | oslice0 _ _ x hx hh =>
    rw [hc] at hx; cases hx
    rcases hh with hh | ⟨_, _, hh⟩
    · omega
    · obtain ⟨h1, h2⟩ := hh rfl
      subst h1 h2; exact hs
theorem R.frozP (h : R g w hp) {id ver sz : Nat} {sh : Sh} {xs : List AV} (he : hp[id]? = some (.froz ver sz sh xs)) {s i j : Nat} {cv : Value} (hV : V g (.optr id ver xs.length s i j) cv) : ∃ b c, cv = .pointer (some ⟨b, i * s + j, none⟩) ∧ V g (.slice sz sh xs .ro) (.slice (some ⟨b, 0, none⟩) xs.length c) := by
  have := h.objs id
  rw [he] at this
  obtain ⟨-, b, c, hc, hs⟩ := this
  generalize hn : xs.length = n at hV hc hs
  cases hV with
  | optr _ _ _ _ _ _ b' c' x hx hh =>
    rw [hc] at hx; cases hx
    rcases hh with hh | ⟨_, _, hh⟩
    · omega
    · obtain ⟨h1, h2⟩ := hh rfl
      subst h1 h2; exact ⟨_, _, rfl, hs⟩
theorem GrowOK.slice {id ver sz : Nat} {sh : Sh} {xs : List AV} {b c : Nat} {vs : Array Value} {ty : TypeId} {fz : Nat × Nat} (k : GrowOK g w id ver sz sh xs b c vs ty fz) {cv : Value}
    (h : V g (.oslice id ver xs.length) cv) : cv = .slice (some ⟨b, 0, none⟩) xs.length c := by
  have hc := k.cur
  generalize xs.length = n at h hc
  cases h with
  | oslice _ _ _ b' c' x hx hh =>
    rw [hc] at hx; cases hx
    rcases hh with hh | ⟨_, _, hh⟩
    · omega
    · have := hh rfl; simp at this; obtain ⟨rfl, rfl⟩ := this; rfl
  | oslice0 _ _ x hx hh =>
    rw [hc] at hx; cases hx
    rcases hh with hh | ⟨_, _, hh⟩
    · omega
    · have := (hh rfl).1; simp at this
theorem GrowOK.addr {id ver sz : Nat} {sh : Sh} {xs : List AV} {b c : Nat} {vs : Array Value} {ty : TypeId} {fz : Nat × Nat} (k : GrowOK g w id ver sz sh xs b c vs ty fz) {i j sz' : Nat} {cv : Value}
    (h : V g (.optr id ver xs.length sz' i j) cv) : cv = .pointer (some ⟨b, i * sz' + j, none⟩) := by
  cases h with
  | optr _ _ _ _ _ _ b' c' x hx hh =>
    rw [k.cur] at hx; cases hx
    rcases hh with hh | ⟨_, _, hh⟩
    · omega
    · have := hh rfl; simp at this; obtain ⟨rfl, rfl⟩ := this; rfl
theorem GrowOK.lies {id ver sz : Nat} {sh : Sh} {xs : List AV} {b c : Nat} {vs : Array Value} {ty : TypeId} {fz : Nat × Nat} (k : GrowOK g w id ver sz sh xs b c vs ty fz) : Lies w b 0 (vs.toList.take (xs.length * sz)) :=
  (lies_block k.heap).take _
theorem loadA_sound (h : R g w hp) {t : TypeId} {a v : AV} {c : Cls} (hl : loadA none P t a hp (fun v c => some (v, c)) = some (v, c)) {ca : Value} (ha : V g a ca) :
    ∃ cv, (Instr.loadAt t ca).run P w = .ok cv w ∧ V g v cv := by
  have cps : ∀ {cs : List AV} {off : Nat} {c' : Cls}, fromCells none P t cs off (fun v => some (v, c')) = some (v, c) → fromCells none P t cs off some = some v := by
    intro cs off c' hh
    unfold fromCells at hh ⊢
    split at hh
    · split at hh <;> simp at hh ⊢; simp_all
    · split at hh <;> simp at hh ⊢; simp_all
    · simp at hh
    · split at hh <;> simp at hh ⊢; simp_all
  unfold loadA at hl
  split at hl
  · rename_i id off
    split at hl
    · rename_i cs he
      have k := h.objs id
      rw [he] at k
      obtain ⟨_, b, vs, fz, k2, k3, k4, k5, k6, k7, k8⟩ := k
      cases ha with
      | ptr _ _ b' hb =>
        rw [k2] at hb; cases hb
        obtain ⟨cv, hr, hV⟩ := (fromCells_sound (w := w) (cps hl) k5).1 b 0 (lies_block k4)
        rw [Nat.zero_add] at hr
        exact ⟨cv, by simpa [Instr.loadAt, Instr.sureAddr] using hr, hV⟩
    · simp at hl
  · rename_i cs
    cases ha with
    | rptr _ vs b o h1 h2 h3 =>
      obtain ⟨cv, hr, hV⟩ := (fromCells_sound (w := w) (cps hl) ⟨h1, h2⟩).1 b o (lies_at h.imm h3)
      exact ⟨cv, by simpa [Instr.loadAt, Instr.sureAddr] using hr, hV⟩
  · rename_i id ver len sz i j
    obtain ⟨sz', sh, xs, he, rfl, hl⟩ := grownR_inv hl
    obtain ⟨hs, hl1⟩ := ask_some hl
    obtain ⟨hi, hl2⟩ := ask_some hl1
    clear hl hl1
    simp at hs hi; subst hs
    rcases he with ⟨tyo, he⟩ | he
    rotate_left
    · obtain ⟨b, cc, rfl, hs⟩ := h.frozP he ha
      cases hs with
      | slice1 => simp at hi
      | slice _ _ _ _ vs _ _ _ h1 h2 h3 h4 h5 h6 =>
        have hx : xs[i]? = some xs[i] := by simp [hi]
        rw [elemAt_eq (fun x hx => (h4 x hx).1) hx] at hl2
        have hw : ∀ x ∈ xs, (cells x).length = sz := fun x hx => (h4 x hx).2.1
        have hv := (VL.drop (i * sz) (show VL g (flat xs) vs from ⟨h1, h2⟩)).take sz
        rw [flat_seg hw hx] at hv
        obtain ⟨cv, hr, hV⟩ := (fromCells_sound (w := w) (cps hl2) hv).1 b (i * sz) (by have := ((lies_at h.imm h3).drop (i * sz)).take sz; rwa [Nat.zero_add] at this)
        exact ⟨cv, by simpa [Instr.loadAt, Instr.sureAddr] using hr, hV⟩
    rcases h.growOK he with k | ⟨b, cc, vs, fz, k⟩
    · rw [k.nil] at hi; simp at hi
    rw [k.addr ha]
    have hx : xs[i]? = some xs[i] := by simp [hi]
    rw [elemAt_eq (fun x hx => (k.sh x hx).1) hx] at hl2
    have hw : ∀ x ∈ xs, (cells x).length = sz := fun x hx => (k.sh x hx).2.1
    have hv := (k.vl.drop (i * sz)).take sz
    rw [flat_seg hw hx] at hv
    obtain ⟨cv, hr, hV⟩ := (fromCells_sound (w := w) (cps hl2) hv).1 b (i * sz) (by have := (k.lies.drop (i * sz)).take sz; rwa [Nat.zero_add] at this)
    exact ⟨cv, by simpa [Instr.loadAt, Instr.sureAddr] using hr, hV⟩
  · simp at hl
theorem setRange_VL : ∀ {vs : List AV} {cvs : List Value} {cs : List AV} {cur : Array Value} {off : Nat}, VL g vs cvs → VL g cs cur.toList → VL g (setRange cs off vs) (putR cur off cvs).toList
  | [], cvs, cs, cur, off, h, k => by rw [h.nil_inv]; exact k
  | v :: vs, cvs, cs, cur, off, h, k => by
    obtain ⟨cv, cvs', rfl, h1, h2⟩ := h.cons_inv
    rw [setRange, putR]
    exact setRange_VL h2 (by simpa using k.set off h1)
theorem setRange_one : ∀ {vs cs : List AV} {off : Nat}, (∀ c ∈ vs, oneCell c) → (∀ c ∈ cs, oneCell c) → ∀ c ∈ setRange cs off vs, oneCell c
  | [], cs, off, _, k, c, hc => k c hc
  | v :: vs, cs, off, h, k, c, hc => by
    rw [setRange] at hc
    refine setRange_one (fun x hx => h x (by simp [hx])) (fun x hx => ?_) c hc
    rcases List.mem_or_eq_of_mem_set hx with hx | rfl
    · exact k x hx
    · exact h x (by simp)
theorem store_own (b o : Nat) {vs : Array Value} {ty : TypeId} {fz : Nat × Nat} (hb : w.heap[b]? = some (.cells vs ty fz)) (hf : ∀ o, o < vs.size → w.frozen? ⟨b, o, none⟩ = false) (new : List Value) (hn : o + new.length ≤ vs.size)
    (h1 : ∀ v ∈ new, v.oneCell' = true) : (storeCells ⟨b, o, none⟩ new).run P w = .ok () (w.setCells b o new) := by
  have := run_storeCells_cells (P := P) b o new 0 w (fun j hj => ?_) (fun j hj => hf _ (by omega)) h1
  · simpa using this
  · have hlt : o + 0 + j < vs.size := by omega
    simp only [World.cell?, hb]
    simp [hlt]
    omega
theorem storeVar_own {t : TypeId} {i : TypeInfo} (ht : P.info? t = some i) (b o : Nat) {vs : Array Value} {ty : TypeId} {fz : Nat × Nat} (hb : w.heap[b]? = some (.cells vs ty fz)) (hf : ∀ o, o < vs.size → w.frozen? ⟨b, o, none⟩ = false)
    (cv : Value) (hs : cv.cells.size = sizeA P t) (hn : o + cv.cells.size ≤ vs.size) (h1 : ∀ v ∈ cv.cells.toList, v.oneCell' = true) :
    (storeVar t ⟨b, o, none⟩ cv).run P w = .ok () (w.setCells b o cv.cells.toList) := by
  have := store_own (P := P) b o hb hf cv.cells.toList (by simpa using hn) h1
  simp only [storeVar, Sem.run_bind, run_sizeOf ht, Result.andThen_ok, hs, ne_eq, not_true_eq_false, if_false]
  simpa using this
theorem seg_drop {α : Type} (q : List α) {m sz : Nat} (h : m ≤ sz) : (q.take sz).drop m ++ q.drop sz = q.drop m := by
  have e : q.drop sz = (q.drop m).drop (sz - m) := by rw [List.drop_drop]; congr 1; omega
  rw [List.drop_take, e, List.take_append_drop]
theorem storeA_sound (h : R g w hp) {t : TypeId} {a v : AV} {hp' : List Ob} (hl : storeA none P t a v hp some = some hp') {ca cv : Value} (ha : V g a ca) (hv : V g v cv) :
    ∃ w', (Instr.storeAt t ca cv).run P w = .ok () w' ∧ R g w' hp' := by
  unfold storeA at hl
  split at hl
  · rename_i hc
    obtain ⟨hlen, hone, ht⟩ := hc
    obtain ⟨ti, hti⟩ := Option.isSome_iff_exists.1 (show (P.info? t).isSome = true by rw [← infoF_eq]; exact ht)
    obtain ⟨hvl, h1⟩ := cells_V hv hone
    have hsz : cv.cells.size = sizeA P t := by rw [← hlen]; have := hvl.1; simpa using this.symm
    split at hl
    · rename_i id off
      split at hl
      · rename_i cs he
        split at hl <;> simp at hl
        rename_i hle; subst hl
        have k := h.objs id
        rw [he] at k
        obtain ⟨k1, b, vs, fz, k2, k3, k4, k5, k6, k7, k8⟩ := k
        cases ha with
        | ptr _ _ b' hb =>
          rw [k2] at hb; cases hb
          have hcs : cs.length = vs.size := by have := k5.1; simpa using this
          have hrun := storeVar_own (P := P) hti b off k4 k8 cv hsz (by omega) h1
          refine ⟨_, by simpa [Instr.storeAt, Instr.sureAddr] using hrun, ?_⟩
          obtain ⟨r1, r2, r3, r4⟩ := rest_setCells b cv.cells.toList off w
          refine h.turn (g' := g) (b := b) (Gh.le.refl g) (length_of_get he) (by rw [he]; simp) (.inl k2) (fun _ _ => rfl) (fun _ _ => rfl) (fun _ _ _ e => .inl e) (fun _ _ _ e => e) r1 r2 r3 (by omega)
            (fun k _ hk => heap_setCells_other b _ off w k hk) ?_ (fun _ b' ho => ?_)
          · refine ⟨k1, b, _, fz, k2, k3, heap_setCells b cv.cells.toList off w vs _ fz k4, setRange_VL hvl k5, setRange_one (fun c hc => List.all_eq_true.1 hone c hc) k6, k7, fun o ho => ?_⟩
            rw [World.frozen?_setCells]
            exact k8 o (by simpa using ho)
          · left
            rcases ho with ho | ⟨_, _, _, ho⟩
            · rw [k2] at ho; exact (Option.some.inj ho).symm
            · rw [k1] at ho; simp at ho
      · simp at hl
    · rename_i id ver len sz i j
      obtain ⟨tyo, sz', sh, xs, he, rfl, hl⟩ := grown_inv hl
      obtain ⟨hs, hl1⟩ := ask_some hl
      obtain ⟨hi, hl2⟩ := ask_some hl1
      clear hl hl1
      simp at hs hi; subst hs
      split at hl2
      · rename_i v' hv'
        split at hl2 <;> simp at hl2
        rename_i hj; obtain ⟨hj, hjl⟩ := hj; subst hl2
        rcases h.growOK he with k | ⟨b, cc, vs, fz, k⟩
        · rw [k.nil] at hi; simp at hi
        obtain ⟨f1, f2, f3, f4⟩ := fit_sound sh _ v' hv'
        have hw : ∀ x ∈ xs, (cells x).length = sz := fun x hx => (k.sh x hx).2.1
        have hx : xs[i]? = some xs[i] := by simp [hi]
        have hroom : i * sz + sz ≤ xs.length * sz := by
          have : (i + 1) * sz ≤ xs.length * sz := Nat.mul_le_mul_right _ (by omega)
          rwa [Nat.succ_mul] at this
        have hroom2 : xs.length * sz ≤ vs.size := by rw [k.size]; exact Nat.mul_le_mul_right _ k.le
        have hn : cv.cells.toList.length = (cells v).length := hvl.1.symm
        have hseg := (k.vl.drop (i * sz)).take sz
        rw [flat_seg hw hx] at hseg
        generalize hs0 : ((vs.toList.take (xs.length * sz)).drop (i * sz)).take sz = s0 at hseg
        have ls0 : s0.length = sz := by rw [← hs0]; simp; omega
        obtain ⟨nw, hnw, hvl'⟩ : ∃ nw : List Value, nw = s0.take j ++ cv.cells.toList ++ s0.drop (j + cv.cells.toList.length) ∧ VL g (cells v') nw := by
          refine ⟨_, rfl, ?_⟩
          refine fit_cells hv' ?_
          unfold partE
          cases hb : (Nat.beq j 0 && Nat.beq (cells v).length sz) with
          | true =>
            simp only [Bool.and_eq_true, Nat.beq_eq] at hb
            obtain ⟨rfl, hb⟩ := hb
            rw [List.take_zero, List.nil_append, List.drop_of_length_le (by omega), List.append_nil]
            exact hvl
          | false =>
            rw [cond_false, elemAt_eq (fun x hx => (k.sh x hx).1) hx]
            have q := setRange_VL (off := j) hvl (cur := s0.toArray) hseg
            rw [putR_list _ _ _ (by simp; omega)] at q
            exact q
        have hnew : nw.length = sz := by rw [← hvl'.1]; exact hjl
        rw [k.addr ha]
        have hadd : (i * sz + j) + cv.cells.toList.length ≤ vs.size := by omega
        have hrun := storeVar_own (P := P) hti b (i * sz + j) k.heap k.froz cv hsz (by simpa using hadd) h1
        refine ⟨_, by simpa [Instr.storeAt, Instr.sureAddr] using hrun, ?_⟩
        obtain ⟨r1, r2, r3, r4⟩ := rest_setCells b cv.cells.toList (i * sz + j) w
        have hput : (putR vs (i * sz + j) cv.cells.toList).toList = vs.toList.take (i * sz) ++ nw ++ vs.toList.drop (i * sz + sz) := by
          rw [putR_list _ _ _ hadd, hnw, List.take_add, Nat.add_assoc]
          have hs1 : s0 = (vs.toList.drop (i * sz)).take sz := by
            rw [← hs0, List.drop_take, List.take_take, Nat.min_eq_left (by omega)]
          have e1 : s0.take j = (vs.toList.drop (i * sz)).take j := by
            rw [hs1, List.take_take, Nat.min_eq_left (by omega)]
          have e2 : s0.drop (j + cv.cells.toList.length) ++ vs.toList.drop (i * sz + sz) = vs.toList.drop (i * sz + (j + cv.cells.toList.length)) := by
            have d1 : vs.toList.drop (i * sz + sz) = (vs.toList.drop (i * sz)).drop sz := by rw [List.drop_drop]
            have d2 : vs.toList.drop (i * sz + (j + cv.cells.toList.length)) = (vs.toList.drop (i * sz)).drop (j + cv.cells.toList.length) := by rw [List.drop_drop]
            rw [hs1, d1, d2]
            exact seg_drop _ (by omega)
          rw [e1, ← e2]
          simp only [List.append_assoc]
        refine h.turn (g' := g) (b := b) (Gh.le.refl g) (length_of_get he) (by rw [he]; simp) (.inr ⟨_, _, _, k.cur⟩) (fun _ _ => rfl) (fun _ _ => rfl) (fun _ _ _ e => .inl e) (fun _ _ _ e => e) r1 r2 r3 (by omega)
            (fun k _ hk => heap_setCells_other b _ _ w k hk) ?_ (fun _ b' ho => ?_)
        · refine ⟨k.blk, .inr ?_⟩
          refine ⟨b, cc, _, fz, by rw [List.length_set]; exact k.cur, k.base, heap_setCells b cv.cells.toList _ w vs _ fz k.heap, by rw [size_putR]; exact k.size, k.pos, by rw [List.length_set]; exact k.le, ?_, fun x hx => ?_, by rw [List.length_set]; exact k.lim, k.imm, fun o ho => ?_, by rw [size_putR]; exact k.soft⟩
          · rw [List.length_set, hput, flat_set hw hi]
            have e : List.take (xs.length * sz) (List.take (i * sz) vs.toList ++ nw ++ List.drop (i * sz + sz) vs.toList) =
                List.take (i * sz) (List.take (xs.length * sz) vs.toList) ++ nw ++ List.drop (i * sz + sz) (List.take (xs.length * sz) vs.toList) := by
              rw [List.append_assoc, List.take_append, List.take_append, List.take_take, List.take_take, List.drop_take, List.append_assoc]
              have l0 : (List.take (i * sz) vs.toList).length = i * sz := by simp; omega
              rw [l0, hnew, Nat.min_comm]
              congr 2
              · rw [List.take_of_length_le (by omega)]
              · congr 1; omega
            rw [e]
            exact ((k.vl.take (i * sz)).append hvl').append (k.vl.drop (i * sz + sz))
          · rcases List.mem_or_eq_of_mem_set hx with hx | rfl
            · exact k.sh x hx
            · exact ⟨f1, hjl, f4⟩
          · rw [World.frozen?_setCells]
            exact k.froz o (by simpa using ho)
        · left
          rcases ho with ho | ⟨_, _, _, ho⟩
          · rw [k.blk] at ho; simp at ho
          · rw [k.cur] at ho; cases ho; rfl
      · simp at hl2
    · simp at hl
  · simp at hl
end
end Go.Cx

end
