/- Shapes. -/
import Derived.Test.YtfhgmpeplfjmcaaCxE
namespace Go.Cx
open Go.RowKit (Below)
set_option linter.unusedSimpArgs false
mutual
theorem Sh.beq_eq : ∀ (a b : Sh), a.beq b = true → a = b
  | .int k, .int k', h => by simp [Sh.beq] at h; subst h; rfl
  | .bool, .bool, _ => rfl
  | .str, .str, _ => rfl
  | .any, .any, _ => rfl
  | .slice n s, .slice n' s', h => by
    simp [Sh.beq] at h
    obtain ⟨rfl, h⟩ := h
    rw [Sh.beq_eq s s' h]
  | .agg l, .agg l', h => by
    simp [Sh.beq] at h
    rw [Sh.beqL_eq l l' h]
  | .int _, .bool, h | .int _, .str, h | .int _, .slice .., h | .int _, .agg _, h | .int _, .any, h => by simp [Sh.beq] at h
  | .bool, .int _, h | .bool, .str, h | .bool, .slice .., h | .bool, .agg _, h | .bool, .any, h => by simp [Sh.beq] at h
  | .str, .int _, h | .str, .bool, h | .str, .slice .., h | .str, .agg _, h | .str, .any, h => by simp [Sh.beq] at h
  | .slice .., .int _, h | .slice .., .bool, h | .slice .., .str, h | .slice .., .agg _, h | .slice .., .any, h => by simp [Sh.beq] at h
  | .agg _, .int _, h | .agg _, .bool, h | .agg _, .str, h | .agg _, .slice .., h | .agg _, .any, h => by simp [Sh.beq] at h
  | .any, .int _, h | .any, .bool, h | .any, .str, h | .any, .slice .., h | .any, .agg _, h => by simp [Sh.beq] at h
theorem Sh.beqL_eq : ∀ (a b : List Sh), Sh.beqL a b = true → a = b
  | [], [], _ => rfl
  | a :: l, b :: l', h => by
    simp [Sh.beqL] at h
    rw [Sh.beq_eq a b h.1, Sh.beqL_eq l l' h.2]
  | [], _ :: _, h => by simp [Sh.beqL] at h
  | _ :: _, [], h => by simp [Sh.beqL] at h
end
theorem oneCell_V {g : Gh} {c : AV} {x : Value} (hc : oneCell c = true) (hv : V g c x) : x.oneCell' = true := by
  cases hv <;> first | rfl | simp [oneCell] at hc
theorem cells_V {g : Gh} {v : AV} {cv : Value} (h : V g v cv) (h1 : (cells v).all oneCell = true) :
    VL g (cells v) cv.cells.toList ∧ ∀ x ∈ cv.cells.toList, x.oneCell' = true := by
  have one : ∀ {c : AV} {x : Value}, oneCell c = true → V g c x → x.oneCell' = true := by
    intro c x hc hv; cases hv <;> first | rfl | simp [oneCell] at hc
  cases v with
  | agg cs =>
    cases h with
    | agg _ vs hl hv =>
      simp only [cells] at h1 ⊢
      refine ⟨⟨by simpa [Value.cells] using hl, by simpa [Value.cells] using hv⟩, fun x hx => ?_⟩
      simp only [Value.cells] at hx
      obtain ⟨i, hi⟩ := List.getElem?_of_mem hx
      have hlt := length_of_get hi
      have : i < cs.length := by simp at hlt; omega
      have hc : cs[i]? = some cs[i] := by simp [this]
      exact one (List.all_eq_true.1 h1 _ (List.getElem_mem this)) (hv i _ x hc (by simpa using hi))
  | tuple cs => simp [cells, oneCell] at h1
  | junk => simp [cells, oneCell] at h1
  | _ =>
    have hc : cv.cells = #[cv] := by cases h <;> rfl
    rw [hc]
    refine ⟨VL.cons h (VL.nil g), fun x hx => ?_⟩
    simp at hx; subst hx
    cases h <;> rfl
theorem slice_weak {g : Gh} {sz : Nat} {sh : Sh} {xs : List AV} {k : SK} {v : Value} (h : V g (.slice sz sh xs k) v) : V g (.slice sz sh xs .ro) v := by
  cases h with
  | slice _ _ _ _ vs b o c h1 h2 h3 h4 h5 h6 => exact .slice _ _ _ _ vs b o c h1 h2 h3 h4 h5 h6
  | slice0 => exact .slice0 _ _
  | slice1 => exact .slice1 _ _ _ _ _
theorem flat_append (a b : List AV) : flat (a ++ b) = flat a ++ flat b := by simp [flat]
theorem fslice_weak {g : Gh} {sz : Nat} {sh : Sh} {xs ys : List AV} {v : Value} (h : V g (.fslice sz sh xs ys) v) : V g (.slice sz sh xs .nn) v := by
  cases h with
  | fslice _ _ _ _ vs b o h1 h2 h3 h4 h5 =>
    rw [flat_append] at h1 h2
    have hvl : VL g (flat xs ++ flat ys) vs := ⟨h1, h2⟩
    have ht := hvl.take (flat xs).length
    rw [List.take_left'  rfl] at ht
    refine .slice _ _ _ _ (vs.take (flat xs).length) b o _ ht.1 ht.2 (fun i v hv => ?_) (fun x hx => h4 x (by simp [hx])) (by simp) (by simp at h5; omega)
    rw [List.getElem?_take] at hv
    split at hv
    · exact h3 i v hv
    · simp at hv
theorem getF_agg (cs : List AV) (i : Nat) : getF (.agg cs) i = cs.getD i .junk := rfl
mutual
theorem fit_sound : ∀ (sh : Sh) (v v' : AV), fit sh v = some v' → reshape sh v' = v' ∧ (∀ g cv, V g v cv → V g v' cv) ∧ (cells v').length = (cells v).length ∧ (cells v').all oneCell = true
  | .int k, v, v', h => by
    cases v <;> simp [fit] at h
    obtain ⟨rfl, rfl⟩ := h
    exact ⟨rfl, fun _ _ h => h, rfl, rfl⟩
  | .bool, v, v', h => by cases v <;> simp [fit] at h; subst h; exact ⟨rfl, fun _ _ h => h, rfl, rfl⟩
  | .str, v, v', h => by cases v <;> simp [fit] at h; subst h; exact ⟨rfl, fun _ _ h => h, rfl, rfl⟩
  | .slice sz sh, v, v', h => by
    cases v <;> simp [fit] at h
    · subst h; exact ⟨rfl, fun g cv h => by cases h; exact .slice0 _ _, rfl, rfl⟩
    · obtain ⟨⟨rfl, hb⟩, rfl⟩ := h
      have := Sh.beq_eq _ _ hb; subst this
      exact ⟨rfl, fun g cv h => slice_weak h, rfl, rfl⟩
    · obtain ⟨⟨rfl, hb⟩, rfl⟩ := h
      have := Sh.beq_eq _ _ hb; subst this
      exact ⟨rfl, fun g cv h => slice_weak (fslice_weak h), rfl, rfl⟩
  | .agg l, v, v', h => by
    cases v <;> simp [fit] at h
    rename_i cs
    obtain ⟨cs', h, rfl⟩ := h
    obtain ⟨h1, h2, h3, h4⟩ := fitL_sound l cs cs' h
    refine ⟨by simp only [reshape]; rw [h1 (.agg cs') 0 (fun j hj => by simp [getF_agg])], fun g cv hv => ?_, by simp [cells, h3], by simpa [cells] using h4⟩
    cases hv with
    | agg _ vs hl hv =>
      have := h2 g vs.toList ⟨by simpa using hl, by simpa using hv⟩
      exact .agg _ _ (by simpa using this.1) (by simpa using this.2)
  | .any, v, v', h => by
    cases v <;> simp [fit] at h <;> (subst h; exact ⟨rfl, fun _ _ h => h, rfl, rfl⟩)
theorem fitL_sound : ∀ (l : List Sh) (cs cs' : List AV), fitL l cs = some cs' →
    (∀ (x : AV) (i : Nat), (∀ j, j < cs'.length → getF x (i + j) = cs'.getD j .junk) → reshapeL l i x = cs') ∧ (∀ g vs, VL g cs vs → VL g cs' vs) ∧ cs'.length = cs.length ∧ cs'.all oneCell = true
  | [], [], cs', h => by simp [fitL] at h; subst h; exact ⟨fun _ _ _ => rfl, fun _ _ h => h, rfl, rfl⟩
  | [], _ :: _, _, h => by simp [fitL] at h
  | _ :: _, [], _, h => by simp [fitL] at h
  | s :: l, c :: cs, cs', h => by
    simp only [fitL] at h
    split at h
    · rename_i c' hc
      split at h
      · rename_i ho
        simp at h
        obtain ⟨cs'', hcs, rfl⟩ := h
        obtain ⟨h1, h2, h3, h4⟩ := fitL_sound l cs cs'' hcs
        obtain ⟨k1, k2, k3, k4⟩ := fit_sound s c c' hc
        refine ⟨fun x i hx => ?_, fun g vs hv => ?_, by simp [h3], by simp [ho, h4]⟩
        · simp only [reshapeL]
          have := hx 0 (by simp)
          simp at this
          rw [this, k1, h1 x (i + 1) (fun j hj => by have := hx (j + 1) (by simp; omega); rw [show i + 1 + j = i + (j + 1) by omega, this]; simp)]
        · obtain ⟨v, vs', rfl, v1, v2⟩ := hv.cons_inv
          exact VL.cons (k2 g v v1) (h2 g vs' v2)
      · simp at h
    · simp at h
end
theorem fit_cells {sh : Sh} {v v' : AV} (h : fit sh v = some v') {g : Gh} {vs : List Value} (hv : VL g (cells v) vs) : VL g (cells v') vs := by
  have plain : ∀ {v v' : AV}, cells v = [v] → cells v' = [v'] → fit sh v = some v' → VL g (cells v) vs → VL g (cells v') vs := by
    intro v v' e1 e2 h hv
    rw [e1] at hv; rw [e2]
    obtain ⟨x, vs', rfl, h1, h2⟩ := hv.cons_inv
    exact VL.cons ((fit_sound sh v v' h).2.1 g x h1) (h2.nil_inv ▸ VL.nil g)
  cases sh with
  | agg l =>
    cases v <;> simp [fit] at h
    obtain ⟨cs', h, rfl⟩ := h
    exact (fitL_sound l _ cs' h).2.1 g vs hv
  | _ =>
    cases v <;> first
      | (refine plain ?_ ?_ h hv <;> simp [fit] at h <;> first | rfl | (obtain ⟨_, rfl⟩ := h; rfl) | (subst h; rfl))
      | (simp [fit] at h; done)
theorem fitAll_sound (sh : Sh) : ∀ (xs xs' : List AV), fitAll sh xs = some xs' → (∀ x ∈ xs', reshape sh x = x ∧ (cells x).all oneCell = true) ∧ (∀ g vs, VL g (flat xs) vs → VL g (flat xs') vs) ∧ xs'.length = xs.length ∧
    (∀ n, (∀ x ∈ xs, (cells x).length = n) → ∀ x ∈ xs', (cells x).length = n)
  | [], xs', h => by simp [fitAll] at h; subst h; exact ⟨fun x hx => by simp at hx, fun _ _ h => h, rfl, fun _ _ x hx => by simp at hx⟩
  | x :: xs, xs', h => by
    simp only [fitAll] at h
    split at h
    · rename_i x' hx
      simp at h
      obtain ⟨xs'', hxs, rfl⟩ := h
      obtain ⟨h1, h2, h3, h4⟩ := fitAll_sound sh xs xs'' hxs
      obtain ⟨k1, k2, k3, k4⟩ := fit_sound sh x x' hx
      refine ⟨fun y hy => ?_, fun g vs hv => ?_, by simp [h3], fun n hn y hy => ?_⟩
      · simp at hy; rcases hy with rfl | hy
        · exact ⟨k1, k4⟩
        · exact h1 y hy
      · have e1 : flat (x :: xs) = cells x ++ flat xs := rfl
        have e2 : flat (x' :: xs'') = cells x' ++ flat xs'' := rfl
        rw [e1] at hv; rw [e2]
        have l1 : VL g (cells x) (vs.take (cells x).length) := by have := hv.take (cells x).length; rwa [List.take_left' rfl] at this
        have l2 : VL g (flat xs) (vs.drop (cells x).length) := by have := hv.drop (cells x).length; rwa [List.drop_left' rfl] at this
        have := (fit_cells hx l1).append (h2 g _ l2)
        rwa [List.take_append_drop] at this
      · simp at hy; rcases hy with rfl | hy
        · rw [k3]; exact hn x (by simp)
        · exact h4 n (fun z hz => hn z (by simp [hz])) y hy
    · simp at h
end Go.Cx
