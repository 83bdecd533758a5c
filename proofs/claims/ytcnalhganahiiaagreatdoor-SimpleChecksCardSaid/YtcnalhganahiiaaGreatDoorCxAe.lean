/- Objects renamed: a body proved on a small heap, called on a great one. -/
import Derived.Test.YtcnalhganahiiaaGreatDoorCxR
namespace Go.Cx
open Go.RowKit (Below)
set_option linter.unusedSimpArgs false
mutual
theorem cov_true : ∀ (a : AV), cov (fun _ => true) a = true
  | .ptr .. => rfl
  | .oslice .. => rfl
  | .optr .. => rfl
  | .rptr cs => covL_true cs
  | .agg cs => covL_true cs
  | .tuple cs => covL_true cs
  | .slice _ sh xs _ => by simp [cov, covL_true xs]
  | .fslice _ sh xs ys => by simp [cov, covL_true xs, covL_true ys]
  | .func _ a b => by simp [cov, covL_true a, covL_true b]
  | .int .. => rfl
  | .bool .. => rfl
  | .str .. => rfl
  | .nilptr => rfl
  | .nilsl => rfl
  | .nilfunc => rfl
  | .nilIface => rfl
  | .junk => rfl
theorem covL_true : ∀ (l : List AV), covL (fun _ => true) l = true
  | [] => rfl
  | x :: l => by simp [covL, cov_true x, covL_true l]
end
theorem renL_length {τ : Nat → Nat} : ∀ {l : List AV}, (renL τ l).length = l.length
  | [] => rfl
  | x :: l => by simp [renL, renL_length (l := l)]
theorem renL_get {τ : Nat → Nat} : ∀ {l : List AV} {i : Nat}, (renL τ l)[i]? = (l[i]?).map (ren τ)
  | [], i => by simp [renL]
  | x :: l, 0 => by simp [renL]
  | x :: l, i + 1 => by simp [renL, renL_get (l := l)]
theorem renL_append {τ : Nat → Nat} : ∀ {a b : List AV}, renL τ (a ++ b) = renL τ a ++ renL τ b
  | [], b => rfl
  | x :: a, b => by simp [renL, renL_append (a := a)]
theorem renL_mem {τ : Nat → Nat} {y : AV} : ∀ {l : List AV}, y ∈ renL τ l → ∃ x ∈ l, y = ren τ x
  | [], h => by simp [renL] at h
  | x :: l, h => by
    simp only [renL, List.mem_cons] at h
    rcases h with rfl | h
    · exact ⟨x, by simp, rfl⟩
    · obtain ⟨z, h1, h2⟩ := renL_mem h; exact ⟨z, by simp [h1], h2⟩
theorem covL_mem {ok : Nat → Bool} : ∀ {l : List AV}, covL ok l = true → ∀ c ∈ l, cov ok c = true
  | [], _, c, hc => by simp at hc
  | x :: l, h, c, hc => by
    simp only [covL, Bool.and_eq_true] at h
    rcases List.mem_cons.1 hc with rfl | hc
    · exact h.1
    · exact covL_mem h.2 c hc
theorem cells_ren (τ : Nat → Nat) (x : AV) : cells (ren τ x) = renL τ (cells x) := by cases x <;> rfl
theorem oneCell_ren (τ : Nat → Nat) (x : AV) : oneCell (ren τ x) = oneCell x := by cases x <;> rfl
theorem flat_ren (τ : Nat → Nat) : ∀ (xs : List AV), flat (renL τ xs) = renL τ (flat xs)
  | [] => rfl
  | x :: l => by
    have ih := flat_ren τ l
    simp only [flat] at ih
    simp only [flat, renL, List.flatMap_cons, cells_ren, renL_append, ih]
theorem all_ren (τ : Nat → Nat) : ∀ (l : List AV), (renL τ l).all oneCell = l.all oneCell
  | [] => rfl
  | x :: l => by simp [renL, oneCell_ren, all_ren τ l]
mutual
theorem reshape_ren (τ : Nat → Nat) : ∀ (s : Sh) (x : AV), reshape s x = x → reshape s (ren τ x) = ren τ x
  | .int k, x, h => by rw [← h]; rfl
  | .bool, x, h => by rw [← h]; rfl
  | .str, x, h => by rw [← h]; rfl
  | .slice sz sh, x, h => by rw [← h]; rfl
  | .agg l, x, h => by
    simp only [reshape] at h
    have hx : x = .agg (reshapeL l 0 x) := h.symm
    generalize hcs : reshapeL l 0 x = cs at hx
    subst hx
    simp only [ren, reshape]
    rw [reshapeL_ren τ l 0 hcs (fun j => by simp [getF_agg]) (y := .agg (renL τ cs)) (fun j => by simp [getF_agg])]
  | .any, x, h => rfl
theorem reshapeL_ren (τ : Nat → Nat) : ∀ (l : List Sh) (i : Nat) {x : AV} {cs : List AV}, reshapeL l i x = cs → (∀ j, getF x (i + j) = cs.getD j .junk) → ∀ {y : AV}, (∀ j, getF y (i + j) = (renL τ cs).getD j .junk) → reshapeL l i y = renL τ cs
  | [], i, x, cs, h, _, y, _ => by simp only [reshapeL] at h; subst h; rfl
  | s :: l, i, x, cs, h, hx, y, hy => by
    simp only [reshapeL] at h
    cases cs with
    | nil => simp at h
    | cons c cs =>
      simp only [List.cons.injEq] at h
      have hx0 := hx 0
      have hy0 := hy 0
      simp only [Nat.add_zero, List.getD_cons_zero, renL] at hx0 hy0
      simp only [reshapeL, renL, hy0]
      rw [hx0] at h
      rw [reshape_ren τ s c h.1, reshapeL_ren τ l (i + 1) h.2 (fun j => by have := hx (j + 1); rw [show i + 1 + j = i + (j + 1) by omega]; simpa using this) (fun j => by
        have := hy (j + 1); rw [show i + 1 + j = i + (j + 1) by omega]; simpa [renL] using this)]
end
theorem cov_cells {ok : Nat → Bool} {x : AV} (h : cov ok x = true) : ∀ c ∈ cells x, cov ok c = true := by
  intro c hc
  cases x <;> first | (simp only [cells, List.mem_singleton] at hc; subst hc; exact h) | (simp only [cov] at h; exact covL_mem h c hc)
theorem cov_flat {ok : Nat → Bool} {xs : List AV} (h : covL ok xs = true) : ∀ c ∈ flat xs, cov ok c = true := by
  intro c hc
  obtain ⟨x, hx, hc⟩ := List.mem_flatMap.1 hc
  exact cov_cells (covL_mem h x hx) c hc
theorem V.renamed {g g' : Gh} {τ : Nat → Nat} {ok : Nat → Bool} (hi : ∀ b o v, g.imm b o = some v → g'.imm b o = some v) (hb : ∀ i b, ok i = true → g.blk i = some b → g'.blk (τ i) = some b)
    (hc : ∀ i x, ok i = true → g.cur i = some x → g'.cur (τ i) = some x) {a : AV} {v : Value} (h : V g a v) : cov ok a = true → V g' (ren τ a) v := by
  have hat : ∀ {b o vs}, At g b o vs → At g' b o vs := fun h i v e => hi _ _ _ (h i v e)
  have closed : ∀ {c : AV} {v : Value}, ClosedCell c → V g c v → V g' c v := fun hcl hv =>
    V.sub (g := g.trim 0) (g' := g') ⟨hi, fun _ _ e => by simp [Gh.trim] at e, fun _ _ _ _ _ e => by simp [Gh.trim] at e⟩ (hv.trim (m := 0) (.inl hcl))
  have list : ∀ {cs : List AV} {vs : List Value}, cs.length = vs.length → (∀ (i : Nat) (c : AV) (v : Value), cs[i]? = some c → vs[i]? = some v → cov ok c = true → V g' (ren τ c) v) → covL ok cs = true →
      (renL τ cs).length = vs.length ∧ ∀ (i : Nat) (c : AV) (v : Value), (renL τ cs)[i]? = some c → vs[i]? = some v → V g' c v := by
    intro cs vs hl ih hcv
    refine ⟨by rw [renL_length, hl], fun i c v e1 e2 => ?_⟩
    rw [renL_get, Option.map_eq_some_iff] at e1
    obtain ⟨c0, e1, rfl⟩ := e1
    exact ih i c0 v e1 e2 (covL_mem hcv c0 (List.mem_of_getElem? e1))
  induction h with
  | int k n => intro _; exact .int k n
  | bool b => intro _; exact .bool b
  | str s hs => intro _; exact .str s hs
  | ptr id off b h => intro hr; exact .ptr _ off b (hb id b (by simpa [cov] using hr) h)
  | nilptr => intro _; exact .nilptr
  | rptr cs vs b o hl _ ha ih =>
    intro hr
    have := list hl ih (by simpa [cov] using hr)
    exact .rptr _ vs b o this.1 this.2 (hat ha)
  | nilsl => intro _; exact .nilsl
  | slice sz sh xs k vs b o c hl hv ha hx hcap hlim ih =>
    intro hr
    simp only [ren]
    cases hcl : sh.closed with
    | true =>
      simp only [cond_true]
      exact .slice sz sh xs k vs b o c hl (fun i c v e1 e2 => closed (closed_flat hcl (fun x hx' => (hx x hx').1) c (List.mem_of_getElem? e1)) (hv i c v e1 e2)) (hat ha) hx hcap hlim
    | false =>
      simp only [cond_false]
      have hcx : covL ok xs = true := by simpa [cov, hcl] using hr
      have := list (cs := flat xs) hl ih (by
        have : ∀ l : List AV, (∀ c ∈ l, cov ok c = true) → covL ok l = true := by
          intro l
          induction l with
          | nil => intro _; rfl
          | cons x l ih => intro h; simp [covL, h x (by simp), ih (fun c hc => h c (by simp [hc]))]
        exact this _ (cov_flat hcx))
      have h1 : xs.length = (renL τ xs).length := renL_length.symm
      rw [h1]
      refine .slice sz sh (renL τ xs) k vs b o c (by rw [flat_ren]; exact this.1) (by rw [flat_ren]; exact this.2) (hat ha) (fun y hy => ?_) (by rw [renL_length]; exact hcap) (by rw [renL_length]; exact hlim)
      obtain ⟨x, hx', rfl⟩ := renL_mem hy
      exact ⟨reshape_ren τ sh x (hx x hx').1, by rw [cells_ren, renL_length]; exact (hx x hx').2.1, by rw [cells_ren, all_ren]; exact (hx x hx').2.2⟩
  | slice0 sz sh => intro _; simp only [ren, renL]; cases sh.closed <;> exact .slice0 sz sh
  | slice1 sz sh k a c => intro _; simp only [ren, renL]; cases sh.closed <;> exact .slice1 sz sh k a c
  | fslice sz sh xs ys vs b o hl hv ha hx hlim ih =>
    intro hr
    simp only [ren]
    cases hcl : sh.closed with
    | true =>
      simp only [cond_true]
      exact .fslice sz sh xs ys vs b o hl (fun i c v e1 e2 => closed (closed_flat hcl (fun x hx' => (hx x hx').1) c (List.mem_of_getElem? e1)) (hv i c v e1 e2)) (hat ha) hx hlim
    | false =>
      simp only [cond_false]
      have hcx : covL ok xs = true ∧ covL ok ys = true := by simpa [cov, hcl] using hr
      have hcl2 : covL ok (xs ++ ys) = true := by
        have : ∀ l : List AV, covL ok l = true → covL ok (l ++ ys) = true := by
          intro l
          induction l with
          | nil => intro _; exact hcx.2
          | cons x l ih => intro h; simp only [covL, Bool.and_eq_true, List.cons_append] at h ⊢; exact ⟨h.1, ih h.2⟩
        exact this _ hcx.1
      have := list (cs := flat (xs ++ ys)) hl ih (by
        have : ∀ l : List AV, (∀ c ∈ l, cov ok c = true) → covL ok l = true := by
          intro l
          induction l with
          | nil => intro _; rfl
          | cons x l ih => intro h; simp [covL, h x (by simp), ih (fun c hc => h c (by simp [hc]))]
        exact this _ (cov_flat hcl2))
      have h1 : xs.length = (renL τ xs).length := renL_length.symm
      have h2 : (xs ++ ys).length = (renL τ xs ++ renL τ ys).length := by simp [renL_length]
      rw [h1, h2]
      refine .fslice sz sh (renL τ xs) (renL τ ys) vs b o (by rw [← renL_append, flat_ren]; exact this.1) (by rw [← renL_append, flat_ren]; exact this.2) (hat ha) (fun y hy => ?_) (by rw [← h2]; exact hlim)
      rw [← renL_append] at hy
      obtain ⟨x, hx', rfl⟩ := renL_mem hy
      exact ⟨reshape_ren τ sh x (hx x hx').1, by rw [cells_ren, renL_length]; exact (hx x hx').2.1, by rw [cells_ren, all_ren]; exact (hx x hx').2.2⟩
  | oslice id ver len b c x hx hh => intro hr; exact .oslice _ ver len b c x (hc id x (by simpa [cov] using hr) hx) hh
  | oslice0 id ver x hx hh => intro hr; exact .oslice0 _ ver x (hc id x (by simpa [cov] using hr) hx) hh
  | optr id ver len sz i j b c x hx hh => intro hr; exact .optr _ ver len sz i j b c x (hc id x (by simpa [cov] using hr) hx) hh
  | func f pre post vs ws h1 _ h2 _ ih1 ih2 =>
    intro hr
    simp only [cov, Bool.and_eq_true] at hr
    have k1 := list (vs := vs.toList) (by simpa using h1) (fun i c v e1 e2 => ih1 i c v e1 (by simpa using e2)) hr.1
    have k2 := list (vs := ws.toList) (by simpa using h2) (fun i c v e1 e2 => ih2 i c v e1 (by simpa using e2)) hr.2
    exact .func f _ _ vs ws (by simpa using k1.1) (fun i c v e1 e2 => k1.2 i c v e1 (by simpa using e2)) (by simpa using k2.1) (fun i c v e1 e2 => k2.2 i c v e1 (by simpa using e2))
  | nilfunc => intro _; exact .nilfunc
  | agg cs vs hl _ ih =>
    intro hr
    have k1 := list (vs := vs.toList) (by simpa using hl) (fun i c v e1 e2 => ih i c v e1 (by simpa using e2)) (by simpa [cov] using hr)
    exact .agg _ vs (by simpa using k1.1) (fun i c v e1 e2 => k1.2 i c v e1 (by simpa using e2))
  | tuple cs vs hl _ ih =>
    intro hr
    have k1 := list (vs := vs.toList) (by simpa using hl) (fun i c v e1 e2 => ih i c v e1 (by simpa using e2)) (by simpa [cov] using hr)
    exact .tuple _ vs (by simpa using k1.1) (fun i c v e1 e2 => k1.2 i c v e1 (by simpa using e2))
  | nilIface => intro _; exact .nilIface
  | junk v => intro _; exact .junk v
theorem VL.renamed {g g' : Gh} {τ : Nat → Nat} {ok : Nat → Bool} (hi : ∀ b o v, g.imm b o = some v → g'.imm b o = some v) (hb : ∀ i b, ok i = true → g.blk i = some b → g'.blk (τ i) = some b)
    (hc : ∀ i x, ok i = true → g.cur i = some x → g'.cur (τ i) = some x) {cs : List AV} {vs : List Value} (h : VL g cs vs) (hr : covL ok cs = true) : VL g' (renL τ cs) vs := by
  refine ⟨by rw [renL_length, h.1], fun i c v e1 e2 => ?_⟩
  rw [renL_get, Option.map_eq_some_iff] at e1
  obtain ⟨c0, e1, rfl⟩ := e1
  exact (h.2 i c0 v e1 e2).renamed hi hb hc (covL_mem hr c0 (List.mem_of_getElem? e1))
theorem ObOK.renamed {g g' : Gh} {w : World} {τ : Nat → Nat} {ok : Nat → Bool} (hi : ∀ b o v, g.imm b o = some v → g'.imm b o = some v) (hb : ∀ i b, ok i = true → g.blk i = some b → g'.blk (τ i) = some b)
    (hc : ∀ i x, ok i = true → g.cur i = some x → g'.cur (τ i) = some x) {i j : Nat} {o : Ob} (h : ObOK g w i (some o)) (hblk : g'.blk j = g.blk i) (hcur : g'.cur j = g.cur i)
    (hfree : ∀ b, own g i b → g.free b → g'.free b) (himm : ∀ b o', own g i b → g.imm b o' = none → g'.imm b o' = none) (hr : covO ok o = true) : ObOK g' w j (some (renO τ o)) := by
  cases o with
  | dead => exact ⟨hblk.trans h.1, trivial⟩
  | hole => exact ⟨hblk.trans h.1, hcur.trans h.2⟩
  | froz ver sz sh xs =>
    obtain ⟨h1, b, c, h2, h3⟩ := h
    have hl : (cond sh.closed xs (renL τ xs)).length = xs.length := by cases sh.closed <;> simp [renL_length]
    have h4 := h3.renamed hi hb hc (by simpa [cov, covO] using hr)
    simp only [renO]
    refine ⟨hblk.trans h1, b, c, by rw [hl]; exact hcur.trans h2, ?_⟩
    rw [hl]; simpa [ren] using h4
  | fix ty cs =>
    obtain ⟨k1, b, vs, fz, k2, k3, k4, k5, k6, k7, k8⟩ := h
    refine ⟨hcur.trans k1, b, vs, fz, hblk.trans k2, hfree b (.inl k2) k3, k4, k5.renamed hi hb hc (by simpa [covO] using hr), ?_, fun o => himm b o (.inl k2) (k7 o), k8⟩
    have := all_ren τ cs
    rw [List.all_eq_true.2 k6] at this
    exact List.all_eq_true.1 this
  | grow ty ver sz sh xs =>
    obtain ⟨k1, ⟨k0, k3, k2⟩ | ⟨b, c, vs, fz, k2, k3, k4, k5, k6, k7, k8, k9, k10, k11, k12, k13⟩⟩ := h
    · subst k0
      have e0 : (cond sh.closed [] (renL τ [])) = ([] : List AV) := by cases sh.closed <;> rfl
      simp only [renO, e0]
      exact ⟨hblk.trans k1, .inl ⟨rfl, k3, hcur.trans k2⟩⟩
    have hl : (cond sh.closed xs (renL τ xs)).length = xs.length := by cases sh.closed <;> simp [renL_length]
    simp only [renO]
    refine ⟨hblk.trans k1, .inr ?_⟩
    refine ⟨b, c, vs, fz, by rw [hl]; exact hcur.trans k2, hfree b (.inr ⟨_, _, _, k2⟩) k3, k4, k5, k6, by rw [hl]; exact k7, ?_, ?_, by rw [hl]; exact k10, fun o => himm b o (.inr ⟨_, _, _, k2⟩) (k11 o), k12, k13⟩
    · rw [hl]
      cases hcl : sh.closed with
      | true =>
        simp only [cond_true]
        refine ⟨k8.1, fun i c v e1 e2 => ?_⟩
        have := (k8.2 i c v e1 e2).trim (m := 0) (.inl (closed_flat hcl (fun x hx => (k9 x hx).1) c (List.mem_of_getElem? e1)))
        exact V.sub (g := g.trim 0) ⟨hi, fun _ _ e => by simp [Gh.trim] at e, fun _ _ _ _ _ e => by simp [Gh.trim] at e⟩ this
      | false =>
        simp only [cond_false]
        rw [flat_ren]
        refine k8.renamed hi hb hc ?_
        have hx : covL ok xs = true := by simpa [covO, hcl] using hr
        have : ∀ l : List AV, (∀ c ∈ l, cov ok c = true) → covL ok l = true := by
          intro l
          induction l with
          | nil => intro _; rfl
          | cons x l ih => intro h; simp [covL, h x (by simp), ih (fun c hc => h c (by simp [hc]))]
        exact this _ (cov_flat hx)
    · cases hcl : sh.closed with
      | true => simp only [cond_true]; exact k9
      | false =>
        simp only [cond_false]
        intro y hy
        obtain ⟨x, hx, rfl⟩ := renL_mem hy
        exact ⟨reshape_ren τ sh x (k9 x hx).1, by rw [cells_ren, renL_length]; exact (k9 x hx).2.1, by rw [cells_ren, all_ren]; exact (k9 x hx).2.2⟩
end Go.Cx
