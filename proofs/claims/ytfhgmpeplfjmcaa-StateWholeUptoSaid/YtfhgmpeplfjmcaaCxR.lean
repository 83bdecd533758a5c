/- Objects that are forgotten. -/
import Derived.Test.YtfhgmpeplfjmcaaCxQ
namespace Go.Cx
open Go.RowKit (Below)
set_option linter.unusedSimpArgs false
def Gh.trim (g : Gh) (m : Nat) : Gh := { g with blk := fun i => if i < m then g.blk i else none, cur := fun i => if i < m then g.cur i else none }
mutual
theorem reshape_idem : ∀ (s : Sh) (x : AV), s.closed = true → reshape s (reshape s x) = reshape s x
  | .int k, x, _ => rfl
  | .bool, x, _ => rfl
  | .str, x, _ => rfl
  | .slice sz sh, x, _ => rfl
  | .agg l, x, h => by
    simp only [reshape]
    congr 1
    exact reshapeL_idem l 0 x (.agg (reshapeL l 0 x)) (by simpa [Sh.closed] using h) (fun j => by simp [getF_agg])
  | .any, x, h => by simp [Sh.closed] at h
theorem reshapeL_idem : ∀ (l : List Sh) (i : Nat) (x y : AV), Sh.closedL l = true → (∀ j, getF y (i + j) = (reshapeL l i x).getD j .junk) → reshapeL l i y = reshapeL l i x
  | [], _, _, _, _, _ => rfl
  | s :: l, i, x, y, h, hy => by
    simp only [Sh.closedL, Bool.and_eq_true] at h
    have h0 := hy 0
    simp [reshapeL] at h0
    simp only [reshapeL]
    rw [h0, reshape_idem s _ h.1, reshapeL_idem l (i + 1) x y h.2 (fun j => by have := hy (j + 1); simp [reshapeL] at this; rw [show i + 1 + j = i + (j + 1) by omega, this]; simp)]
end
def ClosedCell (c : AV) : Prop := ∃ s : Sh, s.closed = true ∧ reshape s c = c
theorem closedL_mem : ∀ {l : List Sh} {i : Nat} {x c : AV}, Sh.closedL l = true → c ∈ reshapeL l i x → ClosedCell c
  | [], _, _, _, _, h => by simp [reshapeL] at h
  | s :: l, i, x, c, hc, h => by
    simp only [Sh.closedL, Bool.and_eq_true] at hc
    simp only [reshapeL, List.mem_cons] at h
    rcases h with rfl | h
    · exact ⟨s, hc.1, reshape_idem s _ hc.1⟩
    · exact closedL_mem hc.2 h
theorem closed_cells {s : Sh} {x : AV} (hs : s.closed = true) (hx : reshape s x = x) : ∀ c ∈ cells x, ClosedCell c := by
  intro c hc
  cases x with
  | agg cs =>
    simp only [cells] at hc
    cases s with
    | agg l =>
      simp only [reshape, AV.agg.injEq] at hx
      rw [← hx] at hc
      exact closedL_mem (by simpa [Sh.closed] using hs) hc
    | any => simp [Sh.closed] at hs
    | _ => simp [reshape] at hx
  | _ => simp only [cells, List.mem_singleton] at hc; subst hc; exact ⟨s, hs, hx⟩
theorem closed_flat {s : Sh} {xs : List AV} (hs : s.closed = true) (hx : ∀ x ∈ xs, reshape s x = x) : ∀ c ∈ flat xs, ClosedCell c := by
  intro c hc
  simp only [flat, List.mem_flatMap] at hc
  obtain ⟨x, h1, h2⟩ := hc
  exact closed_cells hs (hx x h1) c h2
theorem refsL_mem {m : Nat} : ∀ {l : List AV}, refsL m l = true → ∀ c ∈ l, refs m c = true
  | [], _, c, h => by simp at h
  | x :: l, h, c, hc => by
    simp only [refsL, Bool.and_eq_true] at h
    simp only [List.mem_cons] at hc
    rcases hc with rfl | hc
    · exact h.1
    · exact refsL_mem h.2 c hc
theorem refs_cells {m : Nat} {x : AV} (h : refs m x = true) : ∀ c ∈ cells x, refs m c = true := by
  cases x with
  | agg cs => intro c hc; exact refsL_mem (l := cs) (by simpa [refs] using h) c hc
  | _ => intro c hc; simp only [cells, List.mem_singleton] at hc; subst hc; exact h
theorem refs_flat {m : Nat} {xs : List AV} (h : refsL m xs = true) : ∀ c ∈ flat xs, refs m c = true := by
  intro c hc
  simp only [flat, List.mem_flatMap] at hc
  obtain ⟨x, h1, h2⟩ := hc
  exact refs_cells (refsL_mem h x h1) c h2
theorem V.trim {g : Gh} {m : Nat} {a : AV} {v : Value} (h : V g a v) : (ClosedCell a ∨ refs m a = true) → V (g.trim m) a v := by
  have inr : ∀ {i : Nat} {α : Type} {f : Nat → Option α} {x : α}, decide (i < m) = true → f i = some x → (if i < m then f i else none) = some x := by
    intro i α f x h1 h2; rw [if_pos (by simpa using h1)]; exact h2
  have noc : ∀ {s : Sh} {x : AV}, s.closed = true → reshape s x = x → (match x with | .ptr .. | .rptr _ | .nilsl | .fslice .. | .oslice .. | .optr .. | .func .. | .tuple _ => False | _ => True) := by
    intro s x hs hx
    rw [← hx]
    cases s <;> first | trivial | simp [Sh.closed] at hs
  induction h with
  | int k n => intro _; exact .int k n
  | bool b => intro _; exact .bool b
  | str s hs => intro _; exact .str s hs
  | ptr id off b hb =>
    rintro (⟨s, hs, hx⟩ | hr)
    · exact (noc hs hx).elim
    · exact .ptr id off b (inr (by simpa [refs] using hr) hb)
  | nilptr => intro _; exact .nilptr
  | rptr cs vs b o hl _ hat ih =>
    rintro (⟨s, hs, hx⟩ | hr)
    · exact (noc hs hx).elim
    · exact .rptr cs vs b o hl (fun i c v h1 h2 => ih i c v h1 h2 (.inr (refsL_mem (by simpa [refs] using hr) c (List.mem_of_getElem? h1)))) hat
  | nilsl => intro _; exact .nilsl
  | slice sz sh xs k vs b o c hl _ hat hx hc hlim ih =>
    intro hr
    refine .slice sz sh xs k vs b o c hl (fun i c v h1 h2 => ih i c v h1 h2 ?_) hat hx hc hlim
    have hm := List.mem_of_getElem? h1
    rcases hr with ⟨s, hs, hxs⟩ | hr
    · left
      cases s with
      | slice sz' s' =>
        simp only [reshape, AV.slice.injEq] at hxs
        obtain ⟨_, rfl, _, _⟩ := hxs
        exact closed_flat (by simpa [Sh.closed] using hs) (fun x hx' => (hx x hx').1) c hm
      | any => simp [Sh.closed] at hs
      | _ => simp [reshape] at hxs
    · simp only [refs, Bool.or_eq_true] at hr
      rcases hr with hr | hr
      · left; exact closed_flat hr (fun x hx' => (hx x hx').1) c hm
      · right; exact refs_flat hr c hm
  | slice0 sz sh => intro _; exact .slice0 sz sh
  | slice1 sz sh k a c => intro _; exact .slice1 sz sh k a c
  | fslice sz sh xs ys vs b o hl _ hat hx hlim ih =>
    rintro (⟨s, hs, hxs⟩ | hr)
    · exact (noc hs hxs).elim
    · refine .fslice sz sh xs ys vs b o hl (fun i c v h1 h2 => ih i c v h1 h2 ?_) hat hx hlim
      have hm := List.mem_of_getElem? h1
      simp only [refs, Bool.or_eq_true, Bool.and_eq_true] at hr
      rcases hr with hr | ⟨h3, h4⟩
      · left; exact closed_flat hr (fun x hx' => (hx x hx').1) c hm
      · right
        rw [flat_append, List.mem_append] at hm
        rcases hm with hm | hm
        · exact refs_flat h3 c hm
        · exact refs_flat h4 c hm
  | oslice id ver len b c x hx hh =>
    rintro (⟨s, hs, hxs⟩ | hr)
    · exact (noc hs hxs).elim
    · exact .oslice id ver len b c x (inr (by simpa [refs] using hr) hx) hh
  | oslice0 id ver x hx hh =>
    rintro (⟨s, hs, hxs⟩ | hr)
    · exact (noc hs hxs).elim
    · exact .oslice0 id ver x (inr (by simpa [refs] using hr) hx) hh
  | optr id ver len sz i j b c x hx hh =>
    rintro (⟨s, hs, hxs⟩ | hr)
    · exact (noc hs hxs).elim
    · exact .optr id ver len sz i j b c x (inr (by simpa [refs] using hr) hx) hh
  | func f pre post vs ws h1 _ h2 _ ih1 ih2 =>
    rintro (⟨s, hs, hxs⟩ | hr)
    · exact (noc hs hxs).elim
    · simp only [refs, Bool.and_eq_true] at hr
      exact .func f pre post vs ws h1 (fun i c v e1 e2 => ih1 i c v e1 e2 (.inr (refsL_mem hr.1 c (List.mem_of_getElem? e1)))) h2 (fun i c v e1 e2 => ih2 i c v e1 e2 (.inr (refsL_mem hr.2 c (List.mem_of_getElem? e1))))
  | nilfunc => intro _; exact .nilfunc
  | agg cs vs hl _ ih =>
    intro hr
    refine .agg cs vs hl (fun i c v e1 e2 => ih i c v e1 e2 ?_)
    have hm := List.mem_of_getElem? e1
    rcases hr with ⟨s, hs, hxs⟩ | hr
    · left; exact closed_cells (x := .agg cs) hs hxs c hm
    · right; exact refsL_mem (by simpa [refs] using hr) c hm
  | tuple cs vs hl _ ih =>
    rintro (⟨s, hs, hxs⟩ | hr)
    · exact (noc hs hxs).elim
    · exact .tuple cs vs hl (fun i c v e1 e2 => ih i c v e1 e2 (.inr (refsL_mem (by simpa [refs] using hr) c (List.mem_of_getElem? e1))))
  | nilIface => intro _; exact .nilIface
  | junk v => intro _; exact .junk v
theorem VL.trim {g : Gh} {m : Nat} {cs : List AV} {vs : List Value} (h : VL g cs vs) (hr : refsL m cs = true) : VL (g.trim m) cs vs :=
  ⟨h.1, fun i c v e1 e2 => (h.2 i c v e1 e2).trim (.inr (refsL_mem hr c (List.mem_of_getElem? e1)))⟩
def Ids (g : Gh) (m : Nat) : Prop := ∀ i, m ≤ i → g.blk i = none ∧ g.cur i = none
theorem Gh.le.trim {g0 g : Gh} {m : Nat} (h : g0.le g) (hi : Ids g0 m) : g0.le (g.trim m) := by
  refine ⟨h.base, h.w0, h.frz, h.old, h.imm, fun i b e => ?_, fun i ver len b c e => ?_⟩
  · have hlt : i < m := by
      rcases Nat.lt_or_ge i m with h' | h'
      · exact h'
      · rw [(hi i h').1] at e; simp at e
    show (if i < m then g.blk i else none) = some b
    rw [if_pos hlt]; exact h.blk i b e
  · have hlt : i < m := by
      rcases Nat.lt_or_ge i m with h' | h'
      · exact h'
      · rw [(hi i h').2] at e; simp at e
    obtain ⟨x, h1, h2⟩ := h.cur i ver len b c e
    exact ⟨x, by show (if i < m then g.cur i else none) = some x; rw [if_pos hlt]; exact h1, h2⟩
theorem R.trim {g : Gh} {w : World} {hp : List Ob} (h : R g w hp) {m : Nat} (hr : (hp.take m).all (refsO m) = true) : R (g.trim m) w (hp.take m) := by
  have ownT : ∀ i b, own (g.trim m) i b → own g i b ∧ i < m := by
    intro i b ho
    rcases ho with ho | ⟨v, l, c, ho⟩
    · have ho : (if i < m then g.blk i else none) = some b := ho
      split at ho
      · exact ⟨.inl ho, by assumption⟩
      · simp at ho
    · have ho : (if i < m then g.cur i else none) = some (v, l, some b, c) := ho
      split at ho
      · exact ⟨.inr ⟨_, _, _, ho⟩, by assumption⟩
      · simp at ho
  refine ⟨h.below, h.base, h.frz, h.imm, fun i => ?_, fun i j b hij hdi hdj oi oj => ?_⟩
  · by_cases hi : i < m
    · rw [List.getElem?_take, if_pos hi]
      have hb : (g.trim m).blk i = g.blk i := by show (if i < m then g.blk i else none) = _; rw [if_pos hi]
      have hc : (g.trim m).cur i = g.cur i := by show (if i < m then g.cur i else none) = _; rw [if_pos hi]
      have k := h.objs i
      cases ho : hp[i]? with
      | none => rw [ho] at k; exact ⟨hb.trans k.1, hc.trans k.2⟩
      | some o =>
        rw [ho] at k
        have hm : o ∈ hp.take m := by
          have : (hp.take m)[i]? = some o := by rw [List.getElem?_take, if_pos hi]; exact ho
          exact List.mem_of_getElem? this
        have hro := List.all_eq_true.1 hr o hm
        cases o with
        | dead => exact ⟨hb.trans k.1, trivial⟩
        | hole => exact ⟨hb.trans k.1, hc.trans k.2⟩
        | froz ver sz sh xs => obtain ⟨k1, b, c, k2, k3⟩ := k; exact ⟨hb.trans k1, b, c, hc.trans k2, k3.trim (.inr (by simpa [refs, refsO] using hro))⟩
        | fix ty cs =>
          obtain ⟨k1, b, vs, fz, k2, k3, k4, k5, k6, k7, k8⟩ := k
          exact ⟨hc.trans k1, b, vs, fz, hb.trans k2, k3, k4, k5.trim (by simpa [refsO] using hro), k6, k7, k8⟩
        | grow ty ver sz sh xs =>
          obtain ⟨k1, ⟨k0, k3, k2⟩ | ⟨b, c, vs, fz, k2, k3, k4, k5, k6, k7, k8, k9, k10, k11, k12⟩⟩ := k
          · exact ⟨hb.trans k1, .inl ⟨k0, k3, hc.trans k2⟩⟩
          refine ⟨hb.trans k1, .inr ?_⟩
          refine ⟨b, c, vs, fz, hc.trans k2, k3, k4, k5, k6, k7, ⟨k8.1, fun i c v e1 e2 => (k8.2 i c v e1 e2).trim ?_⟩, k9, k10, k11, k12⟩
          have hm := List.mem_of_getElem? e1
          simp only [refsO, Bool.or_eq_true] at hro
          rcases hro with hro | hro
          · left; exact closed_flat hro (fun x hx => (k9 x hx).1) c hm
          · right; exact refs_flat hro c hm
    · rw [List.getElem?_take, if_neg hi]
      exact ⟨by show (if i < m then g.blk i else none) = _; rw [if_neg hi], by show (if i < m then g.cur i else none) = _; rw [if_neg hi]⟩
  · obtain ⟨oi', hi⟩ := ownT i b oi
    obtain ⟨oj', hj⟩ := ownT j b oj
    rw [List.getElem?_take, if_pos hi] at hdi
    rw [List.getElem?_take, if_pos hj] at hdj
    exact h.inj i j b hij hdi hdj oi' oj'
theorem clear_VL {g : Gh} : ∀ (l : List Nat) {fr : List AV} {vs : List Value}, VL g fr vs → VL g (clearAt fr l) vs
  | [], fr, vs, h => h
  | d :: l, fr, vs, h => by
    refine clear_VL l (fr := fr.set d .junk) ⟨by simpa using h.1, fun i c v e1 e2 => ?_⟩
    rw [List.getElem?_set] at e1
    split at e1
    · split at e1
      · simp at e1; subst e1; exact .junk _
      · simp at e1
    · exact h.2 i c v e1 e2
end Go.Cx
