/- New objects moved into holes: so the makers of a region are not numbered by their order. -/
import Derived.Test.YtfhgmpeplfjmcaaCxS
namespace Go.Cx
open Go.RowKit (Below)
set_option linter.unusedSimpArgs false
mutual
theorem cov.mono {p q : Nat → Bool} (h : ∀ i, p i = true → q i = true) : ∀ (a : AV), cov p a = true → cov q a = true
  | .ptr .. => h _
  | .oslice .. => h _
  | .optr .. => h _
  | .rptr cs => covL.mono h cs
  | .agg cs => covL.mono h cs
  | .tuple cs => covL.mono h cs
  | .slice _ sh xs _ => fun e => by
    simp only [cov, Bool.or_eq_true] at e ⊢
    exact e.imp id (covL.mono h xs)
  | .fslice _ sh xs ys => fun e => by
    simp only [cov, Bool.or_eq_true, Bool.and_eq_true] at e ⊢
    exact e.imp id fun e => ⟨covL.mono h xs e.1, covL.mono h ys e.2⟩
  | .func _ a b => fun e => by
    simp only [cov, Bool.and_eq_true] at e ⊢
    exact ⟨covL.mono h a e.1, covL.mono h b e.2⟩
  | .int .. => fun _ => rfl
  | .bool .. => fun _ => rfl
  | .str .. => fun _ => rfl
  | .nilptr => fun _ => rfl
  | .nilsl => fun _ => rfl
  | .nilfunc => fun _ => rfl
  | .nilIface => fun _ => rfl
  | .junk => fun _ => rfl
theorem covL.mono {p q : Nat → Bool} (h : ∀ i, p i = true → q i = true) : ∀ (l : List AV), covL p l = true → covL q l = true
  | [] => fun _ => rfl
  | x :: l => fun e => by
    simp only [covL, Bool.and_eq_true] at e ⊢
    exact ⟨cov.mono h x e.1, covL.mono h l e.2⟩
end
mutual
theorem ren_fix {τ : Nat → Nat} {p : Nat → Bool} (h : ∀ i, p i = true → τ i = i) : ∀ (a : AV), cov p a = true → ren τ a = a
  | .ptr .. => fun e => by simp only [ren, h _ e]
  | .oslice .. => fun e => by simp only [ren, h _ e]
  | .optr .. => fun e => by simp only [ren, h _ e]
  | .rptr cs => fun e => by simp only [ren, renL_fix h cs e]
  | .agg cs => fun e => by simp only [ren, renL_fix h cs e]
  | .tuple cs => fun e => by simp only [ren, renL_fix h cs e]
  | .slice _ sh xs _ => fun e => by
    simp only [ren]
    cases hc : sh.closed with
    | true => rfl
    | false => simp only [cov, hc, Bool.false_or] at e; simp only [cond_false, renL_fix h xs e]
  | .fslice _ sh xs ys => fun e => by
    simp only [ren]
    cases hc : sh.closed with
    | true => rfl
    | false => simp only [cov, hc, Bool.false_or, Bool.and_eq_true] at e; simp only [cond_false, renL_fix h xs e.1, renL_fix h ys e.2]
  | .func _ a b => fun e => by
    simp only [cov, Bool.and_eq_true] at e
    simp only [ren, renL_fix h a e.1, renL_fix h b e.2]
  | .int .. => fun _ => rfl
  | .bool .. => fun _ => rfl
  | .str .. => fun _ => rfl
  | .nilptr => fun _ => rfl
  | .nilsl => fun _ => rfl
  | .nilfunc => fun _ => rfl
  | .nilIface => fun _ => rfl
  | .junk => fun _ => rfl
theorem renL_fix {τ : Nat → Nat} {p : Nat → Bool} (h : ∀ i, p i = true → τ i = i) : ∀ (l : List AV), covL p l = true → renL τ l = l
  | [] => fun _ => rfl
  | x :: l => fun e => by
    simp only [covL, Bool.and_eq_true] at e
    simp only [renL, ren_fix h x e.1, renL_fix h l e.2]
end
theorem covO.mono {p q : Nat → Bool} (h : ∀ i, p i = true → q i = true) : ∀ (o : Ob), covO p o = true → covO q o = true
  | .fix _ cs => covL.mono h cs
  | .grow _ _ _ sh xs => fun e => by
    simp only [covO, Bool.or_eq_true] at e ⊢
    exact e.imp id (covL.mono h xs)
  | .froz _ _ sh xs => fun e => by
    simp only [covO, Bool.or_eq_true] at e ⊢
    exact e.imp id (covL.mono h xs)
  | .dead => fun _ => rfl
  | .hole => fun _ => rfl
theorem renO_fix {τ : Nat → Nat} {p : Nat → Bool} (h : ∀ i, p i = true → τ i = i) : ∀ (o : Ob), covO p o = true → renO τ o = o
  | .fix _ cs => fun e => by simp only [renO, renL_fix h cs e]
  | .grow _ _ _ sh xs => fun e => by
    simp only [renO]
    cases hc : sh.closed with
    | true => rfl
    | false => simp only [covO, hc, Bool.false_or] at e; simp only [cond_false, renL_fix h xs e]
  | .froz _ _ sh xs => fun e => by
    simp only [renO]
    cases hc : sh.closed with
    | true => rfl
    | false => simp only [covO, hc, Bool.false_or] at e; simp only [cond_false, renL_fix h xs e]
  | .dead => fun _ => rfl
  | .hole => fun _ => rfl
def Gh.mv (g : Gh) (n : Nat) (hs : List Nat) : Gh :=
  { g with blk := fun i => if hs.contains i then g.blk (n + hs.idxOf i) else if i < n then g.blk i else none
           cur := fun i => if hs.contains i then g.cur (n + hs.idxOf i) else if i < n then g.cur i else none }
theorem Gh.mv_le {g0 g : Gh} {n : Nat} {hs : List Nat} (h : g0.le g) (hi : Ids g0 n) (hh : ∀ i ∈ hs, g0.blk i = none ∧ g0.cur i = none) : g0.le (g.mv n hs) := by
  have key : ∀ i, (g0.blk i ≠ none ∨ g0.cur i ≠ none) → hs.contains i = false ∧ i < n := by
    intro i e
    constructor
    · cases hc : hs.contains i with
      | false => rfl
      | true =>
        have := hh i (by simpa using hc)
        rcases e with e | e
        · exact absurd this.1 e
        · exact absurd this.2 e
    · rcases Nat.lt_or_ge i n with h' | h'
      · exact h'
      · have := hi i h'
        rcases e with e | e
        · exact absurd this.1 e
        · exact absurd this.2 e
  refine ⟨h.base, h.w0, h.frz, h.old, h.imm, fun i b e => ?_, fun i ver len b c e => ?_⟩
  · obtain ⟨k1, k2⟩ := key i (.inl (by rw [e]; simp))
    show (if hs.contains i then _ else if i < n then g.blk i else none) = some b
    rw [k1, if_neg (by simp), if_pos k2]; exact h.blk i b e
  · obtain ⟨k1, k2⟩ := key i (.inr (by rw [e]; simp))
    obtain ⟨x, k3, k4⟩ := h.cur i ver len b c e
    refine ⟨x, ?_, k4⟩
    show (if hs.contains i then _ else if i < n then g.cur i else none) = some x
    rw [k1, if_neg (by simp), if_pos k2]; exact k3
theorem Gh.mv_at {g : Gh} {n : Nat} {hs : List Nat} (hd : hs.Nodup) (hlt : ∀ i ∈ hs, i < n) {i : Nat} (h : okM n hs i = true) : (g.mv n hs).blk (τM n hs i) = g.blk i ∧ (g.mv n hs).cur (τM n hs i) = g.cur i := by
  simp only [okM, Bool.and_eq_true, Bool.not_eq_true', decide_eq_true_eq] at h
  by_cases hi : i < n
  · have e : τM n hs i = i := by simp [τM, hi]
    rw [e]
    constructor
    · show (if hs.contains i then _ else if i < n then g.blk i else none) = _
      rw [h.1, if_neg (by simp), if_pos hi]
    · show (if hs.contains i then _ else if i < n then g.cur i else none) = _
      rw [h.1, if_neg (by simp), if_pos hi]
  · have hj : i - n < hs.length := by omega
    have e : τM n hs i = hs[i - n] := by simp [τM, hi, List.getD_eq_getElem?_getD, List.getElem?_eq_getElem hj]
    have hm : hs.contains hs[i - n] = true := by simp
    have hx : hs.idxOf hs[i - n] = i - n := idx_get0 hd (List.getElem?_eq_getElem hj)
    rw [e]
    constructor
    · show (if hs.contains hs[i - n] then g.blk (n + hs.idxOf hs[i - n]) else _) = _
      rw [if_pos hm, hx, show n + (i - n) = i by omega]
    · show (if hs.contains hs[i - n] then g.cur (n + hs.idxOf hs[i - n]) else _) = _
      rw [if_pos hm, hx, show n + (i - n) = i by omega]
theorem VL.move {g : Gh} {n : Nat} {hs : List Nat} (hd : hs.Nodup) (hlt : ∀ i ∈ hs, i < n) {cs : List AV} {vs : List Value} (h : VL g cs vs) (hc : covL (okM n hs) cs = true) : VL (g.mv n hs) (renL (τM n hs) cs) vs :=
  VL.renamed (g := g) (g' := g.mv n hs) (fun _ _ _ e => e) (fun _ _ hi e => (Gh.mv_at hd hlt hi).1.trans e) (fun _ _ hi e => (Gh.mv_at hd hlt hi).2.trans e) h hc
theorem R.move {g : Gh} {w : World} {hp : List Ob} (h : R g w hp) {n : Nat} {hs L : List Nat} (hn : hp.length = n + hs.length) (hd : hs.Nodup) (hlt : ∀ i ∈ hs, i < n)
    (hold : ∀ i o, i < n → hs.contains i = false → L.contains i = false → hp[i]? = some o → covO (fun k => okM n hs k && decide (k < n)) o = true)
    (hL : ∀ i o, i < n + hs.length → hs.contains i = false → (L.contains i = true ∨ n ≤ i) → hp[i]? = some o → covO (okM n hs) o = true) : R (g.mv n hs) w (hpM n hs L hp) := by
  -- where an object stood
  have src : ∀ j, j < n → ∃ i, okM n hs i = true ∧ τM n hs i = j ∧ (hpM n hs L hp)[j]? = (hp[i]?).map (renO (τM n hs)) ∧ (g.mv n hs).blk j = g.blk i ∧ (g.mv n hs).cur j = g.cur i ∧ (∀ o, hp[i]? = some o → covO (okM n hs) o = true) := by
    intro j hj
    cases hc : hs.contains j with
    | true =>
      have hm : j ∈ hs := by simpa using hc
      have hx := List.idxOf_lt_length_of_mem hm
      have hok : okM n hs (n + hs.idxOf j) = true := by
        simp only [okM, Bool.and_eq_true, Bool.not_eq_true', decide_eq_true_eq]
        refine ⟨?_, by omega⟩
        cases h2 : hs.contains (n + hs.idxOf j) with
        | false => rfl
        | true => have := hlt (n + hs.idxOf j) (by simpa using h2); omega
      have hτ : τM n hs (n + hs.idxOf j) = j := by
        have : ¬ n + hs.idxOf j < n := by omega
        simp [τM, List.getD_eq_getElem?_getD, get_idx0 hm, this]
      refine ⟨n + hs.idxOf j, hok, hτ, ?_, ?_, ?_, fun o ho => hL _ o (by omega) (by simp only [okM, Bool.and_eq_true, Bool.not_eq_true'] at hok; exact hok.1) (.inr (by omega)) ho⟩
      · simp only [hpM, List.getElem?_map, List.getElem?_range hj, Option.map_some, hc, if_true]
        rw [List.getD_eq_getElem?_getD, List.getElem?_eq_getElem (show n + hs.idxOf j < hp.length by omega)]; rfl
      · have := (Gh.mv_at (g := g) hd hlt hok).1; rw [hτ] at this; exact this
      · have := (Gh.mv_at (g := g) hd hlt hok).2; rw [hτ] at this; exact this
    | false =>
      have hok : okM n hs j = true := by simp only [okM, hc, Bool.not_false, Bool.true_and, decide_eq_true_eq]; omega
      have hτ : τM n hs j = j := by simp [τM, hj]
      have b1 := (Gh.mv_at (g := g) hd hlt hok).1
      have b2 := (Gh.mv_at (g := g) hd hlt hok).2
      rw [hτ] at b1 b2
      have hjl : j < hp.length := by omega
      refine ⟨j, hok, hτ, ?_, b1, b2, fun o ho => ?_⟩
      · simp only [hpM, List.getElem?_map, List.getElem?_range hj, Option.map_some, hc, Bool.false_eq_true, if_false]
        rw [List.getD_eq_getElem?_getD, List.getElem?_eq_getElem hjl]
        cases hl : L.contains j with
        | true => simp
        | false =>
          simp only [Bool.false_eq_true, if_false, Option.getD_some, Option.map_some, Option.some.injEq]
          refine (renO_fix (p := fun k => okM n hs k && decide (k < n)) (fun k hk => ?_) _ (hold j _ hj hc hl (List.getElem?_eq_getElem hjl))).symm
          simp only [Bool.and_eq_true, decide_eq_true_eq] at hk
          simp [τM, hk.2]
      · cases hl : L.contains j with
        | true => exact hL j o (by omega) hc (.inl hl) ho
        | false => exact covO.mono (fun k hk => by simp only [Bool.and_eq_true] at hk; exact hk.1) o (hold j o hj hc hl ho)
  have τb : ∀ i b, okM n hs i = true → g.blk i = some b → (g.mv n hs).blk (τM n hs i) = some b := fun i b hi e => (Gh.mv_at hd hlt hi).1.trans e
  have τc : ∀ i x, okM n hs i = true → g.cur i = some x → (g.mv n hs).cur (τM n hs i) = some x := fun i x hi e => (Gh.mv_at hd hlt hi).2.trans e
  have len : (hpM n hs L hp).length = n := by simp [hpM]
  have out : ∀ j, n ≤ j → (g.mv n hs).blk j = none ∧ (g.mv n hs).cur j = none := by
    intro j hj
    have hc : hs.contains j = false := by
      cases h2 : hs.contains j with
      | false => rfl
      | true => have := hlt j (by simpa using h2); omega
    constructor
    · show (if hs.contains j then _ else if j < n then g.blk j else none) = none
      rw [hc, if_neg (by simp), if_neg (by omega)]
    · show (if hs.contains j then _ else if j < n then g.cur j else none) = none
      rw [hc, if_neg (by simp), if_neg (by omega)]
  refine ⟨h.below, h.base, h.frz, h.imm, fun j => ?_, fun j j' b hjj hg hg' ho ho' => ?_⟩
  · rcases Nat.lt_or_ge j n with hj | hj
    · obtain ⟨i, k1, k2, k3, k4, k5, k6⟩ := src j hj
      have hi : i < hp.length := by simp only [okM, Bool.and_eq_true, decide_eq_true_eq] at k1; omega
      have k := h.objs i
      rw [k3]
      rw [List.getElem?_eq_getElem hi] at k k6 ⊢
      exact ObOK.renamed (g := g) (g' := g.mv n hs) (fun _ _ _ e => e) τb τc k k4 k5 (fun b _ hf => hf) (fun _ _ _ e => e) (k6 _ rfl)
    · rw [List.getElem?_eq_none (by omega)]; exact out j hj
  · have lt : ∀ {j b}, own (g.mv n hs) j b → j < n := by
      intro j b ho
      rcases Nat.lt_or_ge j n with h' | h'
      · exact h'
      · have := out j h'
        rcases ho with ho | ⟨v, l, c, ho⟩
        · rw [this.1] at ho; simp at ho
        · rw [this.2] at ho; simp at ho
    obtain ⟨i, k1, k2, k3, k4, k5, -⟩ := src j (lt ho)
    obtain ⟨i', l1, l2, l3, l4, l5, -⟩ := src j' (lt ho')
    have gn : ∀ {o : Option Ob}, gone (o.map (renO (τM n hs))) = gone o := by
      intro o; cases o with
      | none => rfl
      | some o => cases o <;> rfl
    refine h.inj i i' b (fun e => hjj ?_) (by rw [k3, gn] at hg; exact hg) (by rw [l3, gn] at hg'; exact hg') (by simpa only [own, k4, k5] using ho) (by simpa only [own, l4, l5] using ho')
    rw [← k2, ← l2, e]
end Go.Cx
