/- New objects moved into holes: so the makers of a region are not numbered by their order. -/
import Derived.Test.YtcnalhganahiiaaGreatDoorCxS
section
namespace Go.Cx
open Go.RowKit (Below)
set_option linter.unusedSimpArgs false
mutual
theorem cov.mono {p q : Nat → Bool} (h : ∀ i, p i = true → q i = true) : ∀ (a : AV), cov p a = true → cov q a = true
  | .ptr .. => h _
  | .oslice .. => h _
  | .optr .. => h _
  | .rptr cs => covL.mono h cs
  | .agg cs => covL.mono h cs
  | .tuple cs => covL.mono h cs
  | .slice _ sh xs _ => fun e => by
    simp only [cov, Bool.or_eq_true] at e ⊢
    exact e.imp id (covL.mono h xs)
  | .fslice _ sh xs ys => fun e => by
    simp only [cov, Bool.or_eq_true, Bool.and_eq_true] at e ⊢
    exact e.imp id fun e => ⟨covL.mono h xs e.1, covL.mono h ys e.2⟩
  | .func _ a b => fun e => by
    simp only [cov, Bool.and_eq_true] at e ⊢
    exact ⟨covL.mono h a e.1, covL.mono h b e.2⟩
  | .int .. => fun _ => rfl
  | .bool .. => fun _ => rfl
  | .str .. => fun _ => rfl
  | .nilptr => fun _ => rfl
  | .nilsl => fun _ => rfl
  | .nilfunc => fun _ => rfl
  | .nilIface => fun _ => rfl
  | .junk => fun _ => rfl
theorem covL.mono {p q : Nat → Bool} (h : ∀ i, p i = true → q i = true) : ∀ (l : List AV), covL p l = true → covL q l = true
  | [] => fun _ => rfl
  | x :: l => fun e => by
    simp only [covL, Bool.and_eq_true] at e ⊢
    exact ⟨cov.mono h x e.1, covL.mono h l e.2⟩
end
mutual
theorem ren_fix {τ : Nat → Nat} {p : Nat → Bool} (h : ∀ i, p i = true → τ i = i) : ∀ (a : AV), cov p a = true → ren τ a = a
  | .ptr .. => fun e => by simp only [ren, h _ e]
  | .oslice .. => fun e => by simp only [ren, h _ e]
  | .optr .. => fun e => by simp only [ren, h _ e]
  | .rptr cs => fun e => by simp only [ren, renL_fix h cs e]
  | .agg cs => fun e => by simp only [ren, renL_fix h cs e]
  | .tuple cs => fun e => by simp only [ren, renL_fix h cs e]
  | .slice _ sh xs _ => fun e => by
    simp only [ren]
    cases hc : sh.closed with
    | true => rfl
    | false => simp only [cov, hc, Bool.false_or] at e; simp only [cond_false, renL_fix h xs e]
  | .fslice _ sh xs ys => fun e => by
    simp only [ren]
    cases hc : sh.closed with
    | true => rfl
    | false => simp only [cov, hc, Bool.false_or, Bool.and_eq_true] at e; simp only [cond_false, renL_fix h xs e.1, renL_fix h ys e.2]
  | .func _ a b => fun e => by
    simp only [cov, Bool.and_eq_true] at e
    simp only [ren, renL_fix h a e.1, renL_fix h b e.2]
  | .int .. => fun _ => rfl
  | .bool .. => fun _ => rfl
  | .str .. => fun _ => rfl
  | .nilptr => fun _ => rfl
  | .nilsl => fun _ => rfl
  | .nilfunc => fun _ => rfl
  | .nilIface => fun _ => rfl
  | .junk => fun _ => rfl
theorem renL_fix {τ : Nat → Nat} {p : Nat → Bool} (h : ∀ i, p i = true → τ i = i) : ∀ (l : List AV), covL p l = true → renL τ l = l
  | [] => fun _ => rfl
  | x :: l => fun e => by
    simp only [covL, Bool.and_eq_true] at e
    simp only [renL, ren_fix h x e.1, renL_fix h l e.2]
end
theorem covO.mono {p q : Nat → Bool} (h : ∀ i, p i = true → q i = true) : ∀ (o : Ob), covO p o = true → covO q o = true
  | .fix _ cs => covL.mono h cs
  | .grow _ _ _ sh xs => fun e => by
    simp only [covO, Bool.or_eq_true] at e ⊢
    exact e.imp id (covL.mono h xs)
  | .froz _ _ sh xs => fun e => by
    simp only [covO, Bool.or_eq_true] at e ⊢
    exact e.imp id (covL.mono h xs)
  | .dead => fun _ => rfl
  | .hole => fun _ => rfl
theorem renO_fix {τ : Nat → Nat} {p : Nat → Bool} (h : ∀ i, p i = true → τ i = i) : ∀ (o : Ob), covO p o = true → renO τ o = o
  | .fix _ cs => fun e => by simp only [renO, renL_fix h cs e]
  | .grow _ _ _ sh xs => fun e => by
    simp only [renO]
    cases hc : sh.closed with
    | true => rfl
    | false => simp only [covO, hc, Bool.false_or] at e; simp only [cond_false, renL_fix h xs e]
  | .froz _ _ sh xs => fun e => by
    simp only [renO]
    cases hc : sh.closed with
    | true => rfl
    | false => simp only [covO, hc, Bool.false_or] at e; simp only [cond_false, renL_fix h xs e]
  | .dead => fun _ => rfl
  | .hole => fun _ => rfl
def Gh.mv (g : Gh) (n : Nat) (hs : List Nat) : Gh :=
  { g with blk := fun i => if hs.contains i then g.blk (n + hs.idxOf i) else if i < n then g.blk i else none
           cur := fun i => if hs.contains i then g.cur (n + hs.idxOf i) else if i < n then g.cur i else none }
theorem Gh.mv_le {g0 g : Gh} {n : Nat} {hs : List Nat} (h : g0.le g) (hi : Ids g0 n) (hh : ∀ i ∈ hs, g0.blk i = none ∧ g0.cur i = none) : g0.le (g.mv n hs) := by
  have key : ∀ i, (g0.blk i ≠ none ∨ g0.cur i ≠ none) → hs.contains i = false ∧ i < n := by
    intro i e
    constructor
    · cases hc : hs.contains i with
      | false => rfl
      | true =>
        have := hh i (by simpa using hc)
        rcases e with e | e
        · exact absurd this.1 e
        · exact absurd this.2 e
    · rcases Nat.lt_or_ge i n with h' | h'
      · exact h'
      · have := hi i h'
        rcases e with e | e
        · exact absurd this.1 e
        · exact absurd this.2 e
  refine ⟨h.base, h.w0, h.frz, h.old, h.imm, fun i b e => ?_, fun i ver len b c e => ?_⟩
  · obtain ⟨k1, k2⟩ := key i (.inl (by rw [e]; simp))
    show (if hs.contains i then _ else if i < n then g.blk i else none) = some b
    rw [k1, if_neg (by simp), if_pos k2]; exact h.blk i b e
  · obtain ⟨k1, k2⟩ := key i (.inr (by rw [e]; simp))
    obtain ⟨x, k3, k4⟩ := h.cur i ver len b c e
    refine ⟨x, ?_, k4⟩
    show (if hs.contains i then _ else if i < n then g.cur i else none) = some x
    rw [k1, if_neg (by simp), if_pos k2]; exact k3
theorem Gh.mv_at {g : Gh} {n : Nat} {hs : List Nat} (hd : hs.Nodup) (hlt : ∀ i ∈ hs, i < n) {i : Nat} (h : okM n hs i = true) : (g.mv n hs).blk (τM n hs i) = g.blk i ∧ (g.mv n hs).cur (τM n hs i) = g.cur i := by
  simp only [okM, Bool.and_eq_true, Bool.not_eq_true', decide_eq_true_eq] at h
  by_cases hi : i < n
  · have e : τM n hs i = i := by simp [τM, hi]
    rw [e]
    constructor
    · show (if hs.contains i then _ else if i < n then g.blk i else none) = _
      rw [h.1, if_neg (by simp), if_pos hi]
    · show (if hs.contains i then _ else if i < n then g.cur i else none) = _
      rw [h.1, if_neg (by simp), if_pos hi]
  · have hj : i - n < hs.length := by omega
    have e : τM n hs i = hs[i - n] := by simp [τM, hi, List.getD_eq_getElem?_getD, List.getElem?_eq_getElem hj]
    have hm : hs.contains hs[i - n] = true := by simp
    have hx : hs.idxOf hs[i - n] = i - n := idx_get0 hd (List.getElem?_eq_getElem hj)
    rw [e]
    constructor
    · show (if hs.contains hs[i - n] then g.blk (n + hs.idxOf hs[i - n]) else _) = _
      rw [if_pos hm, hx, show n + (i - n) = i by omega]
    · show (if hs.contains hs[i - n] then g.cur (n + hs.idxOf hs[i - n]) else _) = _
      rw [if_pos hm, hx, show n + (i - n) = i by omega]
theorem VL.move {g : Gh} {n : Nat} {hs : List Nat} (hd : hs.Nodup) (hlt : ∀ i ∈ hs, i < n) {cs : List AV} {vs : List Value} (h : VL g cs vs) (hc : covL (okM n hs) cs = true) : VL (g.mv n hs) (renL (τM n hs) cs) vs :=
  VL.renamed (g := g) (g' := g.mv n hs) (fun _ _ _ e => e) (fun _ _ hi e => (Gh.mv_at hd hlt hi).1.trans e) (fun _ _ hi e => (Gh.mv_at hd hlt hi).2.trans e) h hc
theorem R.move {g : Gh} {w : World} {hp : List Ob} (h : R g w hp) {n : Nat} {hs L : List Nat} (hn : hp.length = n + hs.length) (hd : hs.Nodup) (hlt : ∀ i ∈ hs, i < n)
    (hold : ∀ i o, i < n → hs.contains i = false → L.contains i = false → hp[i]? = some o → covO (fun k => okM n hs k && decide (k < n)) o = true)
    (hL : ∀ i o, i < n + hs.length → hs.contains i = false → (L.contains i = true ∨ n ≤ i) → hp[i]? = some o → covO (okM n hs) o = true) : R (g.mv n hs) w (hpM n hs L hp) := by
  -- where an object stood
  have src : ∀ j, j < n → ∃ i, okM n hs i = true ∧ τM n hs i = j ∧ (hpM n hs L hp)[j]? = (hp[i]?).map (renO (τM n hs)) ∧ (g.mv n hs).blk j = g.blk i ∧ (g.mv n hs).cur j = g.cur i ∧ (∀ o, hp[i]? = some o → covO (okM n hs) o = true) := by
    intro j hj
    cases hc : hs.contains j with
    | true =>
      have hm : j ∈ hs := by simpa using hc
      have hx := List.idxOf_lt_length_of_mem hm
      have hok : okM n hs (n + hs.idxOf j) = true := by
        simp only [okM, Bool.and_eq_true, Bool.not_eq_true', decide_eq_true_eq]
        refine ⟨?_, by omega⟩
        cases h2 : hs.contains (n + hs.idxOf j) with
        | false => rfl
        | true => have := hlt (n + hs.idxOf j) (by simpa using h2); omega
      have hτ : τM n hs (n + hs.idxOf j) = j := by
        have : ¬ n + hs.idxOf j < n := by omega
        simp [τM, List.getD_eq_getElem?_getD, get_idx0 hm, this]
      refine ⟨n + hs.idxOf j, hok, hτ, ?_, ?_, ?_, fun o ho => hL _ o (by omega) (by simp only [okM, Bool.and_eq_true, Bool.not_eq_true'] at hok; exact hok.1) (.inr (by omega)) ho⟩
      · simp only [hpM, List.getElem?_map, List.getElem?_range hj, Option.map_some, hc, if_true]
        rw [List.getD_eq_getElem?_getD, List.getElem?_eq_getElem (show n + hs.idxOf j < hp.length by omega)]; rfl
      · have := (Gh.mv_at (g := g) hd hlt hok).1; rw [hτ] at this; exact this
      · have := (Gh.mv_at (g := g) hd hlt hok).2; rw [hτ] at this; exact this
    | false =>
      have hok : okM n hs j = true := by simp only [okM, hc, Bool.not_false, Bool.true_and, decide_eq_true_eq]; omega
      have hτ : τM n hs j = j := by simp [τM, hj]
      have b1 := (Gh.mv_at (g := g) hd hlt hok).1
      have b2 := (Gh.mv_at (g := g) hd hlt hok).2
      rw [hτ] at b1 b2
      have hjl : j < hp.length := by omega
      refine ⟨j, hok, hτ, ?_, b1, b2, fun o ho => ?_⟩
      · simp only [hpM, List.getElem?_map, List.getElem?_range hj, Option.map_some, hc, Bool.false_eq_true, if_false]
        rw [List.getD_eq_getElem?_getD, List.getElem?_eq_getElem hjl]
        cases hl : L.contains j with
        | true => simp
        | false =>
          simp only [Bool.false_eq_true, if_false, Option.getD_some, Option.map_some, Option.some.injEq]
          refine (renO_fix (p := fun k => okM n hs k && decide (k < n)) (fun k hk => ?_) _ (hold j _ hj hc hl (List.getElem?_eq_getElem hjl))).symm
          simp only [Bool.and_eq_true, decide_eq_true_eq] at hk
          simp [τM, hk.2]
      · cases hl : L.contains j with
        | true => exact hL j o (by omega) hc (.inl hl) ho
        | false => exact covO.mono (fun k hk => by simp only [Bool.and_eq_true] at hk; exact hk.1) o (hold j o hj hc hl ho)
  have τb : ∀ i b, okM n hs i = true → g.blk i = some b → (g.mv n hs).blk (τM n hs i) = some b := fun i b hi e => (Gh.mv_at hd hlt hi).1.trans e
  have τc : ∀ i x, okM n hs i = true → g.cur i = some x → (g.mv n hs).cur (τM n hs i) = some x := fun i x hi e => (Gh.mv_at hd hlt hi).2.trans e
  have len : (hpM n hs L hp).length = n := by simp [hpM]
  have out : ∀ j, n ≤ j → (g.mv n hs).blk j = none ∧ (g.mv n hs).cur j = none := by
    intro j hj
    have hc : hs.contains j = false := by
      cases h2 : hs.contains j with
      | false => rfl
      | true => have := hlt j (by simpa using h2); omega
    constructor
    · show (if hs.contains j then _ else if j < n then g.blk j else none) = none
      rw [hc, if_neg (by simp), if_neg (by omega)]
    · show (if hs.contains j then _ else if j < n then g.cur j else none) = none
      rw [hc, if_neg (by simp), if_neg (by omega)]
  refine ⟨h.below, h.base, h.frz, h.imm, fun j => ?_, fun j j' b hjj hg hg' ho ho' => ?_⟩
  · rcases Nat.lt_or_ge j n with hj | hj
    · obtain ⟨i, k1, k2, k3, k4, k5, k6⟩ := src j hj
      have hi : i < hp.length := by simp only [okM, Bool.and_eq_true, decide_eq_true_eq] at k1; omega
      have k := h.objs i
      rw [k3]
      rw [List.getElem?_eq_getElem hi] at k k6 ⊢
      exact ObOK.renamed (g := g) (g' := g.mv n hs) (fun _ _ _ e => e) τb τc k k4 k5 (fun b _ hf => hf) (fun _ _ _ e => e) (k6 _ rfl)
    · rw [List.getElem?_eq_none (by omega)]; exact out j hj
  · have lt : ∀ {j b}, own (g.mv n hs) j b → j < n := by
      intro j b ho
      rcases Nat.lt_or_ge j n with h' | h'
      · exact h'
      · have := out j h'
        rcases ho with ho | ⟨v, l, c, ho⟩
        · rw [this.1] at ho; simp at ho
        · rw [this.2] at ho; simp at ho
    obtain ⟨i, k1, k2, k3, k4, k5, -⟩ := src j (lt ho)
    obtain ⟨i', l1, l2, l3, l4, l5, -⟩ := src j' (lt ho')
    have gn : ∀ {o : Option Ob}, gone (o.map (renO (τM n hs))) = gone o := by
      intro o; cases o with
      | none => rfl
      | some o => cases o <;> rfl
    refine h.inj i i' b (fun e => hjj ?_) (by rw [k3, gn] at hg; exact hg) (by rw [l3, gn] at hg'; exact hg') (by simpa only [own, k4, k5] using ho) (by simpa only [own, l4, l5] using ho')
    rw [← k2, ← l2, e]
end Go.Cx

end

section
namespace Go.Cx
open Go.RowKit (Below)
set_option linter.unusedSimpArgs false
def Gh.has (g : Gh) (i : Nat) : Bool := (g.blk i).isSome || (g.cur i).isSome
theorem covL_of {ok : Nat → Bool} : ∀ (l : List AV), (∀ c ∈ l, cov ok c = true) → covL ok l = true
  | [], _ => rfl
  | x :: l, h => by simp only [covL, h x (by simp), covL_of l (fun c hc => h c (by simp [hc])), Bool.and_self]
theorem cov_of_cells {ok : Nat → Bool} {x : AV} (h : ∀ c ∈ cells x, cov ok c = true) : cov ok x = true := by
  cases x with
  | agg cs => exact covL_of cs (fun c hc => h c hc)
  | _ => exact h _ (List.mem_singleton.2 rfl)
theorem covL_of_flat {ok : Nat → Bool} {xs : List AV} (h : ∀ c ∈ flat xs, cov ok c = true) : covL ok xs = true :=
  covL_of _ fun x hx => cov_of_cells fun c hc => h c (List.mem_flatMap.2 ⟨x, hx, hc⟩)
theorem mem_VL {cs : List AV} {vs : List Value} (hl : cs.length = vs.length) {P : AV → Prop} (h : ∀ (i : Nat) (c : AV) (v : Value), cs[i]? = some c → vs[i]? = some v → P c) : ∀ c ∈ cs, P c := by
  intro c hc
  obtain ⟨i, hi, e⟩ := List.mem_iff_getElem.1 hc
  exact h i c vs[i] (by rw [List.getElem?_eq_getElem hi, e]) (List.getElem?_eq_getElem (by omega))
theorem V.cov {g : Gh} {a : AV} {v : Value} (h : V g a v) : cov g.has a = true := by
  induction h with
  | int | bool | str | nilptr | nilsl | nilfunc | nilIface | junk => rfl
  | ptr id off b h => simp [Go.Cx.cov, Gh.has, h]
  | rptr cs vs b o hl _ _ ih => exact covL_of _ (mem_VL hl ih)
  | slice sz sh xs k vs b o c hl _ _ _ _ _ ih => simp only [Go.Cx.cov, covL_of_flat (mem_VL hl ih), Bool.or_true]
  | slice0 => simp [Go.Cx.cov, covL]
  | slice1 => simp [Go.Cx.cov, covL]
  | fslice sz sh xs ys vs b o hl _ _ _ _ ih =>
    have := covL_of_flat (mem_VL hl ih)
    have h1 : ∀ c ∈ xs, Go.Cx.cov g.has c = true := fun c hc => covL_mem this c (by simp [hc])
    have h2 : ∀ c ∈ ys, Go.Cx.cov g.has c = true := fun c hc => covL_mem this c (by simp [hc])
    simp only [Go.Cx.cov, covL_of _ h1, covL_of _ h2, Bool.and_self, Bool.or_true]
  | oslice id ver len b c x hx => simp [Go.Cx.cov, Gh.has, hx]
  | oslice0 id ver x hx => simp [Go.Cx.cov, Gh.has, hx]
  | optr id ver len sz i j b c x hx => simp [Go.Cx.cov, Gh.has, hx]
  | func f pre post vs ws h1 _ h2 _ ih1 ih2 =>
    simp only [Go.Cx.cov, Bool.and_eq_true]
    exact ⟨covL_of _ (mem_VL (vs := vs.toList) (by simpa using h1) (fun i c v e1 e2 => ih1 i c v e1 (by simpa using e2))), covL_of _ (mem_VL (vs := ws.toList) (by simpa using h2) (fun i c v e1 e2 => ih2 i c v e1 (by simpa using e2)))⟩
  | agg cs vs hl _ ih => exact covL_of _ (mem_VL (vs := vs.toList) (by simpa using hl) (fun i c v e1 e2 => ih i c v e1 (by simpa using e2)))
  | tuple cs vs hl _ ih => exact covL_of _ (mem_VL (vs := vs.toList) (by simpa using hl) (fun i c v e1 e2 => ih i c v e1 (by simpa using e2)))
theorem VL.cov {g : Gh} {cs : List AV} {vs : List Value} (h : VL g cs vs) : covL g.has cs = true := covL_of _ (mem_VL h.1 fun i c v e1 e2 => (h.2 i c v e1 e2).cov)
theorem ObOK.cov {g : Gh} {w : World} {i : Nat} {o : Ob} (h : ObOK g w i (some o)) : covO g.has o = true := by
  cases o with
  | dead => rfl
  | hole => rfl
  | froz ver sz sh xs => obtain ⟨-, b, c, -, h3⟩ := h; simpa [covO, Go.Cx.cov] using h3.cov
  | fix ty cs => obtain ⟨-, b, vs, fz, -, -, -, h5, -⟩ := h; exact h5.cov
  | grow ty ver sz sh xs =>
    obtain ⟨-, ⟨k0, -⟩ | ⟨b, c, vs, fz, -, -, -, -, -, -, h8, -⟩⟩ := h
    · subst k0; simp [covO, covL]
    · simp only [covO, covL_of_flat (covL_mem h8.cov), Bool.or_true]
theorem R.old_cov {g : Gh} {w : World} {hp : List Ob} (h : R g w hp) {hs : List Nat} (hh : ∀ i ∈ hs, g.blk i = none ∧ g.cur i = none) {i : Nat} {o : Ob} (ho : hp[i]? = some o) :
    covO (fun k => okM hp.length hs k && decide (k < hp.length)) o = true := by
  have k := h.objs i
  rw [ho] at k
  refine covO.mono (fun j hj => ?_) o k.cov
  have h1 : hs.contains j = false := by
    cases hc : hs.contains j with
    | false => rfl
    | true => have := hh j (by simpa using hc); simp [Gh.has, this.1, this.2] at hj
  have h2 : j < hp.length := by
    rcases Nat.lt_or_ge j hp.length with h' | h'
    · exact h'
    · have := h.none_blk h'; simp [Gh.has, this.1, this.2] at hj
  simp only [okM, h1, Bool.not_false, Bool.true_and, Bool.and_eq_true, decide_eq_true_eq]
  omega
theorem R.make {g g' : Gh} {w w' : World} {hp ext : List Ob} (h : R g w hp) {hs : List Nat} (hh : ∀ i ∈ hs, g.blk i = none ∧ g.cur i = none) (hd : hs.Nodup) (hlt : ∀ i ∈ hs, i < hp.length)
    (hle : g.le g') (h' : R g' w' (hp ++ ext)) (hl : ext.length = hs.length) (hx : ext.all (covO (okM hp.length hs)) = true) :
    g.le (g'.mv hp.length hs) ∧ R (g'.mv hp.length hs) w' (hpM hp.length hs [] (hp ++ ext)) := by
  refine ⟨Gh.mv_le hle (fun i hi => h.none_blk hi) hh, h'.move (by simp [hl]) hd hlt (fun i o hi _ _ ho => ?_) (fun i o hi _ hc ho => ?_)⟩
  · rw [List.getElem?_append_left hi] at ho
    exact h.old_cov hh ho
  · rcases hc with hc | hc
    · simp at hc
    · rw [List.getElem?_append_right hc] at ho
      exact List.all_eq_true.1 hx o (List.mem_of_getElem? ho)
end Go.Cx

end

section
namespace Go.Cx
noncomputable section
set_option linter.unusedSimpArgs false
theorem opF_congr {E : En} {o : Oper} {fr fr' : List AV} {hp : List Ob} (h : ∀ x ∈ o.op.operands.toList, evalA fr x = evalA fr' x) : opF E o fr hp = opF E o fr' hp := by
  unfold opF opA
  dsimp only
  generalize ownOf E o = ow
  generalize frzOf E o = fz
  have parts : ∀ (ps : Array (Nat × Operand)), (∀ x ∈ ps.toList.map (·.2), evalA fr x = evalA fr' x) → (ps.toList.map fun p => (p.1, evalA fr p.2)) = (ps.toList.map fun p => (p.1, evalA fr' p.2)) := by
    intro ps hps
    apply List.map_congr_left
    intro p hp
    rw [hps p.2 (List.mem_map.2 ⟨p, hp, rfl⟩)]
  have opt : ∀ (x : Option Operand), (∀ y ∈ x.toList, evalA fr y = evalA fr' y) → x.map (evalA fr) = x.map (evalA fr') := by
    intro x hx
    cases x with
    | none => rfl
    | some y => simp [hx y (by simp)]
  cases ho : o.op with
  | build t ps =>
    rw [ho] at h
    simp only
    rw [parts ps (by simpa [Op.operands] using h)]
  | buildSlice t n ps =>
    rw [ho] at h
    simp only
    rw [parts ps (by simpa [Op.operands] using h)]
  | makeFunc fn first captured =>
    rw [ho] at h
    simp only [Op.operands, Array.toList_append, List.mem_append] at h
    have e1 : first.toList.map (evalA fr) = first.toList.map (evalA fr') := List.map_congr_left fun x hx => h x (.inl hx)
    have e2 : captured.toList.map (evalA fr) = captured.toList.map (evalA fr') := List.map_congr_left fun x hx => h x (.inr hx)
    cases fn <;> simp only [e1, e2]
  | slice t x lo hi mx =>
    rw [ho] at h
    simp only [Op.operands, Array.toList_append, List.mem_append] at h
    have e0 := h x (.inl (.inl (.inl (by simp))))
    have e1 := opt lo (fun y hy => h y (.inl (.inl (.inr (by simpa using hy)))))
    have e2 := opt hi (fun y hy => h y (.inl (.inr (by simpa using hy))))
    cases mx <;> simp only [e0, e1, e2]
  | call c =>
    rw [ho] at h
    simp only [Op.operands, Call.operands, Array.toList_append, List.mem_append] at h
    have e1 : c.args.toList.map (evalA fr) = c.args.toList.map (evalA fr') := List.map_congr_left fun x hx => h x (.inr hx)
    cases hc : c.callee with
    | value f =>
      rw [hc] at h
      have e2 := h f (.inl (by simp))
      simp only [hc, e1, e2]
    | invoke r m => simp only [hc]
    | builtin b => simp only [hc, e1]
  | _ =>
    first
      | rfl
      | (rw [ho] at h
         simp only [Op.operands] at h
         simp [h])
theorem loadA_cls {P : Program} {t : TypeId} {a v : AV} {hp : List Ob} {c : Cls} (h : loadA none P t a hp (fun v c => some (v, c)) = some (v, c)) :
    c ≠ .write ∧ (c = .pure → ∀ h2, loadA none P t a h2 (fun v c => some (v, c)) = some (v, .pure)) := by
  have cl : ∀ {cs : List AV} {off : Nat} {c' : Cls}, fromCells none P t cs off (fun v => some (v, c')) = some (v, c) → c = c' := by
    intro cs off c' hh
    unfold fromCells at hh
    split at hh
    · split at hh <;> simp at hh; exact hh.2.symm
    · split at hh <;> simp at hh; exact hh.2.symm
    · simp at hh
    · split at hh <;> simp at hh; exact hh.2.symm
  unfold loadA at h ⊢
  split at h
  · split at h
    · have := cl h; subst this; exact ⟨by simp, fun e => by simp at e⟩
    · simp at h
  · have := cl h; subst this
    exact ⟨by simp, fun _ _ => h⟩
  · replace h := grownR_inv h
    obtain ⟨sz', sh, xs, he, rfl, h⟩ := h
    replace h := ask_some2 h
    have := cl h.2.2; subst this; exact ⟨by simp, fun e => by simp at e⟩
  · simp at h
theorem elems_cls {hp : List Ob} {x : AV} {sz : Nat} {sh : Sh} {xs : List AV} {c : Cls} (h : elems none hp x (fun a b d e => some (a, b, d, e)) = some (sz, sh, xs, c)) :
    c ≠ .write ∧ (c = .pure → ∀ {β : Type} (h2 : List Ob) (K : Nat → Sh → List AV → Cls → Option β), elems none h2 x K = K sz sh xs .pure) := by
  unfold elems at h ⊢
  split at h
  · simp at h; obtain ⟨rfl, rfl, rfl, rfl⟩ := h; exact ⟨by simp, fun _ _ _ _ => rfl⟩
  · simp at h; obtain ⟨rfl, rfl, rfl, rfl⟩ := h; exact ⟨by simp, fun _ _ _ _ => rfl⟩
  · simp at h; obtain ⟨rfl, rfl, rfl, rfl⟩ := h; exact ⟨by simp, fun _ _ _ _ => rfl⟩
  · replace h := grownR_inv h
    obtain ⟨sz', sh', xs', he, rfl, h⟩ := h
    simp at h; obtain ⟨rfl, rfl, rfl, rfl⟩ := h
    exact ⟨by simp, fun e => by simp at e⟩
  · simp at h
structure ClsOK (F : List Ob → Option (AV × List Ob × Cls)) (hp : List Ob) (v : AV) (hp' : List Ob) (c : Cls) : Prop where
  same : c.isWrite = false → hp' = hp
  pure : c = .pure → ∀ h2, F h2 = some (v, h2, .pure)
theorem cutA_cls {own : Bool} {esz : Nat} {x v : AV} {lo hi : Option Int} {hp hp' : List Ob} {c : Cls} (h : cutA none own esz x lo hi hp (fun v h c => some (v, h, c)) = some (v, hp', c)) :
    ClsOK (fun hp => cutA none own esz x lo hi hp (fun v h c => some (v, h, c))) hp v hp' c := by
  unfold cutA at h
  split at h
  · have k := (ask_some4 h).2.2.2.2
    simp only [Option.some.injEq, Prod.mk.injEq] at k; obtain ⟨rfl, rfl, rfl⟩ := k
    refine ⟨fun _ => rfl, fun _ h2 => ?_⟩
    have a := ask_some4 h
    simp only [cutA, a.1, a.2.1, a.2.2.1, a.2.2.2.1]; rfl
  · have k := (ask_some2 h).2.2
    simp only [Option.some.injEq, Prod.mk.injEq] at k; obtain ⟨rfl, rfl, rfl⟩ := k
    refine ⟨fun _ => rfl, fun _ h2 => ?_⟩
    have a := ask_some2 h
    simp only [cutA, a.1, a.2.1]; rfl
  · have k := (ask_some5 h).2.2.2.2.2
    simp only [Option.some.injEq, Prod.mk.injEq] at k; obtain ⟨rfl, rfl, rfl⟩ := k
    refine ⟨fun _ => rfl, fun _ h2 => ?_⟩
    have a := ask_some5 h
    simp only [cutA, a.1, a.2.1, a.2.2.1, a.2.2.2.1, a.2.2.2.2.1]; rfl
  · have k := (ask_some5 h).2.2.2.2.2
    simp only [Option.some.injEq, Prod.mk.injEq] at k; obtain ⟨rfl, rfl, rfl⟩ := k
    refine ⟨fun _ => rfl, fun _ h2 => ?_⟩
    have a := ask_some5 h
    simp only [cutA, a.1, a.2.1, a.2.2.1, a.2.2.2.1, a.2.2.2.2.1]; rfl
  · split at h
    · replace h := grownR_inv h
      obtain ⟨sz, sh, xs, he, rfl, h⟩ := h
      have k := (ask_some5 h).2.2.2.2.2
      simp only [Option.some.injEq, Prod.mk.injEq] at k; obtain ⟨rfl, rfl, rfl⟩ := k
      exact ⟨fun _ => rfl, fun e => by simp at e⟩
    replace h := grown_inv h
    obtain ⟨tyo, sz, sh, xs, he, rfl, h⟩ := h
    have k := (ask_some5 h).2.2.2.2.2
    split at k
    · have k := (ask_some k).2
      simp only [Option.some.injEq, Prod.mk.injEq] at k; obtain ⟨rfl, rfl, rfl⟩ := k
      exact ⟨fun e => by simp [Cls.isWrite] at e, fun e => by simp at e⟩
    · simp only [Option.some.injEq, Prod.mk.injEq] at k; obtain ⟨rfl, rfl, rfl⟩ := k
      exact ⟨fun e => by simp [Cls.isWrite] at e, fun e => by simp at e⟩
  · simp at h
theorem newGrow_cls {P : Program} {e : TypeId} {sz : Nat} {sh : Sh} {xs : List AV} {hp hp' : List Ob} {v : AV} {c : Cls} {F : List Ob → Option (AV × List Ob × Cls)} (h : newGrow none P e sz sh xs hp (fun v h c => some (v, h, c)) = some (v, hp', c)) : ClsOK F hp v hp' c := by
  obtain ⟨z, _, _, _, _, rfl, rfl, rfl⟩ := newGrow_inv h
  exact ⟨fun e => by simp [Cls.isWrite] at e, fun e => by simp at e⟩
theorem convA_cls {P : Program} {own : Bool} {s d : TypeId} {x v : AV} {hp hp' : List Ob} {c : Cls} (h : convA none P own s d x hp (fun v h c => some (v, h, c)) = some (v, hp', c)) :
    ClsOK (fun hp => convA none P own s d x hp (fun v h c => some (v, h, c))) hp v hp' c := by
  unfold convA at h
  split at h
  · rename_i h1 h2
    simp at h; obtain ⟨rfl, rfl, rfl⟩ := h
    exact ⟨fun _ => rfl, fun _ h3 => by simp only [convA, h1, h2]⟩
  · rename_i h1 h2
    simp at h; obtain ⟨rfl, rfl, rfl⟩ := h
    exact ⟨fun _ => rfl, fun _ h3 => by simp only [convA, h1, h2]⟩
  · split at h
    · split at h
      · simp at h; obtain ⟨rfl, rfl, rfl⟩ := h
        exact ⟨fun _ => rfl, fun e => by simp at e⟩
      · simp at h
    · simp at h
  · split at h
    · split at h
      · simp at h; obtain ⟨rfl, rfl, rfl⟩ := h
        exact ⟨fun _ => rfl, fun e => by simp at e⟩
      · simp at h
    · simp at h
  · rename_i h1 h2
    split at h
    · rename_i he
      split at h
      · simp at h; obtain ⟨rfl, rfl, rfl⟩ := h
        exact ⟨fun e => by simp [Cls.isWrite] at e, fun e => by simp at e⟩
      · rename_i ho
        simp at h; obtain ⟨rfl, rfl, rfl⟩ := h
        exact ⟨fun _ => rfl, fun _ h3 => by simp only [convA, h1, h2, he, if_neg ho]⟩
    · simp at h
  · split at h
    · split at h
      · replace h := grown_inv h
        obtain ⟨ty, sz, sh, xs, ho, rfl, h⟩ := h
        split at h
        · simp at h
        · split at h
          · simp at h; obtain ⟨rfl, rfl, rfl⟩ := h
            exact ⟨fun e => by simp [Cls.isWrite] at e, fun e => by simp at e⟩
          · simp at h; obtain ⟨rfl, rfl, rfl⟩ := h
            exact ⟨fun e => by simp [Cls.isWrite] at e, fun e => by simp at e⟩
      · simp at h
    · simp at h
  · rename_i h1 h2
    split at h
    · rename_i he
      split at h
      · simp at h; obtain ⟨rfl, rfl, rfl⟩ := h
        exact ⟨fun _ => rfl, fun _ h3 => by simp only [convA, h1, h2, he]⟩
      · rename_i hne
        obtain ⟨sz, sh, xs, cl, he', hk⟩ := elems_cps h
        obtain ⟨q1, q2⟩ := elems_cls he'
        split at hk
        · rename_i hs
          simp at hk; obtain ⟨rfl, rfl, rfl⟩ := hk
          refine ⟨fun _ => rfl, fun e h3 => ?_⟩
          simp only [convA, h1, h2, he]
          rw [q2 e h3, if_pos hs]
        · simp at hk
    · simp at h
  · simp at h
def appK (P : Program) (e : TypeId) (s : AV) (how : Option (Nat × Sh)) (ys : List AV) (c : Cls) (hp : List Ob) : Option (AV × List Ob × Cls) :=
  if okHow (sizeA P e) (shA P 8 e) how then
        match (generalizing := false) s with
        | .nilsl => newGrow none P e (sizeA P e) (shA P 8 e) ys hp fun v h c => some (v, h, c)
        | .fslice sz' sh' xs zs => if sz' == sizeA P e && sh'.beq (shA P 8 e) then
            cond (ys.length == 0) (some (.fslice sz' sh' xs zs, hp, c))
              (cond (decide (zs.length < ys.length)) (newGrow none P e (sizeA P e) (shA P 8 e) (xs ++ ys) hp fun v h c => some (v, h, c)) none) else none
        | .slice sz' sh' xs k => if sz' == sizeA P e && sh'.beq (shA P 8 e) then cond (ys.length == 0) (some (.slice sz' sh' xs k, hp, c)) none else none
        | .oslice id ver len => grown none hp id ver len fun ty' sz' sh' xs =>
            if ty' == e && sz' == sizeA P e && sh'.beq (shA P 8 e) then
              match (generalizing := false) zeroA P e with
              | some z => if (cells z).length = sizeA P e then
                  ask none (decide ((xs ++ ys).length * (bytesA P e + 1) < LIM))
                    (some (.oslice id ver (xs ++ ys).length, hp.set id (.grow ty' ver sz' sh' (xs ++ ys)), .write)) else none
              | none => none
            else none
        | _ => none
      else none
theorem appendB_cls {P : Program} {t tx : TypeId} {s x v : AV} {hp hp' : List Ob} {c : Cls} (h : appendB none P t tx s x hp (fun v h c => some (v, h, c)) = some (v, hp', c)) :
    ClsOK (fun hp => appendB none P t tx s x hp (fun v h c => some (v, h, c))) hp v hp' c := by
  have src : ∀ {K : Option (Nat × Sh) → List AV → Cls → List Ob → Option (AV × List Ob × Cls)}, srcA none hp x (fun a b d => K a b d hp) = some (v, hp', c) →
      ∃ how ys cl, K how ys cl hp = some (v, hp', c) ∧ cl ≠ .write ∧ (cl = .pure → ∀ h2, srcA none h2 x (fun a b d => K a b d h2) = K how ys .pure h2) := by
    intro K hs
    unfold srcA at hs ⊢
    split at hs
    · exact ⟨_, _, _, hs, by simp, fun _ _ => rfl⟩
    · exact ⟨_, _, _, hs, by simp, fun _ _ => rfl⟩
    · rename_i hne1 hne2
      obtain ⟨sz, sh, xs, cl, he', hk⟩ := elems_cps hs
      obtain ⟨q1, q2⟩ := elems_cls he'
      exact ⟨_, _, _, hk, q1, fun e h2 => q2 e h2 _⟩
  unfold appendB at h
  split at h
  · rename_i e htk
    simp only at h
    split at h
    · simp at h
    · rename_i hcond
      obtain ⟨how, ys, cl, hk, hw, hp2⟩ := src (K := appK P e s) h
      unfold appK at hk
      have back : ∀ {r : AV}, cl = .pure → (∀ h2, appK P e s how ys .pure h2 = some (r, h2, Cls.pure)) → ∀ h2, appendB none P t tx s x h2 (fun v h c => some (v, h, c)) = some (r, h2, .pure) := by
        intro r e hr h2
        unfold appendB
        rw [htk]
        simp only [if_neg hcond]
        exact (hp2 e h2).trans (hr h2)
      split at hk
      · rename_i hhow
        split at hk
        · exact newGrow_cls hk
        · split at hk
          · rename_i hm
            cases hb : (ys.length == 0) with
            | true =>
              rw [hb] at hk
              simp only [cond_true, Option.some.injEq, Prod.mk.injEq] at hk; obtain ⟨rfl, rfl, rfl⟩ := hk
              exact ⟨fun _ => rfl, fun e => back e fun h2 => by unfold appK; rw [if_pos hhow]; simp only [hm, if_true, hb, cond_true]⟩
            | false =>
              rw [hb] at hk
              simp only [cond_false] at hk
              cases hd : decide (_ < ys.length) with
              | false => rw [hd] at hk; simp at hk
              | true => rw [hd] at hk; exact newGrow_cls hk
          · simp at hk
        · split at hk
          · rename_i hm
            cases hb : (ys.length == 0) with
            | true =>
              rw [hb] at hk
              simp only [cond_true, Option.some.injEq, Prod.mk.injEq] at hk; obtain ⟨rfl, rfl, rfl⟩ := hk
              exact ⟨fun _ => rfl, fun e => back e fun h2 => by unfold appK; rw [if_pos hhow]; simp only [hm, if_true, hb, cond_true]⟩
            | false => rw [hb] at hk; simp at hk
          · simp at hk
        · replace hk := grown_inv hk
          obtain ⟨tyo, sz', sh', xs, hg, rfl, hk⟩ := hk
          split at hk
          · split at hk
            · split at hk
              · have hk := (ask_some hk).2
                simp only [Option.some.injEq, Prod.mk.injEq] at hk; obtain ⟨rfl, rfl, rfl⟩ := hk
                exact ⟨fun e => by simp [Cls.isWrite] at e, fun e => by simp at e⟩
              · simp at hk
            · simp at hk
          · simp at hk
        · simp at hk
      · simp at hk
  · simp at h
theorem appendA_cls {P : Program} {t tx : TypeId} {s x v : AV} {hp hp' : List Ob} {c : Cls} (h : appendA none P t tx s x hp (fun v h c => some (v, h, c)) = some (v, hp', c)) :
    ClsOK (fun hp => appendA none P t tx s x hp (fun v h c => some (v, h, c))) hp v hp' c := by
  by_cases hi : isIntT P tx = true
  · simp only [appendA, if_pos hi] at h ⊢
    have h0 := h
    unfold appendZ at h
    split at h
    · split at h
      · split at h
        · split at h
          · have h := (ask_some h).2
            exact newGrow_cls h
          · simp at h
        · simp at h
      · simp at h
    · simp at h
  · simp only [appendA, if_neg hi] at h ⊢
    exact appendB_cls h
end
end Go.Cx

end

section
namespace Go.Cx
open Go.RowKit (Below)
set_option linter.unusedSimpArgs false
mutual
theorem frzVA_last {β : Type} : ∀ (x : AV) {hp : List Ob} {r : β} {K : AV → List Ob → Option β}, frzVA none x hp K = some r → ∃ y hp', K y hp' = some r
  | .oslice id ver len, hp, r, K, h => by
    unfold frzVA giveUpA at h
    dsimp only at h
    split at h
    · obtain ⟨_, _, _, _, _, h⟩ := grownR_inv h; exact ⟨_, _, h⟩
    · obtain ⟨_, _, _, _, _, _, h⟩ := grown_inv h; exact ⟨_, _, h⟩
  | .agg cs, hp, r, K, h => by
    unfold frzVA at h
    obtain ⟨_, _, h⟩ := frzVL_last cs h
    exact ⟨_, _, h⟩
  | .tuple .., hp, r, K, h | .int .., hp, r, K, h | .bool .., hp, r, K, h | .str .., hp, r, K, h | .ptr .., hp, r, K, h | .nilptr, hp, r, K, h | .rptr .., hp, r, K, h | .nilsl, hp, r, K, h | .slice .., hp, r, K, h
  | .fslice .., hp, r, K, h | .optr .., hp, r, K, h | .func .., hp, r, K, h | .nilfunc, hp, r, K, h | .nilIface, hp, r, K, h | .junk, hp, r, K, h => ⟨_, hp, by simpa [frzVA] using h⟩
theorem frzVL_last {β : Type} : ∀ (l : List AV) {hp : List Ob} {r : β} {K : List AV → List Ob → Option β}, frzVL none l hp K = some r → ∃ y hp', K y hp' = some r
  | [], hp, r, K, h => ⟨[], hp, by simpa [frzVL] using h⟩
  | x :: l, hp, r, K, h => by
    unfold frzVL at h
    obtain ⟨_, _, h⟩ := frzVA_last x h
    obtain ⟨_, _, h⟩ := frzVL_last l h
    exact ⟨_, _, h⟩
end
theorem frzPs_last {β : Type} : ∀ (l : List (Nat × AV)) {hp : List Ob} {r : β} {K : List (Nat × AV) → List Ob → Option β}, frzPs none l hp K = some r → ∃ y hp', K y hp' = some r
  | [], hp, r, K, h => ⟨[], hp, by simpa [frzPs] using h⟩
  | (i, x) :: l, hp, r, K, h => by
    unfold frzPs at h
    obtain ⟨_, _, h⟩ := frzVA_last x h
    obtain ⟨_, _, h⟩ := frzPs_last l h
    exact ⟨_, _, h⟩
theorem buildSA_last {β : Type} {P : Program} {own : Bool} {t : TypeId} {len : Nat} {ps : List (Nat × AV)} {hp : List Ob} {K : AV → List Ob → Cls → Option β} {r : β} (h : buildSA none P own t len ps hp K = some r) : ∃ v hp' c, K v hp' c = some r := by
  unfold buildSA at h
  split at h
  · split at h
    · dsimp only at h
      split at h
      · split at h
        · split at h
          · split at h
            · obtain ⟨_, _, _, _, h⟩ := newGrow_cps h; exact ⟨_, _, _, h⟩
            · exact ⟨_, _, _, h⟩
          · simp at h
        · simp at h
      · simp at h
    · simp at h
  · simp at h
theorem opF_cls {E : En} (hE : EnOK E) {o : Oper} {fr : List AV} {hp hp' : List Ob} {v : AV} {c : Cls} (hop : opF E o fr hp = some (v, hp', c)) : ClsOK (opF E o fr) hp v hp' c := by
  have pure : ∀ {X : Option AV}, (opF E o fr hp = X.bind fun v => some (v, hp, Cls.pure)) → (∀ h2, opF E o fr h2 = X.bind fun v => some (v, h2, Cls.pure)) → ClsOK (opF E o fr) hp v hp' c := by
    intro X h1 h2
    rw [hop] at h1
    obtain ⟨rfl, rfl, rfl⟩ := val_of h1.symm
    exact ⟨fun _ => rfl, fun _ h3 => by rw [h2]; rfl⟩
  have wr : c = .write → ClsOK (opF E o fr) hp v hp' c := fun e => ⟨fun h => by rw [e] at h; simp [Cls.isWrite] at h, fun h => by rw [e] at h; simp at h⟩
  unfold opF opA at hop
  dsimp only at hop
  split at hop
  · rename_i x he
    split at hop
    · rename_i hf
      unfold giveUpA at hop
      split at hop
      · split at hop
        · obtain ⟨_, _, _, _, _, hk⟩ := grownR_inv hop
          simp only [Option.some.injEq, Prod.mk.injEq] at hk; obtain ⟨rfl, rfl, rfl⟩ := hk
          exact ⟨fun _ => rfl, fun e => by simp at e⟩
        obtain ⟨_, _, _, _, _, _, hk⟩ := grown_inv hop
        simp only [Option.some.injEq, Prod.mk.injEq] at hk; exact wr hk.2.2.symm
      · rename_i hn
        refine pure (X := some (evalA fr x)) ?_ (fun h2 => ?_) <;> (unfold opF opA giveUpA; simp only [he, hf, if_true]; rfl)
    · rename_i hf
      refine pure (X := some (evalA fr x)) ?_ (fun h2 => ?_) <;> (unfold opF opA; simp only [he, hf]; rfl)
  · rename_i x he
    split at hop
    · rename_i hf
      unfold giveUpA at hop
      split at hop
      · split at hop
        · obtain ⟨_, _, _, _, _, hk⟩ := grownR_inv hop
          simp only [Option.some.injEq, Prod.mk.injEq] at hk; obtain ⟨rfl, rfl, rfl⟩ := hk
          exact ⟨fun _ => rfl, fun e => by simp at e⟩
        obtain ⟨_, _, _, _, _, _, hk⟩ := grown_inv hop
        simp only [Option.some.injEq, Prod.mk.injEq] at hk; exact wr hk.2.2.symm
      · rename_i hn
        refine pure (X := some (evalA fr x)) ?_ (fun h2 => ?_) <;> (unfold opF opA giveUpA; simp only [he, hf, if_true]; rfl)
    · rename_i hf
      refine pure (X := some (evalA fr x)) ?_ (fun h2 => ?_) <;> (unfold opF opA; simp only [he, hf]; rfl)
  · rename_i x y z he
    split at hop
    · rename_i t ht
      refine pure (X := some (cond t (evalA fr y) (evalA fr z))) ?_ (fun h2 => ?_) <;> (unfold opF opA; simp only [he, ht]; cases t <;> rfl)
    · simp at hop
  · split at hop
    · split at hop
      · simp only [newFix, Option.some.injEq, Prod.mk.injEq] at hop; exact wr hop.2.2.symm
      · simp at hop
    · simp at hop
  · split at hop
    · simp only [newFix, Option.some.injEq, Prod.mk.injEq] at hop; exact wr hop.2.2.symm
    · simp at hop
  · rename_i t parts he
    have hop0 := hop
    split at hop
    · rename_i z hz
      split at hop
      · rename_i l ht
        split at hop
        · rename_i hT
          split at hop
          · rename_i cs hf
            refine pure (X := some (.agg cs)) ?_ (fun h2 => ?_) <;> (unfold opF opA; simp only [he, hz, ht, hT, hf, if_true]; rfl)
          · simp at hop
        · simp at hop
      · rename_i n e ht
        split at hop
        · rename_i hT
          split at hop
          · rename_i cs hf
            refine pure (X := some (.agg cs)) ?_ (fun h2 => ?_) <;> (unfold opF opA; simp only [he, hz, ht, hT, hf, if_true]; rfl)
          · simp at hop
        · simp at hop
      · simp at hop
    · simp at hop
  · rename_i t len parts he
    split at hop
    · obtain ⟨ps1, hp1, hop⟩ := frzPs_last _ hop
      obtain ⟨_, _, _, hop⟩ := buildSA_last hop
      simp only [Option.some.injEq, Prod.mk.injEq] at hop; exact wr hop.2.2.symm
    rename_i hown
    unfold buildSA at hop
    split at hop
    · rename_i e ht
      split at hop
      · rename_i zs hz
        dsimp only at hop
        split at hop
        · rename_i cs hf
          split at hop
          · rename_i xs hx
            split at hop
            · rename_i hc
              split at hop
              · exact newGrow_cls hop
              · rename_i ho
                refine pure (X := some (.fslice (sizeA E.P e) (shA E.P 8 e) xs [])) ?_ (fun h2 => ?_) <;> (unfold opF opA; simp only [he]; rw [if_neg hown]; unfold buildSA; simp only [ht, hz, hf, hx, if_pos hc, if_neg ho]; rfl)
            · simp at hop
          · simp at hop
        · simp at hop
      · simp at hop
    · simp at hop
  · -- load
    rename_i t x he
    have h2 := loadA_hom (fun r : Option (AV × Cls) => r.bind fun (p : AV × Cls) => some (p.1, hp, p.2)) none (P := E.P) t (evalA fr x) hp (fun v c => some (v, c))
    simp only [Option.bind_none, Option.bind_some] at h2
    rw [← h2] at hop
    cases hl : loadA none E.P t (evalA fr x) hp (fun v c => some (v, c)) with
    | none => rw [hl] at hop; simp at hop
    | some p =>
      rw [hl] at hop
      simp only [Option.bind_some, Option.some.injEq, Prod.mk.injEq] at hop
      obtain ⟨rfl, rfl, rfl⟩ := hop
      obtain ⟨k1, k2⟩ := loadA_cls hl
      refine ⟨fun _ => rfl, fun e h3 => ?_⟩
      have h4 := loadA_hom (fun r : Option (AV × Cls) => r.bind fun (p : AV × Cls) => some (p.1, h3, p.2)) none (P := E.P) t (evalA fr x) h3 (fun v c => some (v, c))
      simp only [Option.bind_none, Option.bind_some] at h4
      unfold opF opA
      simp only [he]
      rw [← h4, k2 e h3]; rfl
  · rename_i t x y he
    have h2 := storeA_hom (fun r : Option (List Ob) => r.bind fun p => some (AV.junk, p, Cls.write)) none (P := E.P) t (evalA fr x) (evalA fr y) hp some
    simp only [Option.bind_none, Option.bind_some] at h2
    rw [← h2] at hop
    cases hl : storeA none E.P t (evalA fr x) (evalA fr y) hp some with
    | none => rw [hl] at hop; simp at hop
    | some p =>
      rw [hl] at hop
      simp only [Option.bind_some, Option.some.injEq, Prod.mk.injEq] at hop
      exact wr hop.2.2.symm
  · rename_i x he
    have h2 := fun (hp : List Ob) => nilCheckA_hom (fun r : Option AV => r.bind fun v => some (v, hp, Cls.pure)) none (evalA fr x) some
    simp only [Option.bind_none, Option.bind_some] at h2
    refine pure (X := nilCheckA none (evalA fr x) some) ?_ (fun h3 => ?_) <;> (unfold opF opA; simp only [he, h2])
  · rename_i op t x y ty he
    have h2 := fun (hp : List Ob) => binA_hom (fun r : Option AV => r.bind fun v => some (v, hp, Cls.pure)) none (P := E.P) op t (evalA fr x) (evalA fr y) some
    simp only [Option.bind_none, Option.bind_some] at h2
    refine pure (X := binA none E.P op t (evalA fr x) (evalA fr y) some) ?_ (fun h3 => ?_) <;> (unfold opF opA; simp only [he, h2])
  · rename_i op t x he
    have h2 := fun (hp : List Ob) => unA_hom (fun r : Option AV => r.bind fun v => some (v, hp, Cls.pure)) none op (evalA fr x) some
    simp only [Option.bind_none, Option.bind_some] at h2
    refine pure (X := unA none op (evalA fr x) some) ?_ (fun h3 => ?_) <;> (unfold opF opA; simp only [he, h2])
  · rename_i s d x he
    have k := convA_cls hop
    refine ⟨k.same, fun e h3 => ?_⟩
    have := k.pure e h3
    unfold opF opA; simp only [he]; exact this
  · rename_i f first captured he
    refine pure (X := some (.func f (first.toList.map (evalA fr)) (captured.toList.map (evalA fr)))) ?_ (fun h2 => ?_) <;> (unfold opF opA; simp only [he]; rfl)
  · split at hop
    · split at hop
      · split at hop
        · split at hop
          · replace hop := (ask_some2 hop).2.2
            exact newGrow_cls hop
          · simp at hop
        · simp at hop
      · simp at hop
    · simp at hop
  · -- slice
    rename_i t x lo hi he
    have run : ∀ {s : AV} {esz : Nat}, (optInt none (lo.map (evalA fr)) fun l => optInt none (hi.map (evalA fr)) fun hh => cutA none (ownOf E o) esz s l hh hp fun v h c => some (v, h, c)) = some (v, hp', c) →
        (∀ h2, opF E o fr h2 = (optInt none (lo.map (evalA fr)) fun l => optInt none (hi.map (evalA fr)) fun hh => cutA none (ownOf E o) esz s l hh h2 fun v h c => some (v, h, c))) → ClsOK (opF E o fr) hp v hp' c := by
      intro s esz h1 h2
      have two : ∀ {β : Type} {y : Option AV} {K : Option Int → Option β} {r : β}, optInt none y K = some r → ∃ i, K i = some r ∧ ∀ {γ : Type} (K' : Option Int → Option γ), optInt none y K' = K' i := by
        intro β y K r h
        unfold optInt at h ⊢
        split at h
        · exact ⟨_, h, fun _ => rfl⟩
        · exact ⟨_, h, fun _ => rfl⟩
        · simp at h
      obtain ⟨i1, h3, e1⟩ := two h1
      obtain ⟨i2, h4, e2⟩ := two h3
      have k := cutA_cls h4
      refine ⟨k.same, fun e h5 => ?_⟩
      rw [h2, e1, e2]
      exact k.pure e h5
    split at hop
    · rename_i s ht hs
      exact run hop (fun h2 => by unfold opF opA; simp only [he, ht, hs])
    · simp at hop
    · simp at hop
    · rename_i y e ht hne
      split at hop
      · simp at hop
      · rename_i hsz
        refine run hop (fun h2 => ?_)
        unfold opF opA
        simp only [he, ht]
        rw [if_neg hsz]
    · simp at hop
  · rename_i t x f he
    have h2 := fun (hp : List Ob) => fieldAddrA_hom (fun r : Option AV => r.bind fun v => some (v, hp, Cls.pure)) none (P := E.P) t (evalA fr x) f some
    simp only [Option.bind_none, Option.bind_some] at h2
    refine pure (X := fieldAddrA none E.P t (evalA fr x) f some) ?_ (fun h3 => ?_) <;> (unfold opF opA; simp only [he, h2])
  · rename_i t x f he
    have h2 := fun (hp : List Ob) => fieldA_hom (fun r : Option AV => r.bind fun v => some (v, hp, Cls.pure)) none (P := E.P) t (evalA fr x) f some
    simp only [Option.bind_none, Option.bind_some] at h2
    refine pure (X := fieldA none E.P t (evalA fr x) f some) ?_ (fun h3 => ?_) <;> (unfold opF opA; simp only [he, h2])
  · rename_i t x i he
    have h2 := fun (hp : List Ob) => indexAddrA_hom (fun r : Option AV => r.bind fun v => some (v, hp, Cls.pure)) none (P := E.P) t (evalA fr x) (evalA fr i) some
    simp only [Option.bind_none, Option.bind_some] at h2
    refine pure (X := indexAddrA none E.P t (evalA fr x) (evalA fr i) some) ?_ (fun h3 => ?_) <;> (unfold opF opA; simp only [he, h2])
  · rename_i t x i he
    have h2 := fun (hp : List Ob) => indexA_hom (fun r : Option AV => r.bind fun v => some (v, hp, Cls.pure)) none (P := E.P) t (evalA fr x) (evalA fr i) some
    simp only [Option.bind_none, Option.bind_some] at h2
    refine pure (X := indexA none E.P t (evalA fr x) (evalA fr i) some) ?_ (fun h3 => ?_) <;> (unfold opF opA; simp only [he, h2])
  · rename_i x i he
    split at hop
    · rename_i vs hx
      split at hop
      · rename_i u hu
        refine pure (X := some u) ?_ (fun h2 => ?_) <;> (unfold opF opA; simp only [he, hx, hu]; rfl)
      · simp at hop
    · simp at hop
  · rename_i cl he
    split at hop
    · rename_i b hb
      have hbase : ∀ h2, opF E o fr h2 = builtinA none E.P b cl.argTypes.toList (cl.args.toList.map (evalA fr)) h2 fun v h c => some (v, h, c) := fun h2 => by unfold opF opA; simp only [he, hb]
      unfold builtinA at hop hbase
      split at hop
      · rename_i t ts x xs hts hxs
        have h2 := fun (hp : List Ob) => lenA_hom (fun r : Option AV => r.bind fun v => some (v, hp, Cls.pure)) none (P := E.P) t x some
        simp only [Option.bind_none, Option.bind_some] at h2
        rw [hts, hxs] at hbase
        simp only at hbase
        refine pure (X := lenA none E.P t x some) ?_ (fun h3 => ?_) <;> rw [hbase, h2]
      · rename_i t ts x xs hts hxs
        have h2 := fun (hp : List Ob) => capA_hom (fun r : Option AV => r.bind fun v => some (v, hp, Cls.pure)) none (P := E.P) t x some
        simp only [Option.bind_none, Option.bind_some] at h2
        rw [hts, hxs] at hbase
        simp only at hbase
        refine pure (X := capA none E.P t x some) ?_ (fun h3 => ?_) <;> rw [hbase, h2]
      · rename_i t tx s x hts hxs
        rw [hts, hxs] at hbase
        simp only at hbase
        have k := appendA_cls hop
        exact ⟨k.same, fun e h3 => by rw [hbase]; exact k.pure e h3⟩
      · rename_i x l hxs
        split at hop
        · rename_i u hu
          rw [hxs] at hbase
          simp only [hu] at hbase
          refine pure (X := some u) ?_ (fun h3 => ?_) <;> rw [hbase] <;> rfl
        · simp at hop
      · rename_i x l hxs
        split at hop
        · rename_i u hu
          rw [hxs] at hbase
          simp only [hu] at hbase
          refine pure (X := some u) ?_ (fun h3 => ?_) <;> rw [hbase] <;> rfl
        · simp at hop
      · simp at hop
    · rename_i f hf
      split at hop
      · rename_i fid pre post hfv
        have hbase : ∀ h2, opF E o fr h2 = callFn none E fid (pre ++ cl.args.toList.map (evalA fr) ++ post) h2 fun v h c => some (v, h, c) := fun h2 => by unfold opF opA; simp only [he, hf, hfv]
        unfold callFn at hop hbase
        split at hop
        · rename_i sp hsp
          rw [hsp] at hbase
          simp only at hbase
          rw [Tr.fold_val] at hop
          split at hop
          · rename_i u hs
            obtain ⟨u, hp2, c2⟩ := u
            simp only [Option.some.injEq, Prod.mk.injEq] at hop; obtain ⟨rfl, rfl, rfl⟩ := hop
            have hS := hE fid sp hsp
            refine ⟨fun hne => ?_, fun e h3 => ?_⟩
            · cases c2 with
              | pure => exact (hS.pure _ _ _ _ hs).1
              | read => exact hS.read _ _ _ _ hs
              | write => simp [Cls.isWrite] at hne
              | heap => simp [Cls.isWrite] at hne
            · subst e
              rw [hbase, Tr.fold_val, (hS.pure _ _ _ _ hs).2 h3]
          · simp at hop
        · simp at hop
      · simp at hop
    · simp at hop
  · simp at hop
end Go.Cx

end
