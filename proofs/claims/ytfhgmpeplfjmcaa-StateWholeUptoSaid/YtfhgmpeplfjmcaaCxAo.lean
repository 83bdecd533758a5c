/- What is known refers to what is there alone. -/
import Derived.Test.YtfhgmpeplfjmcaaCxAn
namespace Go.Cx
open Go.RowKit (Below)
set_option linter.unusedSimpArgs false
def Gh.has (g : Gh) (i : Nat) : Bool := (g.blk i).isSome || (g.cur i).isSome
theorem covL_of {ok : Nat → Bool} : ∀ (l : List AV), (∀ c ∈ l, cov ok c = true) → covL ok l = true
  | [], _ => rfl
  | x :: l, h => by simp only [covL, h x (by simp), covL_of l (fun c hc => h c (by simp [hc])), Bool.and_self]
theorem cov_of_cells {ok : Nat → Bool} {x : AV} (h : ∀ c ∈ cells x, cov ok c = true) : cov ok x = true := by
  cases x with
  | agg cs => exact covL_of cs (fun c hc => h c hc)
  | _ => exact h _ (List.mem_singleton.2 rfl)
theorem covL_of_flat {ok : Nat → Bool} {xs : List AV} (h : ∀ c ∈ flat xs, cov ok c = true) : covL ok xs = true :=
  covL_of _ fun x hx => cov_of_cells fun c hc => h c (List.mem_flatMap.2 ⟨x, hx, hc⟩)
theorem mem_VL {cs : List AV} {vs : List Value} (hl : cs.length = vs.length) {P : AV → Prop} (h : ∀ (i : Nat) (c : AV) (v : Value), cs[i]? = some c → vs[i]? = some v → P c) : ∀ c ∈ cs, P c := by
  intro c hc
  obtain ⟨i, hi, e⟩ := List.mem_iff_getElem.1 hc
  exact h i c vs[i] (by rw [List.getElem?_eq_getElem hi, e]) (List.getElem?_eq_getElem (by omega))
theorem V.cov {g : Gh} {a : AV} {v : Value} (h : V g a v) : cov g.has a = true := by
  induction h with
  | int | bool | str | nilptr | nilsl | nilfunc | nilIface | junk => rfl
  | ptr id off b h => simp [Go.Cx.cov, Gh.has, h]
  | rptr cs vs b o hl _ _ ih => exact covL_of _ (mem_VL hl ih)
  | slice sz sh xs k vs b o c hl _ _ _ _ _ ih => simp only [Go.Cx.cov, covL_of_flat (mem_VL hl ih), Bool.or_true]
  | slice0 => simp [Go.Cx.cov, covL]
  | slice1 => simp [Go.Cx.cov, covL]
  | fslice sz sh xs ys vs b o hl _ _ _ _ ih =>
    have := covL_of_flat (mem_VL hl ih)
    have h1 : ∀ c ∈ xs, Go.Cx.cov g.has c = true := fun c hc => covL_mem this c (by simp [hc])
    have h2 : ∀ c ∈ ys, Go.Cx.cov g.has c = true := fun c hc => covL_mem this c (by simp [hc])
    simp only [Go.Cx.cov, covL_of _ h1, covL_of _ h2, Bool.and_self, Bool.or_true]
  | oslice id ver len b c x hx => simp [Go.Cx.cov, Gh.has, hx]
  | oslice0 id ver x hx => simp [Go.Cx.cov, Gh.has, hx]
  | optr id ver len sz i j b c x hx => simp [Go.Cx.cov, Gh.has, hx]
  | func f pre post vs ws h1 _ h2 _ ih1 ih2 =>
    simp only [Go.Cx.cov, Bool.and_eq_true]
    exact ⟨covL_of _ (mem_VL (vs := vs.toList) (by simpa using h1) (fun i c v e1 e2 => ih1 i c v e1 (by simpa using e2))), covL_of _ (mem_VL (vs := ws.toList) (by simpa using h2) (fun i c v e1 e2 => ih2 i c v e1 (by simpa using e2)))⟩
  | agg cs vs hl _ ih => exact covL_of _ (mem_VL (vs := vs.toList) (by simpa using hl) (fun i c v e1 e2 => ih i c v e1 (by simpa using e2)))
  | tuple cs vs hl _ ih => exact covL_of _ (mem_VL (vs := vs.toList) (by simpa using hl) (fun i c v e1 e2 => ih i c v e1 (by simpa using e2)))
theorem VL.cov {g : Gh} {cs : List AV} {vs : List Value} (h : VL g cs vs) : covL g.has cs = true := covL_of _ (mem_VL h.1 fun i c v e1 e2 => (h.2 i c v e1 e2).cov)
theorem ObOK.cov {g : Gh} {w : World} {i : Nat} {o : Ob} (h : ObOK g w i (some o)) : covO g.has o = true := by
  cases o with
  | dead => rfl
  | hole => rfl
  | froz ver sz sh xs => obtain ⟨-, b, c, -, h3⟩ := h; simpa [covO, Go.Cx.cov] using h3.cov
  | fix ty cs => obtain ⟨-, b, vs, fz, -, -, -, h5, -⟩ := h; exact h5.cov
  | grow ty ver sz sh xs =>
    obtain ⟨-, ⟨k0, -⟩ | ⟨b, c, vs, fz, -, -, -, -, -, -, h8, -⟩⟩ := h
    · subst k0; simp [covO, covL]
    · simp only [covO, covL_of_flat (covL_mem h8.cov), Bool.or_true]
theorem R.old_cov {g : Gh} {w : World} {hp : List Ob} (h : R g w hp) {hs : List Nat} (hh : ∀ i ∈ hs, g.blk i = none ∧ g.cur i = none) {i : Nat} {o : Ob} (ho : hp[i]? = some o) :
    covO (fun k => okM hp.length hs k && decide (k < hp.length)) o = true := by
  have k := h.objs i
  rw [ho] at k
  refine covO.mono (fun j hj => ?_) o k.cov
  have h1 : hs.contains j = false := by
    cases hc : hs.contains j with
    | false => rfl
    | true => have := hh j (by simpa using hc); simp [Gh.has, this.1, this.2] at hj
  have h2 : j < hp.length := by
    rcases Nat.lt_or_ge j hp.length with h' | h'
    · exact h'
    · have := h.none_blk h'; simp [Gh.has, this.1, this.2] at hj
  simp only [okM, h1, Bool.not_false, Bool.true_and, Bool.and_eq_true, decide_eq_true_eq]
  omega
theorem R.make {g g' : Gh} {w w' : World} {hp ext : List Ob} (h : R g w hp) {hs : List Nat} (hh : ∀ i ∈ hs, g.blk i = none ∧ g.cur i = none) (hd : hs.Nodup) (hlt : ∀ i ∈ hs, i < hp.length)
    (hle : g.le g') (h' : R g' w' (hp ++ ext)) (hl : ext.length = hs.length) (hx : ext.all (covO (okM hp.length hs)) = true) :
    g.le (g'.mv hp.length hs) ∧ R (g'.mv hp.length hs) w' (hpM hp.length hs [] (hp ++ ext)) := by
  refine ⟨Gh.mv_le hle (fun i hi => h.none_blk hi) hh, h'.move (by simp [hl]) hd hlt (fun i o hi _ _ ho => ?_) (fun i o hi _ hc ho => ?_)⟩
  · rw [List.getElem?_append_left hi] at ho
    exact h.old_cov hh ho
  · rcases hc with hc | hc
    · simp at hc
    · rw [List.getElem?_append_right hc] at ho
      exact List.all_eq_true.1 hx o (List.mem_of_getElem? ho)
end Go.Cx
