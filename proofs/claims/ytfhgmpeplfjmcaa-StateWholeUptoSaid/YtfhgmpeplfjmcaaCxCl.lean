/- Copies of slices (slices.Clone), whatever the program. -/
import Derived.Test.YtfhgmpeplfjmcaaCxAj
namespace Go.Cx
noncomputable section
def cloneO (ty sz k : Nat) (sh : Sh) : Spec := heapS (patH [.leaf (.slice sz sh)] [] fun ls => .c (decide ((getXs (ls.getD 0 .junk)).length * k < LIM)) (.r (.oslice 0 0 (getXs (ls.getD 0 .junk)).length, [.grow ty 0 sz sh (getXs (ls.getD 0 .junk))])) .bad)
def cloneF (sz k : Nat) (sh : Sh) : Spec := pureS (patF [.leaf (.slice sz sh)] fun ls => .c (decide ((getXs (ls.getD 0 .junk)).length * k < LIM)) (.r (.slice sz sh (getXs (ls.getD 0 .junk)) .ro)) .bad)
theorem cloneO_ok {E : En} (hE : EnOK E) (hm : E.P.follows .mixedOrders = true) {f : FuncId} {fn : Func} {c : Code} (hf : E.P.funcs[f]? = some fn) (hb : fn.body = some c) (hn : (fn.name == "runtime.NumGoroutine") = false)
    {ty sz k : Nat} {sh : Sh} (h0 : 0 < sz)
    (hcn : ∀ xs R, callA E fn [.slice sz sh xs .nn] [] R = (bif decide (xs.length * k < LIM) then R (.oslice 0 0 xs.length) [.grow ty 0 sz sh xs] else False))
    (hcz : ∀ R, callA E fn [.nilsl] [] R = R .nilsl []) : Sound E.P f (cloneO ty sz k sh) := by
  refine sound_heap hE hm hf hb hn ?_
  intro args hp r hp2 hF hl g w vs hR hv
  unfold patH at hF
  split at hF
  · rename_i x y hx hy
    obtain ⟨h1, h2⟩ := chkT_inv hF
    cases hp with
    | cons o l => simp [matH] at hy
    | nil =>
      dsimp only at h2
      have hv1 : VL g [.slice sz sh (getXs ((x.1 ++ y.1).getD 0 .junk)) .ro] vs := ((matL_V (ls := x.1 ++ y.1) (g := g) _ args hx).2 0 (Stand.self _).left h1.left).1 vs hv
      generalize (x.1 ++ y.1).getD 0 .junk = l0 at h2 hv1
      obtain ⟨m, t1, t2⟩ := ToldL.VL hv1
      cases hb : decide ((getXs l0).length * k < LIM) with
      | false => rw [hb] at h2; simp [Tr.val, Tr.fold] at h2
      | true =>
        rw [hb] at h2
        simp only [Tr.val, Tr.fold, cond_true, Option.some.injEq, Prod.mk.injEq] at h2
        obtain ⟨rfl, rfl⟩ := h2
        cases m with
        | nil => simp [ToldL] at t1
        | cons b m =>
          obtain ⟨t3, t4⟩ := t1
          cases m with
          | cons => simp [ToldL] at t4
          | nil =>
            refine ⟨g, _, [], E.keep, Gh.le.refl g, hR, t2, by simp, by simp, ?_⟩
            rcases t3 with rfl | ⟨hn, rfl⟩
            · refine Eq.mpr (hcn _ _) ?_
              rw [hb]
              exact Wk.refl _ _
            · refine Eq.mpr (hcz _) ?_
              rw [hn]
              exact Wk.nil ty h0 sh []
  · simp [Tr.val, Tr.fold] at hF
theorem cloneF_ok {E : En} (hE : EnOK E) (hm : E.P.follows .mixedOrders = true) (h0 : E.keep = 0) {f : FuncId} {fn : Func} {c : Code} (hf : E.P.funcs[f]? = some fn) (hb : fn.body = some c) (hn : (fn.name == "runtime.NumGoroutine") = false)
    {sz k : Nat} {sh : Sh}
    (hcn : ∀ xs R, callA E fn [.slice sz sh xs .nn] [] R = (bif decide (xs.length * k < LIM) then (bif xs.length == xs.length then R (.slice sz sh xs .ro) [] else False) else False))
    (hcz : ∀ R, callA E fn [.nilsl] [] R = R .nilsl []) : Sound E.P f (cloneF sz k sh) := by
  refine sound_pure_g hE hm h0 hf hb hn ?_
  intro args r hF g vs hv
  unfold patF at hF
  split at hF
  · rename_i x hx
    obtain ⟨h1, h2⟩ := chkT_inv hF
    have hv1 : VL g [.slice sz sh (getXs (x.1.getD 0 .junk)) .ro] vs := ((matL_V (ls := x.1) (g := g) _ args hx).2 0 (Stand.self _) h1).1 vs hv
    dsimp only at h2
    generalize x.1.getD 0 .junk = l0 at h2 hv1
    cases hb : decide ((getXs l0).length * k < LIM) with
    | false => rw [hb] at h2; simp [Tr.val, Tr.fold] at h2
    | true =>
      rw [hb] at h2
      simp only [Tr.val, Tr.fold, cond_true, Option.some.injEq] at h2
      subst h2
      obtain ⟨m, t1, t2⟩ := ToldL.VL hv1
      cases m with
      | nil => simp [ToldL] at t1
      | cons b m =>
        obtain ⟨t3, t4⟩ := t1
        cases m with
        | cons => simp [ToldL] at t4
        | nil =>
          refine ⟨_, t2, ?_⟩
          rcases t3 with rfl | ⟨hn, rfl⟩
          · refine Eq.mpr (hcn _ _) ?_
            rw [hb]
            simp only [cond_true, beq_self_eq_true]
            exact Lo.refl _
          · refine Eq.mpr (hcz _) ?_
            rw [hn]
            exact Lo.nil
  · simp [Tr.val, Tr.fold] at hF
end
end Go.Cx
