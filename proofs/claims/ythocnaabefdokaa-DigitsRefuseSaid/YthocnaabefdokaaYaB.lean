/- A part of the proof. -/
import Derived.Test.YthocnaabefdokaaCxAj
import Derived.Test.YthocnaabefdokaaProg
import Derived.Lib.Strings
import Derived.Lib.Slices
import Derived.Lib.Walk
import Derived.Lib.Bytealg
namespace Go.Proofs.Ythocnaabefdokaa
open Go.Cx Go.Cx.AV

set_option maxHeartbeats 1000000 in
set_option maxRecDepth 100000 in
theorem stringslite_IndexByte (s : ByteArray) (c : Int) (w : World) :
    Calls Try.prog 61 #[.string s, .int .u8 c] w fun e w' => e = .returned (.int .i64 (Lib.indexByte s.data.toList c.toNat.toUInt8)) ∧ w' = w := by
  go_enter Try.func61, Try.ntmps61
  go_wp2
  rw [run_callFunc_extern Try.func66 (by kernel_rfl) (by kernel_rfl) (by kernel_rfl) (e := Extern.BytealgIndexByte.indexByte) (by kernel_rfl), Lib.run_indexByteString]
  simp only [Result.andThen]
  rw [Oper.upon_value]
  go_wp2
  go_ret
  exact ⟨rfl, rfl⟩

set_option maxHeartbeats 1000000 in
theorem strings_IndexByte (s : ByteArray) (c : Int) (w : World) :
    Calls Try.prog 49 #[.string s, .int .u8 c] w fun e w' => e = .returned (.int .i64 (Lib.indexByte s.data.toList c.toNat.toUInt8)) ∧ w' = w := by
  go_enter Try.func49, Try.ntmps49
  go_wp2_with (go_at_call 61; refine (stringslite_IndexByte _ _ _).mono ?_; rintro e w' ⟨rfl, rfl⟩)
  go_ret
  exact ⟨rfl, rfl⟩

/-- strings.IndexByte. -/
def F49 : List AV → Option AV
  | [.str s, .int .u8 c] => some (.int .i64 (Lib.indexByte s c.toNat.toUInt8))
  | _ => none

theorem mixed : Try.prog.follows .mixedOrders = true := by kernel_rfl
def S49 : Cx.Spec := flatS F49
theorem S49_ok : Sound Try.prog 49 S49 := by
  refine sound_contract Try.func49 (c := Try.f49.body.getD .skip) (by kernel_rfl) (by kernel_rfl) ?_
  intro args r h g w vs hv
  unfold F49 at h
  split at h
  · simp only [Option.some.injEq] at h
    subst h
    obtain ⟨v1, vs, rfl, h1, hv⟩ := hv.cons_inv
    obtain ⟨v2, vs, rfl, h2, hv⟩ := hv.cons_inv
    obtain rfl := hv.nil_inv
    obtain ⟨rfl, -⟩ := str_inv h1
    obtain rfl := int_inv h2
    refine (strings_IndexByte _ _ _).mono ?_
    rintro e w' ⟨rfl, rfl⟩
    exact ⟨_, rfl, rfl, .int _ _⟩
  · simp at h

/-- slices.Clone of bytes: what is told is nobody's. -/
noncomputable def E55 : En := enK Try.prog (fun _ => none) [] [] [] [] 0
theorem c55n (xs : List AV) (R : AV → List Ob → Prop) : callA E55 Try.f55 [.slice 1 (.int .u8) xs .nn] [] R =
  (bif xs.length == 0 then R (.fslice 1 (.int .u8) [] []) [] else bif decide (0 < xs.length) then bif decide (xs.length * 2 < LIM) then (bif xs.length == xs.length then R (.slice 1 (.int .u8) xs .ro) [] else False) else False else False) := by kernel_rfl
theorem c55z (R : AV → List Ob → Prop) : callA E55 Try.f55 [.nilsl] [] R = R .nilsl [] := by kernel_rfl
noncomputable def S55 : Cx.Spec := pureS (patF [.leaf (.slice 1 (.int .u8))] fun ls => .c (decide ((getXs (ls.getD 0 .junk)).length * 2 < LIM)) (.r (.slice 1 (.int .u8) (getXs (ls.getD 0 .junk)) .ro)) .bad)
set_option maxRecDepth 100000 in
theorem S55_ok : Sound Try.prog 55 S55 := by
  refine sound_pure_g (E := E55) ((TblOK.none _).enK _ _ _ _ _) mixed rfl Try.func55 (c := Try.f55.body.getD .skip) (by kernel_rfl) (by kernel_rfl) ?_
  intro args r hF g vs hv
  unfold patF at hF
  split at hF
  · rename_i x hx
    obtain ⟨h1, h2⟩ := chkT_inv hF
    have hv1 : VL g [.slice 1 (.int .u8) (getXs (x.1.getD 0 .junk)) .ro] vs := ((matL_V (ls := x.1) (g := g) _ args hx).2 0 (Stand.self _) h1).1 vs hv
    dsimp only at h2
    generalize x.1.getD 0 .junk = l0 at h2 hv1
    cases hb : decide ((getXs l0).length * 2 < LIM) with
    | false => rw [hb] at h2; simp [Tr.val, Tr.fold] at h2
    | true =>
      rw [hb] at h2
      simp only [Tr.val, Tr.fold, cond_true, Option.some.injEq] at h2
      subst h2
      obtain ⟨m, t1, t2⟩ := ToldL.VL hv1
      cases m with
      | nil => simp [ToldL] at t1
      | cons b m =>
        obtain ⟨t3, t4⟩ := t1
        cases m with
        | cons => simp [ToldL] at t4
        | nil =>
          refine ⟨_, t2, ?_⟩
          rcases t3 with rfl | ⟨hn, rfl⟩
          · refine Eq.mpr (c55n _ _) ?_
            rw [hb]
            cases hz : (getXs l0).length == 0 with
            | true =>
              have hn : getXs l0 = [] := by simpa using hz
              rw [hn]
              exact fun g v hv => slice_weak (fslice_weak hv)
            | false =>
              have h0 : 0 < (getXs l0).length := by
                have : getXs l0 ≠ [] := by simpa using hz
                exact List.length_pos_iff.2 this
              simp only [cond_false, h0, decide_true, cond_true, beq_self_eq_true]
              exact Lo.refl _
          · refine Eq.mpr (c55z _) ?_
            rw [hn]
            exact Lo.nil
  · simp [Tr.val, Tr.fold] at hF

/-- slices.Clone of bytes: an array of one's own (none: nobody's). -/
noncomputable def E55o : En := enK Try.prog (fun _ => none) [] [] [] [] 1
theorem c55on (xs : List AV) (R : AV → List Ob → Prop) : callA E55o Try.f55 [.slice 1 (.int .u8) xs .nn] [] R =
  (bif xs.length == 0 then R (.fslice 1 (.int .u8) [] []) [] else bif decide (0 < xs.length) then bif decide (xs.length * 2 < LIM) then R (.oslice 0 0 xs.length) [.grow 5 0 1 (.int .u8) xs] else False else False) := by kernel_rfl
theorem c55oz (R : AV → List Ob → Prop) : callA E55o Try.f55 [.nilsl] [] R = R .nilsl [] := by kernel_rfl
noncomputable def S55o : Cx.Spec := heapS (patH [.leaf (.slice 1 (.int .u8))] [] fun ls => .c (decide ((getXs (ls.getD 0 .junk)).length * 2 < LIM)) (.c ((getXs (ls.getD 0 .junk)).length == 0) (.r (.slice 1 (.int .u8) [] .ro, [])) (.r (.oslice 0 0 (getXs (ls.getD 0 .junk)).length, [.grow 5 0 1 (.int .u8) (getXs (ls.getD 0 .junk))]))) .bad)
set_option maxRecDepth 100000 in
theorem S55o_ok : Sound Try.prog 55 S55o := by
  refine sound_heap (E := E55o) ((TblOK.none _).enK _ _ _ _ _) mixed Try.func55 (c := Try.f55.body.getD .skip) (by kernel_rfl) (by kernel_rfl) ?_
  intro args hp r hp2 hF hl g w vs hR hv
  unfold patH at hF
  split at hF
  · rename_i x y hx hy
    obtain ⟨h1, h2⟩ := chkT_inv hF
    cases hp with
    | cons o l => simp [matH] at hy
    | nil =>
      dsimp only at h2
      have hv1 : VL g [.slice 1 (.int .u8) (getXs ((x.1 ++ y.1).getD 0 .junk)) .ro] vs := ((matL_V (ls := x.1 ++ y.1) (g := g) _ args hx).2 0 (Stand.self _).left h1.left).1 vs hv
      generalize (x.1 ++ y.1).getD 0 .junk = l0 at h2 hv1
      obtain ⟨m, t1, t2⟩ := ToldL.VL hv1
      cases hb : decide ((getXs l0).length * 2 < LIM) with
      | false => rw [hb] at h2; simp [Tr.val, Tr.fold] at h2
      | true =>
        rw [hb] at h2
        cases m with
        | nil => simp [ToldL] at t1
        | cons b m =>
          obtain ⟨t3, t4⟩ := t1
          cases m with
          | cons => simp [ToldL] at t4
          | nil =>
            refine ⟨g, _, [], 1, Gh.le.refl g, hR, t2, by simp, ?_⟩
            cases hz : (getXs l0).length == 0 with
            | true =>
              rw [hz] at h2
              simp only [Tr.val, Tr.fold, cond_true, Option.some.injEq, Prod.mk.injEq] at h2
              obtain ⟨rfl, rfl⟩ := h2
              rcases t3 with rfl | ⟨hn, rfl⟩
              · refine Eq.mpr (c55on _ _) ?_
                rw [hz]
                exact fun g w v hR hv => ⟨g, Gh.le.refl g, hR, slice_weak (fslice_weak hv)⟩
              · refine Eq.mpr (c55oz _) ?_
                exact fun g w v hR hv => ⟨g, Gh.le.refl g, hR, Lo.nil _ _ hv⟩
            | false =>
              rw [hz] at h2
              simp only [Tr.val, Tr.fold, cond_true, cond_false, Option.some.injEq, Prod.mk.injEq] at h2
              obtain ⟨rfl, rfl⟩ := h2
              have h0 : 0 < (getXs l0).length := by
                have : getXs l0 ≠ [] := by simpa using hz
                exact List.length_pos_iff.2 this
              rcases t3 with rfl | ⟨hn, rfl⟩
              · refine Eq.mpr (c55on _ _) ?_
                rw [hz, hb]
                simp only [cond_false, h0, decide_true, cond_true]
                exact Wk.refl _ _
              · rw [hn] at h0; simp at h0
  · simp [Tr.val, Tr.fold] at hF

end Go.Proofs.Ythocnaabefdokaa
