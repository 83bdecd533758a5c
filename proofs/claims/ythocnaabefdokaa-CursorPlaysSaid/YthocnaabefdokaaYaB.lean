/- A part of the proof. -/
import Derived.Test.YthocnaabefdokaaCxCl
import Derived.Test.YthocnaabefdokaaProg
import Derived.Lib.Strings
import Derived.Lib.Slices
import Derived.Lib.Walk
import Derived.Lib.Bytealg
namespace Go.Proofs.Ythocnaabefdokaa
open Go.Cx Go.Cx.AV

set_option maxHeartbeats 1000000 in
set_option maxRecDepth 100000 in
theorem stringslite_IndexByte (s : ByteArray) (c : Int) (w : World) :
    Calls Try.prog 61 #[.string s, .int .u8 c] w fun e w' => e = .returned (.int .i64 (Lib.indexByte s.data.toList c.toNat.toUInt8)) ∧ w' = w := by
  go_enter Try.func61, Try.ntmps61
  go_wp2
  rw [run_callFunc_extern Try.func66 (by kernel_rfl) (by kernel_rfl) (by kernel_rfl) (e := Extern.BytealgIndexByte.indexByte) (by kernel_rfl), Lib.run_indexByteString]
  simp only [Result.andThen]
  rw [Oper.upon_value]
  go_wp2
  go_ret
  exact ⟨rfl, rfl⟩

set_option maxHeartbeats 1000000 in
theorem strings_IndexByte (s : ByteArray) (c : Int) (w : World) :
    Calls Try.prog 49 #[.string s, .int .u8 c] w fun e w' => e = .returned (.int .i64 (Lib.indexByte s.data.toList c.toNat.toUInt8)) ∧ w' = w := by
  go_enter Try.func49, Try.ntmps49
  go_wp2_with (go_at_call 61; refine (stringslite_IndexByte _ _ _).mono ?_; rintro e w' ⟨rfl, rfl⟩)
  go_ret
  exact ⟨rfl, rfl⟩

/-- strings.IndexByte. -/
def F49 : List AV → Option AV
  | [.str s, .int .u8 c] => some (.int .i64 (Lib.indexByte s c.toNat.toUInt8))
  | _ => none

theorem mixed : Try.prog.follows .mixedOrders = true := by kernel_rfl
def S49 : Cx.Spec := flatS F49
theorem S49_ok : Sound Try.prog 49 S49 := by
  refine sound_contract Try.func49 (c := Try.f49.body.getD .skip) (by kernel_rfl) (by kernel_rfl) ?_
  intro args r h g w vs hv
  unfold F49 at h
  split at h
  · simp only [Option.some.injEq] at h
    subst h
    obtain ⟨v1, vs, rfl, h1, hv⟩ := hv.cons_inv
    obtain ⟨v2, vs, rfl, h2, hv⟩ := hv.cons_inv
    obtain rfl := hv.nil_inv
    obtain ⟨rfl, -⟩ := str_inv h1
    obtain rfl := int_inv h2
    refine (strings_IndexByte _ _ _).mono ?_
    rintro e w' ⟨rfl, rfl⟩
    exact ⟨_, rfl, rfl, .int _ _⟩
  · simp at h

/-- slices.Clone of bytes: what is told is nobody's. -/
noncomputable def E55 : En := enK Try.prog (fun _ => none) [5] [] [] [] 0
noncomputable def S55 : Cx.Spec := cloneF 1 2 (.int .u8)
theorem S55_ok : Sound Try.prog 55 S55 := cloneF_ok (E := E55) ((TblOK.none _).enK _ _ _ _ _) mixed rfl Try.func55 (c := Try.f55.body.getD .skip) (by kernel_rfl) (by kernel_rfl) (fun xs R => by kernel_rfl) (fun R => by kernel_rfl)
/-- slices.Clone of bytes: an array of one's own. -/
noncomputable def E55o : En := enK Try.prog (fun _ => none) [5] [] [] [] 1
noncomputable def S55o : Cx.Spec := cloneO 5 1 2 (.int .u8)
theorem S55o_ok : Sound Try.prog 55 S55o := cloneO_ok (E := E55o) ((TblOK.none _).enK _ _ _ _ _) mixed Try.func55 (c := Try.f55.body.getD .skip) (by kernel_rfl) (by kernel_rfl) (by decide) (fun xs R => by kernel_rfl) (fun R => by kernel_rfl)

end Go.Proofs.Ythocnaabefdokaa
