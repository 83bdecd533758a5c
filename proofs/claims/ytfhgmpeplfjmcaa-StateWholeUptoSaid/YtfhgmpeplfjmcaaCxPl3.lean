/- Bits of numbers, plainly. -/
import Derived.Test.YtfhgmpeplfjmcaaCxPl2
namespace Go.Cx
set_option linter.unusedSimpArgs false
theorem ofInt_toNat (w X : Nat) (h : X < 2 ^ w) : (BitVec.ofInt w (X : Int)).toNat = X := by
  rw [BitVec.toNat_ofInt]
  have : ((X : Int) % ((2 ^ w : Nat) : Int)).toNat = X := by
    rw [← Int.natCast_emod, Nat.mod_eq_of_lt h]; simp
  simpa using this
theorem or64 {X Y : Nat} (hX : X < 2 ^ 64) (hY : Y < 2 ^ 64) : bitsA .or .u64 (X : Int) (Y : Int) = ((X ||| Y : Nat) : Int) := by
  show IntKind.u64.wrap ((BitVec.ofInt 64 (X : Int) ||| BitVec.ofInt 64 (Y : Int)).toNat : Int) = _
  rw [BitVec.toNat_or, ofInt_toNat 64 X hX, ofInt_toNat 64 Y hY]
  have := Nat.or_lt_two_pow hX hY
  exact u64_wrap (by omega) (by omega)
theorem and64 {X Y : Nat} (hX : X < 2 ^ 64) (hY : Y < 2 ^ 64) : bitsA .and .u64 (X : Int) (Y : Int) = ((X &&& Y : Nat) : Int) := by
  show IntKind.u64.wrap ((BitVec.ofInt 64 (X : Int) &&& BitVec.ofInt 64 (Y : Int)).toNat : Int) = _
  rw [BitVec.toNat_and, ofInt_toNat 64 X hX, ofInt_toNat 64 Y hY]
  have := Nat.and_lt_two_pow X hY
  exact u64_wrap (by omega) (by omega)
theorem xor32 {X Y : Nat} (hX : X < 2 ^ 32) (hY : Y < 2 ^ 32) : bitsA .xor .u32 (X : Int) (Y : Int) = ((X ^^^ Y : Nat) : Int) := by
  show IntKind.u32.wrap ((BitVec.ofInt 32 (X : Int) ^^^ BitVec.ofInt 32 (Y : Int)).toNat : Int) = _
  rw [BitVec.toNat_xor, ofInt_toNat 32 X hX, ofInt_toNat 32 Y hY]
  have := Nat.xor_lt_two_pow hX hY
  exact u32_wrap (by omega) (by omega)
theorem and32 {X Y : Nat} (hX : X < 2 ^ 32) (hY : Y < 2 ^ 32) : bitsA .and .u32 (X : Int) (Y : Int) = ((X &&& Y : Nat) : Int) := by
  show IntKind.u32.wrap ((BitVec.ofInt 32 (X : Int) &&& BitVec.ofInt 32 (Y : Int)).toNat : Int) = _
  rw [BitVec.toNat_and, ofInt_toNat 32 X hX, ofInt_toNat 32 Y hY]
  have := Nat.and_lt_two_pow X hY
  exact u32_wrap (by omega) (by omega)
theorem odd32 {X : Nat} (hX : X < 2 ^ 32) : bitsA .and .u32 (X : Int) 1 = ((X % 2 : Nat) : Int) := by
  have := and32 hX (Y := 1) (by omega)
  rw [Nat.and_one_is_mod] at this
  exact this
theorem half32 (X : Nat) : shrA .u32 (X : Int) 1 = ((X / 2 : Nat) : Int) := by
  show (X : Int).fdiv 2 = _
  rw [Int.fdiv_eq_ediv_of_nonneg _ (by decide)]
  norm_cast
theorem byte_behind {a y : Nat} (ha : a < 2 ^ 56) (hy : y < 256) : bitsA .or .u64 (shlA .u64 (a : Int) 8) (IntKind.u64.wrap (y : Int)) = ((a * 256 + y : Nat) : Int) := by
  have hs : shlA .u64 (a : Int) 8 = ((a * 256 : Nat) : Int) := by
    show IntKind.u64.wrap ((a : Int) * 256) = _
    rw [u64_wrap (by omega) (by omega)]; omega
  rw [hs, u64_wrap (by omega) (by omega), or64 (by omega) (by omega)]
  have h := Nat.two_pow_add_eq_or_of_lt (i := 8) (b := y) (by omega) a
  have e : a * 256 = 2 ^ 8 * a := by omega
  rw [e, ← h]
theorem lit_u64 {n : Int} (h : (Lit.int .u64 n).wf = true) : 0 ≤ n ∧ n < 18446744073709551616 := by
  simp [Lit.wf, IntKind.min, IntKind.max, IntKind.signed, IntKind.bits] at h
  omega
theorem wf_u64 {xs : List AV} (h : ∀ y ∈ xs, Wf (.int .u64) y) (i : Nat) : 0 ≤ getI (xs.getD i (.int .u64 0)) ∧ getI (xs.getD i (.int .u64 0)) < 18446744073709551616 := by
  rw [List.getD_eq_getElem?_getD]
  rcases Nat.lt_or_ge i xs.length with hi | hi
  · rw [List.getElem?_eq_getElem hi]
    obtain ⟨n, hn, hw⟩ := h xs[i] (List.getElem_mem hi)
    simp only [Option.getD_some, hn, getI_int]
    exact lit_u64 hw
  · rw [List.getElem?_eq_none hi]
    simp
end Go.Cx
