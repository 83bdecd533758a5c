/- Numbers, texts and bytes, plainly. -/
import Derived.Test.YtfhgmpeplfjmcaaCxPl
namespace Go.Cx
set_option linter.unusedSimpArgs false
theorem u64_wrap {n : Int} (h0 : 0 ≤ n) (h : n < 18446744073709551616) : IntKind.u64.wrap n = n := by
  simp [IntKind.wrap, IntKind.signed, IntKind.bits]; omega
theorem u32_wrap {n : Int} (h0 : 0 ≤ n) (h : n < 4294967296) : IntKind.u32.wrap n = n := by
  simp [IntKind.wrap, IntKind.signed, IntKind.bits]; omega
theorem u8_mod (n : Int) : IntKind.u8.wrap n = n % 256 := by simp [IntKind.wrap, IntKind.signed, IntKind.bits]
theorem u32_mod (n : Int) : IntKind.u32.wrap n = n % 4294967296 := by simp [IntKind.wrap, IntKind.signed, IntKind.bits]
theorem u64_mod (n : Int) : IntKind.u64.wrap n = n % 18446744073709551616 := by simp [IntKind.wrap, IntKind.signed, IntKind.bits]
theorem u64_bounds (n : Int) : 0 ≤ IntKind.u64.wrap n ∧ IntKind.u64.wrap n < 18446744073709551616 := by rw [u64_mod]; omega
theorem u8_bounds (n : Int) : 0 ≤ IntKind.u8.wrap n ∧ IntKind.u8.wrap n < 256 := by rw [u8_mod]; omega
theorem tmod_eq {a b : Int} (h : 0 ≤ a) : Int.tmod a b = a % b := Int.tmod_eq_emod_of_nonneg h
theorem tdiv_eq {a b : Int} (h : 0 ≤ a) : Int.tdiv a b = a / b := Int.tdiv_eq_ediv_of_nonneg h
@[simp] theorem getI_int (k : IntKind) (n : Int) : getI (.int k n) = n := rfl
@[simp] theorem getB_bool (b : Bool) : getB (.bool b) = b := rfl
@[simp] theorem getS_str (s : List UInt8) : getS (.str s) = s := rfl
@[simp] theorem getXs_slice (a : Nat) (b : Sh) (xs : List AV) (k : SK) : getXs (.slice a b xs k) = xs := rfl
@[simp] theorem getCs_agg (cs : List AV) : getCs (.agg cs) = cs := rfl
@[simp] theorem bytesOf_bl' (b : List UInt8) : bytesOf (bl b) = b := bytesOf_bl b
@[simp] theorem bl_nil : bl [] = [] := rfl
@[simp] theorem bl_append (a b : List UInt8) : bl (a ++ b) = bl a ++ bl b := by simp [bl]
theorem bl_cons (c : UInt8) (b : List UInt8) : bl (c :: b) = .int .u8 (c.toNat : Int) :: bl b := rfl
@[simp] theorem bl_take (b : List UInt8) (n : Nat) : (bl b).take n = bl (b.take n) := by simp [bl, List.map_take]
@[simp] theorem bl_drop (b : List UInt8) (n : Nat) : (bl b).drop n = bl (b.drop n) := by simp [bl, List.map_drop]
theorem bl_inj {a b : List UInt8} (h : bl a = bl b) : a = b := by have := congrArg bytesOf h; simpa using this
theorem byte_ofNat {n : Nat} (h : n < 256) : byte (UInt8.ofNat n) = .int .u8 (n : Int) := by
  simp [byte, UInt8.toNat_ofNat', Nat.mod_eq_of_lt h]
theorem int_byte {n : Int} (h0 : 0 ≤ n) (h : n < 256) : AV.int .u8 n = byte (UInt8.ofNat n.toNat) := by
  rw [byte_ofNat (by omega)]; congr 1; omega
theorem bl_set (b : List UInt8) (i : Nat) {n : Int} (h0 : 0 ≤ n) (h : n < 256) : (bl b).set i (.int .u8 n) = bl (b.set i (UInt8.ofNat n.toNat)) := by
  rw [int_byte h0 h]; simp [bl, List.map_set]
theorem bl_replicate (n : Nat) : List.replicate n (AV.int .u8 0) = bl (List.replicate n 0) := by simp [bl, byte]
theorem bl_getD {b : List UInt8} {i : Nat} : (bl b).getD i (.int .u8 0) = .int .u8 ((b.getD i 0).toNat : Int) := by
  simp only [bl, List.getD_eq_getElem?_getD, List.getElem?_map]
  cases b[i]? <;> rfl
theorem toUInt8_toNat (c : UInt8) : Nat.toUInt8 c.toNat = c := by simp [Nat.toUInt8]
theorem getD_lt {b : List UInt8} {i : Nat} (h : i < b.length) : b.getD i 0 = b[i] := by simp [List.getD_eq_getElem?_getD, h]
theorem range_all {α : Type} (s : List α) (d : α) (p : α → Bool) : (List.range s.length).all (fun i => p (s.getD i d)) = s.all p := by
  rw [Bool.eq_iff_iff]
  simp only [List.all_eq_true, List.mem_range]
  constructor
  · intro h x hx
    obtain ⟨i, hi, rfl⟩ := List.getElem_of_mem hx
    simpa [List.getD_eq_getElem?_getD, hi] using h i hi
  · intro h i hi
    simpa [List.getD_eq_getElem?_getD, hi] using h s[i] (List.getElem_mem hi)
theorem all_bytes {p : UInt8 → Prop} (h : ∀ k : Fin 256, p (UInt8.ofNat k)) (c : UInt8) : p c := by
  have := h ⟨c.toNat, c.toNat_lt⟩
  simpa using this
theorem val_opt {ρ τ : Type} [Inhabited ρ] (o : Option ρ) (k : ρ → Tr τ) : (opt o k).val = o.bind fun x => (k x).val := by
  cases o <;> rfl
theorem val_opt_some {ρ τ : Type} [Inhabited ρ] {o : Option ρ} {x : ρ} (h : o = some x) (k : ρ → Tr τ) : (opt o k).val = (k x).val := by
  subst h; rfl
theorem opt_some {ρ τ : Type} [Inhabited ρ] (x : ρ) (k : ρ → Tr τ) : (opt (some x) k).val = (k x).val := rfl
end Go.Cx
