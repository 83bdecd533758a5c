/- Numbers and bytes, plainly. -/
import Derived.Test.YtfhgmpeplfjmcaaCxAj
import Derived.Test.YtfhgmpeplfjmcaaCxAc
namespace Go.Cx
set_option linter.unusedSimpArgs false
theorem i64_wrap {n : Int} (h0 : -9223372036854775808 ≤ n) (h : n < 9223372036854775808) : IntKind.i64.wrap n = n := by
  simp [IntKind.wrap, IntKind.signed, IntKind.bits]; omega
theorem u8_wrap {n : Int} (h0 : 0 ≤ n) (h : n < 256) : IntKind.u8.wrap n = n := by
  simp [IntKind.wrap, IntKind.signed, IntKind.bits]; omega
def bl (b : List UInt8) : List AV := b.map byte
@[simp] theorem bl_length (b : List UInt8) : (bl b).length = b.length := by simp [bl]
theorem bl_get {b : List UInt8} {i : Nat} (h : i < b.length) : (bl b).getD i (.int .u8 0) = .int .u8 (b[i].toNat : Int) := by
  simp [bl, List.getD_eq_getElem?_getD, h, byte]
theorem shr4 (n : Nat) : shrA .u8 (n : Int) 4 = ((n / 16 : Nat) : Int) := by
  have : (min (4 : Int).toNat IntKind.u8.bits) = 4 := by decide
  unfold shrA; rw [this]
  show (n : Int).fdiv (2 ^ 4) = _
  rw [Int.fdiv_eq_ediv_of_nonneg _ (by decide)]
  norm_cast
theorem and15 {n : Nat} (h : n < 256) : bitsA .and .u8 (n : Int) 15 = ((n % 16 : Nat) : Int) := by
  have : ∀ k : Fin 256, bitsA .and .u8 ((k : Nat) : Int) 15 = (((k : Nat) % 16 : Nat) : Int) := by decide +kernel
  exact this ⟨n, h⟩
theorem bytesOf_bl (b : List UInt8) : bytesOf (bl b) = b := by
  induction b with
  | nil => rfl
  | cons c b ih =>
    simp only [bl, bytesOf, List.map_cons, List.map_map] at ih ⊢
    rw [ih]
    congr 1
    simp [toB, byte, getI]
theorem lit_u8 {n : Int} (h : (Lit.int .u8 n).wf = true) : 0 ≤ n ∧ n < 256 := by
  simp [Lit.wf, IntKind.min, IntKind.max, IntKind.signed, IntKind.bits] at h
  omega
theorem lit_i64 {n : Int} (h : (Lit.int .i64 n).wf = true) : -9223372036854775808 ≤ n ∧ n < 9223372036854775808 := by
  simp [Lit.wf, IntKind.min, IntKind.max, IntKind.signed, IntKind.bits] at h
  omega
theorem wf_bytes {a : AV} (h : Wf (.slice 1 (.int .u8)) a) : ∃ b : List UInt8, a = .slice 1 (.int .u8) (bl b) .ro ∧ b.length < TOP := by
  simp only [Wf] at h
  obtain ⟨xs, rfl, hl, hx⟩ := h
  have key : ∀ l : List AV, (∀ y ∈ l, ∃ n, y = .int .u8 n ∧ (Lit.int .u8 n).wf = true) → l = bl (l.map toB) := by
    intro l
    induction l with
    | nil => intro _; rfl
    | cons y l ih =>
      intro h
      obtain ⟨n, rfl, hn⟩ := h y (by simp)
      obtain ⟨h0, h1⟩ := lit_u8 hn
      have := ih (fun z hz => h z (by simp [hz]))
      simp only [bl, List.map_cons, List.map_map] at this ⊢
      rw [← this]
      congr 1
      simp only [byte, toB, getI]
      congr 1
      have : (UInt8.ofNat n.toNat).toNat = n.toNat := by
        rw [UInt8.toNat_ofNat']; omega
      rw [this]; omega
  exact ⟨xs.map toB, by rw [← key xs hx], by simpa using hl⟩
end Go.Cx
