/- What the printed functions come to, plainly. -/
import Derived.Test.YtaejmfmamhdlhaaYbG12
import Derived.Test.YtaejmfmamhdlhaaCxPl3
namespace Go.Proofs.Ytaejmfmamhdlhaa
open Go.Cx Go.Cx.AV
set_option linter.unusedSimpArgs false
set_option linter.unusedVariables false

/- slices.Concat of two. -/
theorem Grow_eq (n : Int) (h0 : 0 ≤ n) (h : n < 35184372088832) : g_slices_Grow_byte_byte n = some [] := by
  unfold g_slices_Grow_byte_byte
  have w : IntKind.i64.wrap (n - 0) = n := by rw [Int.sub_zero]; exact i64_wrap (by omega) (by omega)
  have hn0 : ¬ (n < 0) := by omega
  have hT : (T_slices_Grow_byte_byte n).val = some (.inl (.inl ())) := by simp only [T_slices_Grow_byte_byte, Tr.val_c, Tr.val_r, hn0]; rfl
  rw [run_inl hT]
  rw [run_inl (s := .inr ())]
  · exact run_inr rfl
  · simp only [M_slices_Grow_byte_byte, Tr.val_c, Tr.val_r, w, List.length_replicate]
    by_cases hn : n > 0
    · have : n.toNat * 2 < 70368744177664 := by omega
      simp [hn, this]
    · simp [hn]

theorem Concat_eq (a b : List AV) (h : a.length + b.length < 17592186044416) : g_slices_Concat_byte_byte [.slice 1 (.int .u8) a .ro, .slice 1 (.int .u8) b .ro] = some (a ++ b) := by
  have e0 : getXs (List.getD [AV.slice 1 (.int .u8) a .ro, .slice 1 (.int .u8) b .ro] (Int.toNat 0) (.slice 1 (.int .u8) [] .ro)) = a := rfl
  have e1 : getXs (List.getD [AV.slice 1 (.int .u8) a .ro, .slice 1 (.int .u8) b .ro] (Int.toNat 1) (.slice 1 (.int .u8) [] .ro)) = b := rfl
  have w0 : IntKind.i64.wrap (0 + (a.length : Int)) = a.length := by rw [Int.zero_add]; exact i64_wrap (by omega) (by omega)
  have w1 : IntKind.i64.wrap ((a.length : Int) + b.length) = ((a.length + b.length : Nat) : Int) := by rw [i64_wrap (by omega) (by omega)]; omega
  have w2 : IntKind.i64.wrap (0 + 1) = 1 := rfl
  have w3 : IntKind.i64.wrap (1 + 1) = 2 := rfl
  have n0 : ¬ ((a.length : Int) < 0) := by omega
  have n1 : ¬ (((a.length + b.length : Nat) : Int) < 0) := by omega
  have l0 : a.length * 2 < 70368744177664 := by omega
  have l1 : (a.length + b.length) * 2 < 70368744177664 := by omega
  have gr := Grow_eq (((a.length + b.length : Nat) : Int)) (by omega) (by omega)
  unfold g_slices_Concat_byte_byte
  rw [run_inl (s := .inl (0, 0)) rfl]
  rw [run_inl (s := .inl ((a.length : Int), 1)) (by simp only [M_slices_Concat_byte_byte, Tr.val_c, Tr.val_r, e0, w0, w2, n0]; rfl)]
  rw [run_inl (s := .inl (((a.length + b.length : Nat) : Int), 2)) (by simp only [M_slices_Concat_byte_byte, Tr.val_c, Tr.val_r, e1, w1, w3, n1]; rfl)]
  rw [run_inl (s := .inr ([], 0)) (by simp only [M_slices_Concat_byte_byte, Tr.val_c, Tr.val_r, gr, opt_some]; rfl)]
  rw [run_inl (s := .inr (a, 1)) (by simp only [M_slices_Concat_byte_byte, Tr.val_c, Tr.val_r, e0, w2, List.nil_append, l0, decide_true, beq_self_eq_true]; rfl)]
  rw [run_inl (s := .inr (a ++ b, 2)) (by simp only [M_slices_Concat_byte_byte, Tr.val_c, Tr.val_r, e1, w3, List.length_append, l1, decide_true, beq_self_eq_true]; rfl)]
  exact run_inr (by simp only [M_slices_Concat_byte_byte, Tr.val_c, Tr.val_r, beq_self_eq_true]; rfl)

/- the cursor -/
theorem shr8 (v : Int) : ∀ i : Nat, i < 8 → IntKind.u8.wrap (shrA .u64 v (8 * (i : Int))) = v / 256 ^ i % 256
  | 0, _ => by rw [u8_mod]; show v.fdiv 1 % 256 = _; rw [Int.fdiv_eq_ediv_of_nonneg _ (by decide)]; rfl
  | 1, _ => by rw [u8_mod]; show v.fdiv 256 % 256 = _; rw [Int.fdiv_eq_ediv_of_nonneg _ (by decide)]; rfl
  | 2, _ => by rw [u8_mod]; show v.fdiv 65536 % 256 = _; rw [Int.fdiv_eq_ediv_of_nonneg _ (by decide)]; rfl
  | 3, _ => by rw [u8_mod]; show v.fdiv 16777216 % 256 = _; rw [Int.fdiv_eq_ediv_of_nonneg _ (by decide)]; rfl
  | 4, _ => by rw [u8_mod]; show v.fdiv 4294967296 % 256 = _; rw [Int.fdiv_eq_ediv_of_nonneg _ (by decide)]; rfl
  | 5, _ => by rw [u8_mod]; show v.fdiv 1099511627776 % 256 = _; rw [Int.fdiv_eq_ediv_of_nonneg _ (by decide)]; rfl
  | 6, _ => by rw [u8_mod]; show v.fdiv 281474976710656 % 256 = _; rw [Int.fdiv_eq_ediv_of_nonneg _ (by decide)]; rfl
  | 7, _ => by rw [u8_mod]; show v.fdiv 72057594037927936 % 256 = _; rw [Int.fdiv_eq_ediv_of_nonneg _ (by decide)]; rfl
  | n + 8, h => by omega

/-- The lowest bytes of a number, the highest first. -/
def bex (v : Int) : Nat → List AV
  | 0 => []
  | i + 1 => .int .u8 (v / 256 ^ i % 256) :: bex v i
@[simp] theorem length_bex (v : Int) (i : Nat) : (bex v i).length = i := by induction i <;> simp [bex, *]

theorem set_last (r : List AV) (x y : AV) (j : Nat) : (List.replicate (j + 1) x ++ r).set j y = List.replicate j x ++ y :: r := by
  induction j with
  | zero => rfl
  | succ j ih => rw [List.replicate_succ (n := j + 1), List.cons_append, List.set_cons_succ, ih]; rfl

theorem Put_eq (x0 : List AV) (v n : Int) (m : Nat) (hx : x0.length < 8796093022208) (hm : m ≤ 8) (hn : (if 8 < (if 0 > n then 0 else n) then 8 else if 0 > n then 0 else n) = (m : Int)) : g_cursor_Put x0 v n = some (x0 ++ bex v m) := by
  unfold g_cursor_Put
  have hr : m * 2 < 70368744177664 := by omega
  have h0 : (0 : Int) ≤ m := by omega
  rw [run_inl (s := ((m : Int), (m : Int), List.replicate m (.int .u8 0), 0))]
  rotate_left
  · simp only [T_cursor_Put, Tr.val_c, Tr.val_r, hn, h0, Int.toNat_natCast, List.length_replicate, hr, decide_true, cond_true, beq_self_eq_true]
  have key : ∀ k i, i + k = m → run (M_cursor_Put x0 v n) (M_cursor_Put x0 v n ((m : Int), (m : Int), List.replicate k (.int .u8 0) ++ bex v i, (i : Int))) = some (x0 ++ bex v m) := by
    intro k
    induction k with
    | zero =>
      intro i hi
      have : i = m := by omega
      subst this
      have hlt : ¬ ((i : Int) < i) := by omega
      have hc := Concat_eq x0 (bex v i) (by simp; omega)
      exact run_inr (by simp only [M_cursor_Put, Tr.val_c, Tr.val_r, hlt, List.replicate_zero, List.nil_append, val_opt, hc, Option.bind_some, decide_false, cond_false, beq_self_eq_true, cond_true])
    | succ k ih =>
      intro i hi
      have q1 : (i : Int) < m := by omega
      have w1 : IntKind.i64.wrap (8 * (i : Int)) = 8 * i := i64_wrap (by omega) (by omega)
      have w2 : IntKind.i64.wrap ((m : Int) - 1) = m - 1 := i64_wrap (by omega) (by omega)
      have w3 : IntKind.i64.wrap ((m : Int) - 1 - i) = (k : Int) := by rw [i64_wrap (by omega) (by omega)]; omega
      have w4 : IntKind.i64.wrap ((i : Int) + 1) = ((i + 1 : Nat) : Int) := by rw [i64_wrap (by omega) (by omega)]; omega
      have q2 : (0 : Int) ≤ 8 * i := by omega
      have q3 : (0 : Int) ≤ k := by omega
      have hl : (List.replicate (k + 1) (AV.int .u8 0) ++ bex v i).length = m := by simp; omega
      have hl2 : (List.replicate k (AV.int .u8 0) ++ AV.int .u8 (v / 256 ^ i % 256) :: bex v i).length = m := by simp; omega
      have q4 : (k : Int) < m := by omega
      have q5 : k < m := by omega
      rw [run_inl (s := ((m : Int), (m : Int), List.replicate k (.int .u8 0) ++ bex v (i + 1), ((i + 1 : Nat) : Int)))]
      · exact ih (i + 1) (by omega)
      · simp only [M_cursor_Put, Tr.val_c, Tr.val_r, q1, w1, w2, w3, w4, q2, q3, q4, q5, hl, Int.toNat_natCast, shr8 v i (by omega), decide_true, cond_true, beq_self_eq_true, set_last, hl2]
        rfl
  have := key m 0 (by omega)
  simpa [bex] using this

theorem take_eq (n : Int) (b : List AV) (k : Nat) (hk : k ≤ b.length) (hb : b.length < 8796093022208) :
    g_cursor_Cursor_take_p0500 n b k = some (if n < 0 then ([], 1, b, (k : Int)) else if n > b.length - k then ([], 3, b, (k : Int)) else ((b.drop k).take n.toNat, 0, b, (k : Int) + n)) := by
  unfold g_cursor_Cursor_take_p0500
  have w0 : IntKind.i64.wrap ((b.length : Int) - k) = b.length - k := i64_wrap (by omega) (by omega)
  by_cases h1 : n < 0
  · simp only [T_cursor_Cursor_take_p0500, Tr.val_c, Tr.val_r, h1, decide_true, cond_true, if_true]
  · by_cases h2 : n > (b.length : Int) - k
    · simp only [T_cursor_Cursor_take_p0500, Tr.val_c, Tr.val_r, h1, h2, w0, decide_true, decide_false, cond_true, cond_false, if_true, if_false]
    · have w1 : IntKind.i64.wrap ((k : Int) + n) = k + n := i64_wrap (by omega) (by omega)
      have w2 : IntKind.i64.wrap ((k : Int) + n - n) = k := by rw [i64_wrap (by omega) (by omega)]; omega
      have q1 : (0 : Int) ≤ k + n := by omega
      have q2 : (k : Int) + n ≤ b.length := by omega
      have q3 : (0 : Int) ≤ k := by omega
      have q4 : (k : Int) ≤ k + n := by omega
      have hd : ((b.take ((k : Int) + n).toNat).drop (k : Int).toNat) = (b.drop k).take n.toNat := by
        rw [List.drop_take]; congr 1; omega
      simp only [T_cursor_Cursor_take_p0500, Tr.val_c, Tr.val_r, h1, h2, w0, w1, w2, q1, q2, q3, q4, hd, decide_true, decide_false, cond_true, cond_false, if_false]

theorem read_eq (n : Int) (b : List AV) (k : Int) : g_cursor_read_ftake_0p500 n b k = g_cursor_Cursor_take_p0500 n b k := by
  conv => lhs; unfold g_cursor_read_ftake_0p500
  simp only [T_cursor_read_ftake_0p500, Tr.val_c, Tr.val_r, val_opt]
  cases g_cursor_Cursor_take_p0500 n b k <;> rfl

/-- The number that bytes are. -/
def numOf (l : List AV) : Int := l.foldl (fun a x => bitsA .or .u64 (shlA .u64 a 8) (IntKind.u64.wrap (getI x))) 0

theorem Number_eq (n : Int) (b : List AV) (k : Nat) (hk : k ≤ b.length) (hb : b.length < 8796093022208) :
    g_cursor_Cursor_Number_p0500 n b k = some (if n < 1 then (0, 1, b, (k : Int)) else if n > 8 then (0, 1, b, (k : Int)) else if n > b.length - k then (0, 3, b, (k : Int)) else (numOf ((b.drop k).take n.toNat), 0, b, (k : Int) + n)) := by
  unfold g_cursor_Cursor_Number_p0500
  by_cases h1 : n < 1
  · rw [run_inr (x := (0, 1, b, (k : Int))) (by simp only [T_cursor_Cursor_Number_p0500, Tr.val_c, Tr.val_r, h1, decide_true, cond_true])]
    simp [h1]
  by_cases h2 : n > 8
  · rw [run_inr (x := (0, 1, b, (k : Int))) (by simp only [T_cursor_Cursor_Number_p0500, Tr.val_c, Tr.val_r, h1, h2, decide_true, decide_false, cond_true, cond_false])]
    simp [h1, h2]
  have loop : ∀ (e : Int) (l : List AV) (b2 : List AV) (at' : Int), l.length < 8796093022208 → ∀ m i v, i + m = l.length → run (M_cursor_Cursor_Number_p0500 n b k) (M_cursor_Cursor_Number_p0500 n b k (e, l, (l.length : Int), b2, at', v, (i : Int))) =
      some ((l.drop i).foldl (fun a x => bitsA .or .u64 (shlA .u64 a 8) (IntKind.u64.wrap (getI x))) v, e, b2, at') := by
    intro e l b2 at' hl m
    induction m with
    | zero =>
      intro i v hi
      have hlt : ¬ ((i : Int) < l.length) := by omega
      rw [List.drop_of_length_le (by omega)]
      exact run_inr (by simp only [M_cursor_Cursor_Number_p0500, Tr.val_c, Tr.val_r, hlt, decide_false, cond_false]; rfl)
    | succ m ih =>
      intro i v hi
      have q1 : (i : Int) < l.length := by omega
      have q2 : (0 : Int) ≤ i := by omega
      have q3 : i < l.length := by omega
      have w : IntKind.i64.wrap ((i : Int) + 1) = ((i + 1 : Nat) : Int) := by rw [i64_wrap (by omega) (by omega)]; omega
      have hg : l.getD i (.int .u8 0) = l[i] := by simp [List.getD_eq_getElem?_getD, q3]
      rw [run_inl (s := (e, l, (l.length : Int), b2, at', bitsA .or .u64 (shlA .u64 v 8) (IntKind.u64.wrap (getI l[i])), ((i + 1 : Nat) : Int))) (by simp only [M_cursor_Cursor_Number_p0500, Tr.val_c, Tr.val_r, q1, q2, w, hg, Int.toNat_natCast, decide_true, cond_true]), ih (i + 1) _ (by omega), List.drop_eq_getElem_cons q3, List.foldl_cons]
  have ht := take_eq n b k hk hb
  have h0 : ¬ n < 0 := by omega
  by_cases h3 : n > (b.length : Int) - k
  · rw [run_inl (s := (3, [], ((([] : List AV).length : Nat) : Int), b, (k : Int), 0, ((0 : Nat) : Int)))]
    · rw [loop 3 [] b k (by simp) 0 0 0 rfl]
      simp [h1, h2, h3]
    · simp only [T_cursor_Cursor_Number_p0500, Tr.val_c, Tr.val_r, val_opt, h1, h2, h0, h3, read_eq, ht, Option.bind_some, if_true, if_false, decide_false, cond_false]
      rfl
  · rw [run_inl (s := (0, (b.drop k).take n.toNat, ((((b.drop k).take n.toNat).length : Nat) : Int), b, (k : Int) + n, 0, ((0 : Nat) : Int)))]
    · rw [loop 0 _ b _ (by simp only [List.length_take, List.length_drop]; omega) ((b.drop k).take n.toNat).length 0 0 (by omega)]
      simp only [h1, h2, h3, if_false, List.drop_zero, numOf]
    · simp only [T_cursor_Cursor_Number_p0500, Tr.val_c, Tr.val_r, val_opt, h1, h2, h0, h3, read_eq, ht, Option.bind_some, if_true, if_false, decide_false, cond_false]
      rfl

theorem New_eq (b : List AV) (hb : b.length < 8796093022208) : g_cursor_New b = some (b, 0) := by
  have : b.length * 2 < 70368744177664 := by omega
  unfold g_cursor_New
  simp only [T_cursor_New, Tr.val_c, Tr.val_r, this, decide_true, cond_true]


theorem Take_eq (n : Int) (b : List AV) (k : Nat) (hk : k ≤ b.length) (hb : b.length < 8796093022208) :
    g_cursor_Cursor_Take_p0500 n b k = some (if n < 0 then ([], 1, b, (k : Int)) else if n > b.length - k then ([], 3, b, (k : Int)) else ((b.drop k).take n.toNat, 0, b, (k : Int) + n)) := by
  have h := take_eq n b k hk hb
  have hl : ∀ m : Nat, ((b.drop k).take m).length * 2 < 70368744177664 := by
    intro m; simp only [List.length_take, List.length_drop]; omega
  unfold g_cursor_Cursor_Take_p0500
  simp only [T_cursor_Cursor_Take_p0500, Tr.val_c, Tr.val_r, val_opt, read_eq, h, Option.bind_some]
  by_cases h1 : n < 0
  · simp [h1]
  · by_cases h2 : n > (b.length : Int) - k
    · simp [h1, h2]
    · simp only [h1, h2, if_false, hl, decide_true, cond_true]


theorem foldl_bex (v : Nat) : ∀ (i a : Nat), i ≤ 8 → a < 256 ^ (8 - i) → (bex (v : Int) i).foldl (fun a x => bitsA .or .u64 (shlA .u64 a 8) (IntKind.u64.wrap (getI x))) (a : Int) = ((a * 256 ^ i + v % 256 ^ i : Nat) : Int)
  | 0, a, _, _ => by
    show (a : Int) = _
    rw [Nat.pow_zero, Nat.mod_one, Nat.mul_one, Nat.add_zero]
  | i + 1, a, hi, ha => by
    have e8 : 8 - i = (8 - (i + 1)) + 1 := by omega
    have hp : 256 ^ (8 - i) = 256 * 256 ^ (8 - (i + 1)) := by rw [e8, Nat.pow_succ, Nat.mul_comm]
    have h7 : 256 ^ (8 - (i + 1)) ≤ 256 ^ 7 := Nat.pow_le_pow_right (by omega) (by omega)
    have hy : v / 256 ^ i % 256 < 256 := Nat.mod_lt _ (by omega)
    have hb := byte_behind (a := a) (y := v / 256 ^ i % 256) (by omega) hy
    have hc : ((v : Int) / 256 ^ i % 256) = ((v / 256 ^ i % 256 : Nat) : Int) := by rw [Int.natCast_emod, Int.natCast_ediv, Int.natCast_pow]; rfl
    rw [bex, List.foldl_cons, getI_int, hc, hb, foldl_bex v i _ (by omega) (by rw [hp]; omega)]
    congr 1
    rw [Nat.pow_succ, Nat.mod_mul, Nat.add_mul, Nat.mul_assoc, Nat.mul_comm 256 (256 ^ i), Nat.mul_comm (v / 256 ^ i % 256)]
    omega

theorem numOf_bex (v n : Nat) (hn : n ≤ 8) : numOf (bex (v : Int) n) = ((v % 256 ^ n : Nat) : Int) := by
  have := foldl_bex v n 0 hn (Nat.pow_pos (by omega))
  unfold numOf
  rw [Nat.zero_mul, Nat.zero_add] at this
  exact this

/- sums over bytes -/
def cb (c : Nat) : Nat := if c % 2 = 1 then (c / 2) ^^^ 3988292384 else c / 2
def cbs : Nat → Nat → Nat
  | 0, c => c
  | k + 1, c => cbs k (cb c)
theorem cb_lt {c : Nat} (h : c < 4294967296) : cb c < 4294967296 := by
  unfold cb
  split
  · exact Nat.xor_lt_two_pow (n := 32) (by omega) (by omega)
  · omega
theorem cbs_lt : ∀ (k : Nat) {c : Nat}, c < 4294967296 → cbs k c < 4294967296
  | 0, _, h => h
  | k + 1, _, h => cbs_lt k (cb_lt h)
/-- One byte more. -/
def crc1 (c : Nat) (y : AV) : Nat := cbs 8 (c ^^^ (IntKind.u32.wrap (getI y)).toNat)
theorem u32_nat (n : Int) : ((IntKind.u32.wrap n).toNat : Int) = IntKind.u32.wrap n ∧ (IntKind.u32.wrap n).toNat < 4294967296 := by
  rw [u32_mod]; omega
theorem xor_lt32 {a b : Nat} (ha : a < 4294967296) (hb : b < 4294967296) : a ^^^ b < 4294967296 := Nat.xor_lt_two_pow (n := 32) ha hb
theorem crc1_lt {c : Nat} (y : AV) (h : c < 4294967296) : crc1 c y < 4294967296 := cbs_lt 8 (xor_lt32 h (u32_nat _).2)
theorem crcF_lt : ∀ (l : List AV) {c : Nat}, c < 4294967296 → l.foldl crc1 c < 4294967296
  | [], _, h => h
  | y :: l, _, h => crcF_lt l (crc1_lt y h)
def crcN (l : List AV) : Nat := (l.foldl crc1 4294967295) ^^^ 4294967295
theorem crcN_lt (l : List AV) : crcN l < 4294967296 := xor_lt32 (crcF_lt l (by omega)) (by omega)
theorem xor32' {X Y : Nat} (hX : X < 4294967296) (hY : Y < 4294967296) : bitsA .xor .u32 (X : Int) (Y : Int) = ((X ^^^ Y : Nat) : Int) := xor32 hX hY

theorem step_eq (x : Int) (c : Nat) (hc : c < 4294967296) : g_crc_sum_step_p050 x (c : Int) = some ((cbs 8 (c ^^^ (IntKind.u32.wrap x).toNat) : Nat) : Int) := by
  obtain ⟨u1, u2⟩ := u32_nat x
  unfold g_crc_sum_step_p050
  have h0 : bitsA .xor .u32 (c : Int) (IntKind.u32.wrap x) = ((c ^^^ (IntKind.u32.wrap x).toNat : Nat) : Int) := by rw [← xor32' hc u2, u1]
  rw [run_inl (s := (((0 : Nat) : Int), ((c ^^^ (IntKind.u32.wrap x).toNat : Nat) : Int))) (by simp only [T_crc_sum_step_p050, Tr.val_r, h0]; rfl)]
  have key : ∀ k i d : Nat, i + k = 8 → d < 4294967296 → run (M_crc_sum_step_p050 x (c : Int)) (M_crc_sum_step_p050 x (c : Int) ((i : Int), (d : Int))) = some ((cbs k d : Nat) : Int) := by
    intro k
    induction k with
    | zero =>
      intro i d hi hd
      have q : ¬ ((i : Int) < 8) := by omega
      exact run_inr (by simp only [M_crc_sum_step_p050, Tr.val_c, Tr.val_r, q, decide_false, cond_false]; rfl)
    | succ k ih =>
      intro i d hi hd
      have q : (i : Int) < 8 := by omega
      have w : IntKind.i64.wrap ((i : Int) + 1) = ((i + 1 : Nat) : Int) := by rw [i64_wrap (by omega) (by omega)]; omega
      have o := odd32 (X := d) hd
      have hf := half32 d
      by_cases h1 : d % 2 = 1
      · have x1 : bitsA .xor .u32 ((d / 2 : Nat) : Int) 3988292384 = ((d / 2 ^^^ 3988292384 : Nat) : Int) := xor32' (Y := 3988292384) (by omega) (by omega)
        have e : (((d % 2 : Nat) : Int) == 1) = true := by rw [h1]; rfl
        have hb : cb d = d / 2 ^^^ 3988292384 := by unfold cb; rw [if_pos h1]
        rw [run_inl (s := (((i + 1 : Nat) : Int), ((cb d : Nat) : Int))) (by simp only [M_crc_sum_step_p050, Tr.val_c, Tr.val_r, q, w, o, hf, x1, e, hb, decide_true, cond_true])]
        exact ih (i + 1) (cb d) (by omega) (cb_lt hd)
      · have e : (((d % 2 : Nat) : Int) == 1) = false := by
          have : d % 2 = 0 := by omega
          rw [this]; rfl
        have hb : cb d = d / 2 := by unfold cb; rw [if_neg h1]
        rw [run_inl (s := (((i + 1 : Nat) : Int), ((cb d : Nat) : Int))) (by simp only [M_crc_sum_step_p050, Tr.val_c, Tr.val_r, q, w, o, hf, e, hb, decide_true, cond_true, cond_false])]
        exact ih (i + 1) (cb d) (by omega) (cb_lt hd)
  exact key 8 0 _ rfl (xor_lt32 hc u2)

theorem each_eq (A : List AV) (hA : A.length < 8796093022208) : g_crc_each_0fstep_p50 A 4294967295 = some ((A.foldl crc1 4294967295 : Nat) : Int) := by
  unfold g_crc_each_0fstep_p50
  rw [run_inl (s := (((0 : Nat) : Int), ((4294967295 : Nat) : Int))) rfl]
  have key : ∀ k i d : Nat, i + k = A.length → d < 4294967296 → run (M_crc_each_0fstep_p50 A 4294967295) (M_crc_each_0fstep_p50 A 4294967295 ((i : Int), (d : Int))) = some (((A.drop i).foldl crc1 d : Nat) : Int) := by
    intro k
    induction k with
    | zero =>
      intro i d hi hd
      have q : ¬ ((i : Int) < A.length) := by omega
      rw [List.drop_of_length_le (by omega)]
      exact run_inr (by simp only [M_crc_each_0fstep_p50, Tr.val_c, Tr.val_r, q, decide_false, cond_false]; rfl)
    | succ k ih =>
      intro i d hi hd
      have q : (i : Int) < A.length := by omega
      have q2 : (0 : Int) ≤ i := by omega
      have q3 : i < A.length := by omega
      have w : IntKind.i64.wrap ((i : Int) + 1) = ((i + 1 : Nat) : Int) := by rw [i64_wrap (by omega) (by omega)]; omega
      have hg : A.getD i (.int .u8 0) = A[i] := by simp [List.getD_eq_getElem?_getD, q3]
      have hs := step_eq (getI A[i]) d hd
      rw [run_inl (s := (((i + 1 : Nat) : Int), ((crc1 d A[i] : Nat) : Int))) (by simp only [M_crc_each_0fstep_p50, Tr.val_c, Tr.val_r, val_opt, q, q2, w, hg, Int.toNat_natCast, hs, Option.bind_some, decide_true, cond_true]; rfl), ih (i + 1) _ (by omega) (crc1_lt _ hd), List.drop_eq_getElem_cons q3, List.foldl_cons]
  have := key A.length 0 4294967295 (by omega) (by omega)
  rwa [List.drop_zero] at this

theorem Of_eq (A : List AV) (hA : A.length < 8796093022208) : g_crc_Of A = some ((crcN A : Nat) : Int) := by
  have x1 : bitsA .xor .u32 ((A.foldl crc1 4294967295 : Nat) : Int) 4294967295 = ((crcN A : Nat) : Int) := xor32' (Y := 4294967295) (crcF_lt A (by omega)) (by omega)
  unfold g_crc_Of
  simp only [T_crc_Of, Tr.val_r, val_opt, each_eq A hA, Option.bind_some, x1]

theorem u64_crc (A : List AV) : IntKind.u64.wrap ((crcN A : Nat) : Int) = ((crcN A : Nat) : Int) := by
  have := crcN_lt A
  exact u64_wrap (by omega) (by omega)

theorem Seal_eq (A : List AV) (hA : A.length < 8796093022208) : g_crc_Seal A = some (A ++ bex ((crcN A : Nat) : Int) 4) := by
  have p := Put_eq A ((crcN A : Nat) : Int) 4 4 hA (by omega) (by decide)
  unfold g_crc_Seal
  simp only [T_crc_Seal, Tr.val_r, val_opt, Of_eq A hA, u64_crc, p, Option.bind_some]

/-- What opens. -/
noncomputable def openR (A : List AV) : List AV × Int :=
  if A.length < 4 then ([], 3) else if IntKind.u32.wrap (numOf (A.drop (A.length - 4))) = ((crcN (A.take (A.length - 4)) : Nat) : Int) then (A.take (A.length - 4), 0) else ([], 8)

theorem Open_eq (A : List AV) (hA : A.length < 8796093022208) : g_crc_Open A = some (openR A) := by
  have w0 : IntKind.i64.wrap ((A.length : Int) - 4) = (A.length : Int) - 4 := i64_wrap (by omega) (by omega)
  have nw := New_eq A hA
  unfold g_crc_Open openR
  by_cases h4 : A.length < 4
  · have q : (if (0 : Int) > (A.length : Int) - 4 then (0 : Int) else (A.length : Int) - 4) = 0 := if_pos (by omega)
    have t := Take_eq 0 A 0 (by omega) hA
    rw [if_neg (by omega), if_neg (by omega), show ((0 : Nat) : Int) + 0 = ((0 : Nat) : Int) from rfl] at t
    have n := Number_eq 4 A 0 (by omega) hA
    rw [if_neg (by decide), if_neg (by decide), if_pos (by omega)] at n
    have t' : g_cursor_Cursor_Take_p0500 0 A 0 = _ := t
    have n' : g_cursor_Cursor_Number_p0500 4 A ((0 : Nat) : Int) = _ := n
    rw [if_pos h4]
    simp only [T_crc_Open, Tr.val_c, Tr.val_r, val_opt, w0, q, nw, t', n', Option.bind_some, bne_self_eq_false, cond_false]
    rfl
  · have q : (if (0 : Int) > (A.length : Int) - 4 then (0 : Int) else (A.length : Int) - 4) = ((A.length - 4 : Nat) : Int) := by rw [if_neg (by omega)]; omega
    have t := Take_eq ((A.length - 4 : Nat) : Int) A 0 (by omega) hA
    rw [if_neg (by omega), if_neg (by omega), show ((0 : Nat) : Int) + ((A.length - 4 : Nat) : Int) = ((A.length - 4 : Nat) : Int) by omega, List.drop_zero, Int.toNat_natCast] at t
    have n := Number_eq 4 A (A.length - 4) (by omega) hA
    rw [if_neg (by decide), if_neg (by decide), if_neg (by omega)] at n
    have hd : (A.drop (A.length - 4)).take (4 : Int).toNat = A.drop (A.length - 4) := List.take_of_length_le (by rw [List.length_drop, show (4 : Int).toNat = 4 from rfl]; omega)
    rw [hd] at n
    have t' : g_cursor_Cursor_Take_p0500 ((A.length - 4 : Nat) : Int) A 0 = _ := t
    have o := Of_eq (A.take (A.length - 4)) (by rw [List.length_take]; omega)
    rw [if_neg h4]
    by_cases he : IntKind.u32.wrap (numOf (A.drop (A.length - 4))) = ((crcN (A.take (A.length - 4)) : Nat) : Int)
    · rw [if_pos he]
      simp only [T_crc_Open, Tr.val_c, Tr.val_r, val_opt, w0, q, nw, t', n, o, he, Option.bind_some, bne_self_eq_false, cond_false]
    · have he' : (IntKind.u32.wrap (numOf (A.drop (A.length - 4))) != ((crcN (A.take (A.length - 4)) : Nat) : Int)) = true := by simpa using he
      rw [if_neg he]
      simp only [T_crc_Open, Tr.val_c, Tr.val_r, val_opt, w0, q, nw, t', n, o, he', Option.bind_some, bne_self_eq_false, cond_false, cond_true]


theorem num4_lt (b : List UInt8) (h : b.length = 4) : 0 ≤ numOf (bl b) ∧ numOf (bl b) < 4294967296 := by
  match b, h with
  | [b0, b1, b2, b3], _ =>
    have e : ∀ a : Nat, a < 16777216 → ∀ c : UInt8, bitsA .or .u64 (shlA .u64 (a : Int) 8) (IntKind.u64.wrap (getI (.int .u8 (c.toNat : Int)))) = ((a * 256 + c.toNat : Nat) : Int) := fun a ha c => byte_behind (by omega) c.toNat_lt
    have z : numOf (bl [b0, b1, b2, b3]) = bitsA .or .u64 (shlA .u64 (bitsA .or .u64 (shlA .u64 (bitsA .or .u64 (shlA .u64 (bitsA .or .u64 (shlA .u64 ((0 : Nat) : Int) 8) (IntKind.u64.wrap (getI (.int .u8 (b0.toNat : Int))))) 8) (IntKind.u64.wrap (getI (.int .u8 (b1.toNat : Int))))) 8) (IntKind.u64.wrap (getI (.int .u8 (b2.toNat : Int))))) 8) (IntKind.u64.wrap (getI (.int .u8 (b3.toNat : Int)))) := rfl
    have l0 := b0.toNat_lt
    have l1 := b1.toNat_lt
    have l2 := b2.toNat_lt
    have l3 := b3.toNat_lt
    rw [z, e 0 (by omega), e _ (by omega), e _ (by omega), e _ (by omega)]
    omega


/- records -/
def recR (A : List AV) : List AV := (bex (A.length : Int) 4 ++ A) ++ bex ((crcN (bex (A.length : Int) 4 ++ A) : Nat) : Int) 4

theorem Record_eq (A : List AV) (hA : A.length < 1000000) : g_journal_Record A = some (recR A) := by
  have w : IntKind.u64.wrap (A.length : Int) = (A.length : Int) := u64_wrap (by omega) (by omega)
  have p := Put_eq [] (A.length : Int) 4 4 (by simp) (by omega) (by decide)
  rw [List.nil_append] at p
  have c := Concat_eq (bex (A.length : Int) 4) A (by simp; omega)
  have s := Seal_eq (bex (A.length : Int) 4 ++ A) (by simp; omega)
  unfold g_journal_Record
  simp only [T_journal_Record, Tr.val_r, val_opt, w, p, c, s, Option.bind_some]
  rfl

theorem openR_len (A : List AV) (h : (openR A).2 = 0) : 4 ≤ A.length ∧ (openR A).1.length = A.length - 4 := by
  unfold openR at h ⊢
  by_cases h4 : A.length < 4
  · rw [if_pos h4] at h; exact absurd h (by decide)
  · rw [if_neg h4] at h ⊢
    by_cases he : IntKind.u32.wrap (numOf (A.drop (A.length - 4))) = ((crcN (A.take (A.length - 4)) : Nat) : Int)
    · rw [if_pos he]
      exact ⟨by omega, by simp⟩
    · rw [if_neg he] at h; exact absurd h (by decide)

/-- The record that bytes begin with. -/
noncomputable def nextR (B : List AV) : Option (List AV × Nat) :=
  if 8 ≤ B.length ∧ (numOf (B.take 4)).toNat + 8 ≤ B.length ∧ (openR (B.take ((numOf (B.take 4)).toNat + 8))).2 = 0 then
    some ((openR (B.take ((numOf (B.take 4)).toNat + 8))).1.drop 4, (numOf (B.take 4)).toNat + 8) else none

noncomputable def nextT (B : List AV) : List AV × Bool × List AV := match nextR B with
  | some (t, k) => (t, true, B.drop k)
  | none => ([], false, B)

theorem num_take (b : List UInt8) (h : 4 ≤ b.length) : ∃ n : Nat, numOf ((bl b).take 4) = (n : Int) ∧ n < 4294967296 := by
  have hs : (bl b).take 4 = bl (b.take 4) := by simp [bl, List.map_take]
  obtain ⟨v1, v2⟩ := num4_lt (b.take 4) (by rw [List.length_take]; omega)
  rw [← hs] at v1 v2
  exact ⟨(numOf ((bl b).take 4)).toNat, by omega, by omega⟩

theorem next_eq (b : List UInt8) (hb : b.length < 1000000) : g_journal_walk_next_p50 (bl b) = some (nextT (bl b)) := by
  have lb : (bl b).length = b.length := by simp [bl]
  have hA : (bl b).length < 8796093022208 := by omega
  have nw := New_eq (bl b) hA
  have n := Number_eq 4 (bl b) 0 (by omega) hA
  rw [if_neg (by decide), if_neg (by decide)] at n
  unfold g_journal_walk_next_p50 nextT nextR
  by_cases h4 : (bl b).length < 4
  · rw [if_pos (by omega)] at n
    have n' : g_cursor_Cursor_Number_p0500 4 (bl b) 0 = _ := n
    have e3 : ((3 : Int) != 0) = true := rfl
    rw [if_neg (by omega)]
    simp only [T_journal_walk_next_p50, Tr.val_c, Tr.val_r, val_opt, nw, n', e3, Option.bind_some, cond_true]
  · rw [if_neg (by omega), List.drop_zero, show (4 : Int).toNat = 4 from rfl] at n
    obtain ⟨N, hN, hN2⟩ := num_take b (by omega)
    rw [hN] at n ⊢
    have n' : g_cursor_Cursor_Number_p0500 4 (bl b) 0 = _ := n
    have wl : IntKind.u64.wrap ((bl b).length : Int) = ((bl b).length : Int) := u64_wrap (by omega) (by omega)
    have w8 : IntKind.i64.wrap (IntKind.i64.wrap (IntKind.i64.wrap (N : Int) + 4) + 4) = ((N + 8 : Nat) : Int) := by
      rw [i64_wrap (n := (N : Int)) (by omega) (by omega), i64_wrap (n := (N : Int) + 4) (by omega) (by omega), i64_wrap (by omega) (by omega)]; omega
    rw [Int.toNat_natCast]
    by_cases h8 : N + 8 ≤ (bl b).length
    · have q1 : ¬ ((N : Int) > ((bl b).length : Int)) := by omega
      have q2 : ¬ (((N + 8 : Nat) : Int) > ((bl b).length : Int)) := by omega
      have q3 : (0 : Int) ≤ ((N + 8 : Nat) : Int) := by omega
      have q4 : ((N + 8 : Nat) : Int) ≤ ((bl b).length : Int) := by omega
      have q5 : ((bl b).length : Int) ≤ ((bl b).length : Int) := by omega
      have o := Open_eq ((bl b).take (N + 8)) (by rw [List.length_take]; omega)
      by_cases he : (openR ((bl b).take (N + 8))).2 = 0
      · obtain ⟨l1, l2⟩ := openR_len _ he
        rw [List.length_take] at l2
        have q6 : (4 : Int) ≤ ((openR ((bl b).take (N + 8))).1.length : Int) := by omega
        have q7 : ((openR ((bl b).take (N + 8))).1.length : Int) ≤ ((openR ((bl b).take (N + 8))).1.length : Int) := by omega
        rw [if_pos ⟨by omega, h8, he⟩]
        simp only [T_journal_walk_next_p50, Tr.val_c, Tr.val_r, val_opt, nw, n', wl, w8, q1, q2, q3, q4, q5, q6, q7, o, he, Int.toNat_natCast, List.drop_zero, List.take_length, Option.bind_some, decide_true, decide_false, bne_self_eq_false, cond_true, cond_false]
      · have he' : ((openR ((bl b).take (N + 8))).2 != 0) = true := by simpa using he
        rw [if_neg (fun h => he h.2.2)]
        simp only [T_journal_walk_next_p50, Tr.val_c, Tr.val_r, val_opt, nw, n', wl, w8, q1, q2, q3, q4, q5, o, he', Int.toNat_natCast, List.drop_zero, Option.bind_some, decide_true, decide_false, bne_self_eq_false, cond_true, cond_false]
    · have q2 : ((N + 8 : Nat) : Int) > ((bl b).length : Int) := by omega
      rw [if_neg (fun h => h8 h.2.1)]
      by_cases q1 : (N : Int) > ((bl b).length : Int)
      · simp only [T_journal_walk_next_p50, Tr.val_c, Tr.val_r, val_opt, nw, n', wl, q1, Option.bind_some, decide_true, bne_self_eq_false, cond_true, cond_false]
      · simp only [T_journal_walk_next_p50, Tr.val_c, Tr.val_r, val_opt, nw, n', wl, w8, q1, q2, Option.bind_some, decide_true, decide_false, bne_self_eq_false, cond_true, cond_false]

theorem awake23 : g_comptoirlaw23_awake = some true := by
  have r := Record_eq [.int .u8 7] (by simp)
  have e : recR [.int .u8 7] = bl (bytesOf (recR [.int .u8 7])) := by kernel_rfl
  have l : (bytesOf (recR [.int .u8 7])).length = 9 := by kernel_rfl
  have l9 : (recR [.int .u8 7]).length = 9 := by kernel_rfl
  have n1 := next_eq (bytesOf (recR [.int .u8 7])) (by omega)
  rw [← e] at n1
  have t1 : nextT (recR [.int .u8 7]) = ([.int .u8 7], true, []) := by kernel_rfl
  rw [t1] at n1
  have n2 : g_journal_walk_next_p50 [] = some (nextT []) := next_eq [] (by simp)
  have t2 : nextT [] = ([], false, []) := by kernel_rfl
  rw [t2] at n2
  have ev : g_journal_every_fnext_p50 (recR [.int .u8 7]) = some ([.slice 1 (.int .u8) [.int .u8 7] .ro], []) := by
    unfold g_journal_every_fnext_p50
    rw [run_inl (s := ([.int .u8 7], true, [], [])) (by simp only [T_journal_every_fnext_p50, Tr.val_r, val_opt, n1, Option.bind_some])]
    rw [run_inl (s := ([], false, [], [.slice 1 (.int .u8) [.int .u8 7] .ro])) (by simp only [M_journal_every_fnext_p50, Tr.val_c, Tr.val_r, val_opt, n2, Option.bind_some, beq_self_eq_true, cond_true, List.nil_append]; rfl)]
    exact run_inr (by simp only [M_journal_every_fnext_p50, Tr.val_c, Tr.val_r, beq_self_eq_true, cond_true, cond_false])
  have s : g_journal_Scan (recR [.int .u8 7]) = some ([.slice 1 (.int .u8) [.int .u8 7] .ro], 9) := by
    unfold g_journal_Scan
    simp only [T_journal_Scan, Tr.val_r, val_opt, ev, l9, Option.bind_some]
    rfl
  unfold g_comptoirlaw23_awake
  simp only [T_comptoirlaw23_awake, Tr.val_c, Tr.val_r, val_opt, r, s, Option.bind_some]
  rfl

theorem Same_self (L : List AV) (hL : L.length < 8796093022208) : g_comptoirhelp_Same_byte_00fBytes_ L L = some true := by
  unfold g_comptoirhelp_Same_byte_00fBytes_
  rw [run_inl (s := (0 : Int)) (by simp only [T_comptoirhelp_Same_byte_00fBytes_, Tr.val_c, Tr.val_r, bne_self_eq_false, cond_false])]
  exact run_until (f := fun i => (i : Int)) (n := L.length) (fun i hi => by
    have q1 : (i : Int) < L.length := by omega
    have q2 : (0 : Int) ≤ i := by omega
    have w : IntKind.i64.wrap ((i : Int) + 1) = ((i + 1 : Nat) : Int) := by rw [i64_wrap (by omega) (by omega)]; omega
    simp only [M_comptoirhelp_Same_byte_00fBytes_, Tr.val_c, Tr.val_r, q1, q2, w, decide_true, cond_true, beq_self_eq_true, Bool.not_true, cond_false]) (by
    have q1 : ¬ ((L.length : Int) < L.length) := by omega
    simp only [M_comptoirhelp_Same_byte_00fBytes_, Tr.val_c, Tr.val_r, q1, decide_false, cond_false])


/- rows of bytes -/
def slb (b : List UInt8) : AV := .slice 1 (.int .u8) (bl b) .ro
@[simp] theorem getXs_slb (b : List UInt8) : getXs (slb b) = bl b := rfl
@[simp] theorem length_bl (b : List UInt8) : (bl b).length = b.length := by simp [bl]
theorem wf_rows : ∀ {xs : List AV}, (∀ y ∈ xs, Wf (.slice 1 (.int .u8)) y) → ∃ L : List (List UInt8), xs = L.map slb
  | [], _ => ⟨[], rfl⟩
  | x :: xs, h => by
    obtain ⟨L, hL⟩ := wf_rows (xs := xs) fun y hy => h y (by simp [hy])
    obtain ⟨b, hb, _⟩ := wf_bytes (h x (by simp))
    exact ⟨b :: L, by rw [hb, hL]; rfl⟩
theorem slb_getD (L : List (List UInt8)) (i : Nat) : (L.map slb).getD i (.slice 1 (.int .u8) [] .ro) = slb (L.getD i []) := by
  rw [List.getD_eq_getElem?_getD, List.getD_eq_getElem?_getD, List.getElem?_map]
  cases L[i]? <;> rfl

/- records, one behind the other -/
def bexb (v : Nat) : Nat → List UInt8
  | 0 => []
  | i + 1 => UInt8.ofNat (v / 256 ^ i % 256) :: bexb v i
@[simp] theorem length_bexb (v i : Nat) : (bexb v i).length = i := by induction i <;> simp [bexb, *]
theorem bex_bl (v : Nat) : ∀ i : Nat, bex (v : Int) i = bl (bexb v i)
  | 0 => rfl
  | i + 1 => by
    have hy : v / 256 ^ i % 256 < 256 := Nat.mod_lt _ (by omega)
    have hc : ((v : Int) / 256 ^ i % 256) = ((v / 256 ^ i % 256 : Nat) : Int) := by rw [Int.natCast_emod, Int.natCast_ediv, Int.natCast_pow]; rfl
    rw [bex, bexb, hc, bex_bl v i, ← byte_ofNat hy]; rfl

/-- A record. -/
noncomputable def recb (a : List UInt8) : List UInt8 := (bexb a.length 4 ++ a) ++ bexb (crcN (bl (bexb a.length 4 ++ a))) 4
@[simp] theorem length_recb (a : List UInt8) : (recb a).length = a.length + 8 := by simp [recb] <;> omega
theorem recR_bl (a : List UInt8) : recR (bl a) = bl (recb a) := by
  unfold recR recb
  have e : bex ((bl a).length : Int) 4 ++ bl a = bl (bexb a.length 4 ++ a) := by rw [length_bl, bex_bl, bl_append]
  rw [e, bex_bl, ← bl_append]

theorem openR_rec (a : List UInt8) : openR (bl (recb a)) = (bl (bexb a.length 4 ++ a), 0) := by
  have hl : (bl (recb a)).length = a.length + 8 := by simp
  have hx : (bexb a.length 4 ++ a).length = a.length + 4 := by simp <;> omega
  have ht : (bl (recb a)).take (a.length + 4) = bl (bexb a.length 4 ++ a) := by rw [bl_take]; congr 1; rw [recb, List.take_left' hx]
  have hd : (bl (recb a)).drop (a.length + 4) = bex ((crcN (bl (bexb a.length 4 ++ a)) : Nat) : Int) 4 := by rw [bl_drop, bex_bl]; congr 1; rw [recb, List.drop_left' hx]
  have hc := crcN_lt (bl (bexb a.length 4 ++ a))
  unfold openR
  rw [if_neg (by omega), hl, show a.length + 8 - 4 = a.length + 4 by omega, ht, hd, numOf_bex _ _ (by omega), Nat.mod_eq_of_lt (by simpa using hc), if_pos (u32_wrap (by omega) (by omega))]

theorem nextR_rec (a r : List UInt8) (ha : a.length < 1000000) : nextR (bl (recb a ++ r)) = some (bl a, a.length + 8) := by
  have hl : (bl (recb a ++ r)).length = a.length + 8 + r.length := by simp <;> omega
  have h4 : (bl (recb a ++ r)).take 4 = bex (a.length : Int) 4 := by
    rw [bl_take, bex_bl, recb, List.append_assoc, List.append_assoc, List.take_left' (by simp)]
  have hn : (numOf ((bl (recb a ++ r)).take 4)).toNat = a.length := by
    rw [h4, numOf_bex _ _ (by omega), Nat.mod_eq_of_lt (by omega), Int.toNat_natCast]
  have ht : (bl (recb a ++ r)).take (a.length + 8) = bl (recb a) := by rw [bl_take, List.take_left' (by simp)]
  unfold nextR
  rw [hn, ht, openR_rec, if_pos ⟨by omega, by omega, rfl⟩]
  have : (bl (bexb a.length 4 ++ a)).drop 4 = bl a := by rw [bl_drop, List.drop_left' (by simp)]
  simp only [this]

noncomputable def recsb (L : List (List UInt8)) : List UInt8 := L.flatMap recb
theorem recsb_cons (a : List UInt8) (L : List (List UInt8)) : recsb (a :: L) = recb a ++ recsb L := rfl
theorem recsb_append (K L : List (List UInt8)) : recsb (K ++ L) = recsb K ++ recsb L := by simp [recsb]
theorem recsb_len {L : List (List UInt8)} {m : Nat} (h : ∀ a ∈ L, a.length ≤ m) : (recsb L).length ≤ L.length * (m + 8) ∧ L.length * 8 ≤ (recsb L).length := by
  induction L with
  | nil => simp [recsb]
  | cons a L ih =>
    have h1 := h a (by simp)
    obtain ⟨i1, i2⟩ := ih fun b hb => h b (by simp [hb])
    rw [recsb_cons, List.length_append, length_recb, List.length_cons, Nat.succ_mul, Nat.succ_mul]
    omega

theorem nextT_rec (a r : List UInt8) (ha : a.length < 1000000) : nextT (bl (recb a ++ r)) = (bl a, true, bl r) := by
  unfold nextT
  rw [nextR_rec a r ha]
  have : (bl (recb a ++ r)).drop (a.length + 8) = bl r := by rw [bl_drop, List.drop_left' (by simp)]
  simp only [this]
theorem nextT_none {r : List UInt8} (h : nextR (bl r) = none) : nextT (bl r) = ([], false, bl r) := by unfold nextT; rw [h]

theorem every_recs (B : List AV) (r : List UInt8) (hr : nextR (bl r) = none) : ∀ (L : List (List UInt8)) (acc : List AV), (recsb L ++ r).length < 1000000 → acc.length + L.length < 100000 → (∀ a ∈ L, a.length < 1000000) →
    run (M_journal_every_fnext_p50 B) (M_journal_every_fnext_p50 B ((nextT (bl (recsb L ++ r))).1, (nextT (bl (recsb L ++ r))).2.1, (nextT (bl (recsb L ++ r))).2.2, acc)) = some (acc ++ L.map slb, bl r)
  | [], acc, _, _, _ => by
    show run _ (M_journal_every_fnext_p50 B ((nextT (bl r)).1, (nextT (bl r)).2.1, (nextT (bl r)).2.2, acc)) = _
    rw [nextT_none hr]
    exact run_inr (by simp only [M_journal_every_fnext_p50, Tr.val_c, Tr.val_r, beq_self_eq_true, cond_true, cond_false, List.map_nil, List.append_nil])
  | a :: L, acc, hl, hc, hL => by
    have ha := hL a (by simp)
    rw [recsb_cons, List.append_assoc, nextT_rec _ _ ha]
    have hl2 : (recsb L ++ r).length < 1000000 := by rw [recsb_cons, List.append_assoc, List.length_append] at hl; omega
    have nx := next_eq (recsb L ++ r) hl2
    simp only [List.length_cons] at hc
    have lacc : (acc ++ [AV.slice 1 (.int .u8) (bl a) .ro]).length * 25 < 70368744177664 := by simp <;> omega
    have ih := every_recs B r hr L (acc ++ [slb a]) hl2 (by simp <;> omega) fun b hb => hL b (by simp [hb])
    rw [run_inl (s := ((nextT (bl (recsb L ++ r))).1, (nextT (bl (recsb L ++ r))).2.1, (nextT (bl (recsb L ++ r))).2.2, acc ++ [slb a])) (by
      simp only [M_journal_every_fnext_p50, Tr.val_c, Tr.val_r, val_opt, lacc, nx, Option.bind_some, decide_true, beq_self_eq_true, cond_true]; rfl), ih]
    simp

theorem Scan_recs (L : List (List UInt8)) (r : List UInt8) (hr : nextR (bl r) = none) (hl : (recsb L ++ r).length < 1000000) (hc : L.length < 10000) (hL : ∀ a ∈ L, a.length < 1000000) :
    g_journal_Scan (bl (recsb L ++ r)) = some (L.map slb, ((recsb L).length : Int)) := by
  have nx := next_eq (recsb L ++ r) hl
  have ev : g_journal_every_fnext_p50 (bl (recsb L ++ r)) = some (L.map slb, bl r) := by
    unfold g_journal_every_fnext_p50
    rw [run_inl (s := ((nextT (bl (recsb L ++ r))).1, (nextT (bl (recsb L ++ r))).2.1, (nextT (bl (recsb L ++ r))).2.2, [])) (by simp only [T_journal_every_fnext_p50, Tr.val_r, val_opt, nx, Option.bind_some])]
    have := every_recs (bl (recsb L ++ r)) r hr L [] hl (by simp <;> omega) hL
    rwa [List.nil_append] at this
  have hw : IntKind.i64.wrap (((bl (recsb L ++ r)).length : Int) - ((bl r).length : Int)) = ((recsb L).length : Int) := by
    have e : ((bl (recsb L ++ r)).length : Int) - ((bl r).length : Int) = ((recsb L).length : Int) := by rw [length_bl, length_bl, List.length_append]; omega
    rw [e]; rw [List.length_append] at hl; exact i64_wrap (by omega) (by omega)
  unfold g_journal_Scan
  simp only [T_journal_Scan, Tr.val_r, val_opt, ev, hw, Option.bind_some]

theorem nextR_short {r : List UInt8} (h : r.length < 8) : nextR (bl r) = none := by unfold nextR; rw [if_neg (by rw [length_bl]; omega)]

/-- What a row of records is written as; one that is too long ends all. -/
theorem jp_fill {σ : Type} {m : Nat} {step : σ → Tr (σ ⊕ Bool)} {A Bq : Nat → List UInt8 → σ} {Z : List UInt8 → σ} (L : List (List UInt8))
    (h1 : ∀ i acc, i < L.length → i < 8 → (step (A i acc)).val = some (.inl (Bq i acc)))
    (h0 : ∀ i acc, i ≤ 8 → ¬ (i < L.length ∧ i < 8) → (step (A i acc)).val = some (.inl (Z acc)))
    (h2 : ∀ i acc, i < L.length → i < 8 → acc.length ≤ i * (m + 8) → (step (Bq i acc)).val = some (if (L.getD i []).length > m then .inr true else .inl (A (i + 1) (acc ++ recb (L.getD i []))))) :
    ∀ k i acc, i + k = min 8 L.length → acc.length ≤ i * (m + 8) → run step (step (A i acc)) = some true ∨ ((∀ a ∈ (L.drop i).take k, a.length ≤ m) ∧ run step (step (A i acc)) = run step (step (Z (acc ++ recsb ((L.drop i).take k))))) := by
  intro k
  induction k with
  | zero =>
    intro i acc hi hacc
    right
    refine ⟨fun a ha => by simp at ha, ?_⟩
    rw [run_inl (h0 i acc (by omega) (by omega))]
    simp [recsb]
  | succ k ih =>
    intro i acc hi hacc
    have q1 : i < L.length := by omega
    have q2 : i < 8 := by omega
    have hg : L.getD i [] = L[i] := by simp [List.getD_eq_getElem?_getD, q1]
    rw [run_inl (h1 i acc q1 q2)]
    have h3 := h2 i acc q1 q2 hacc
    rw [hg] at h3
    by_cases hb : L[i].length > m
    · rw [if_pos hb] at h3
      left; exact run_inr h3
    · rw [if_neg hb] at h3
      rw [run_inl h3, List.drop_eq_getElem_cons q1, List.take_succ_cons]
      rcases ih (i + 1) (acc ++ recb L[i]) (by omega) (by rw [List.length_append, length_recb, Nat.succ_mul]; omega) with h | ⟨h4, h5⟩
      · left; exact h
      · right
        refine ⟨fun a ha => ?_, ?_⟩
        · simp only [List.mem_cons] at ha
          rcases ha with rfl | ha
          · omega
          · exact h4 a ha
        · rw [h5, recsb_cons, List.append_assoc]

theorem jparts_eq (a b : List (List UInt8)) (ha : a.length < TOP) (hb : b.length < TOP) (j : Int) (hj0 : 0 ≤ j) (hj : j < 256) : g_comptoirlaw23_JournalParts (a.map slb) (b.map slb) j = some true := by
  have la : (a.map slb).length = a.length := by simp
  have lb : (b.map slb).length = b.length := by simp
  unfold TOP at ha hb
  unfold g_comptoirlaw23_JournalParts
  rw [run_inl (s := .inl (((0 : Nat) : Int), bl [])) rfl]
  rcases jp_fill (m := 200) (step := M_comptoirlaw23_JournalParts (a.map slb) (b.map slb) j) (A := fun i acc => .inl ((i : Int), bl acc)) (Bq := fun i acc => .inr (.inl ((i : Int), bl acc))) (Z := fun acc => .inr (.inr (.inl (bl acc)))) a
    (fun i acc h1 h2 => by
      have q1 : (i : Int) < a.length := by omega
      have q2 : (i : Int) < 8 := by omega
      simp only [M_comptoirlaw23_JournalParts, Tr.val_c, Tr.val_r, la, q1, q2, decide_true, cond_true])
    (fun i acc h1 h2 => by
      by_cases q1 : (i : Int) < a.length
      · have q2 : ¬ (i : Int) < 8 := by omega
        simp only [M_comptoirlaw23_JournalParts, Tr.val_c, Tr.val_r, la, q1, q2, decide_true, decide_false, cond_true, cond_false]
      · simp only [M_comptoirlaw23_JournalParts, Tr.val_c, Tr.val_r, la, q1, decide_false, cond_false])
    (fun i acc h1 h2 h3 => by
      have q1 : (i : Int) < a.length := by omega
      have q0 : (0 : Int) ≤ i := by omega
      have w : IntKind.i64.wrap ((i : Int) + 1) = ((i + 1 : Nat) : Int) := by rw [i64_wrap (by omega) (by omega)]; omega
      by_cases hl : (a.getD i []).length > 200
      · have q2 : ((bl (a.getD i [])).length : Int) > 200 := by rw [length_bl]; omega
        simp only [M_comptoirlaw23_JournalParts, Tr.val_c, Tr.val_r, val_opt, la, q0, q1, slb_getD, getXs_slb, Int.toNat_natCast, q2, awake23, if_pos hl, Option.bind_some, decide_true, cond_true]
      · have q2 : ¬ ((bl (a.getD i [])).length : Int) > 200 := by rw [length_bl]; omega
        have r := Record_eq (bl (a.getD i [])) (by rw [length_bl]; omega)
        rw [recR_bl] at r
        have l2 : (bl acc ++ bl (recb (a.getD i []))).length * 2 < 70368744177664 := by rw [← bl_append, length_bl, List.length_append, length_recb]; omega
        simp only [M_comptoirlaw23_JournalParts, Tr.val_c, Tr.val_r, val_opt, la, q0, q1, slb_getD, getXs_slb, Int.toNat_natCast, q2, r, l2, w, if_neg hl, Option.bind_some, decide_true, decide_false, beq_self_eq_true, cond_true, cond_false, bl_append])
    (min 8 a.length) 0 [] (by omega) (by simp) with h | ⟨hsa, h⟩
  · exact h
  rw [h, List.drop_zero, List.nil_append]
  have ea : a.take (min 8 a.length) = a.take 8 := by
    rcases Nat.le_total 8 a.length with h | h
    · rw [Nat.min_eq_left h]
    · rw [Nat.min_eq_right h, List.take_of_length_le (Nat.le_refl _), List.take_of_length_le h]
  have eb : b.take (min 8 b.length) = b.take 8 := by
    rcases Nat.le_total 8 b.length with h | h
    · rw [Nat.min_eq_left h]
    · rw [Nat.min_eq_right h, List.take_of_length_le (Nat.le_refl _), List.take_of_length_le h]
  rw [List.drop_zero, ea] at hsa
  rw [ea]
  clear h
  generalize hA : a.take 8 = A at *
  have lA : A.length = min 8 a.length := by rw [← hA, List.length_take]
  obtain ⟨rA, rA2⟩ := recsb_len hsa
  rw [run_inl (s := .inr (.inr (.inr (.inl (bl (recsb A), ((0 : Nat) : Int), bl []))))) rfl]
  rcases jp_fill (m := 200) (step := M_comptoirlaw23_JournalParts (a.map slb) (b.map slb) j) (A := fun i acc => .inr (.inr (.inr (.inl (bl (recsb A), (i : Int), bl acc))))) (Bq := fun i acc => .inr (.inr (.inr (.inr (.inl (bl (recsb A), (i : Int), bl acc)))))) (Z := fun acc => .inr (.inr (.inr (.inr (.inr (bl (recsb A), bl acc)))))) b
    (fun i acc h1 h2 => by
      have q1 : (i : Int) < b.length := by omega
      have q2 : (i : Int) < 8 := by omega
      simp only [M_comptoirlaw23_JournalParts, Tr.val_c, Tr.val_r, lb, q1, q2, decide_true, cond_true])
    (fun i acc h1 h2 => by
      by_cases q1 : (i : Int) < b.length
      · have q2 : ¬ (i : Int) < 8 := by omega
        simp only [M_comptoirlaw23_JournalParts, Tr.val_c, Tr.val_r, lb, q1, q2, decide_true, decide_false, cond_true, cond_false]
      · simp only [M_comptoirlaw23_JournalParts, Tr.val_c, Tr.val_r, lb, q1, decide_false, cond_false])
    (fun i acc h1 h2 h3 => by
      have q1 : (i : Int) < b.length := by omega
      have q0 : (0 : Int) ≤ i := by omega
      have w : IntKind.i64.wrap ((i : Int) + 1) = ((i + 1 : Nat) : Int) := by rw [i64_wrap (by omega) (by omega)]; omega
      by_cases hl : (b.getD i []).length > 200
      · have q2 : ((bl (b.getD i [])).length : Int) > 200 := by rw [length_bl]; omega
        simp only [M_comptoirlaw23_JournalParts, Tr.val_c, Tr.val_r, val_opt, lb, q0, q1, slb_getD, getXs_slb, Int.toNat_natCast, q2, awake23, if_pos hl, Option.bind_some, decide_true, cond_true]
      · have q2 : ¬ ((bl (b.getD i [])).length : Int) > 200 := by rw [length_bl]; omega
        have r := Record_eq (bl (b.getD i [])) (by rw [length_bl]; omega)
        rw [recR_bl] at r
        have l2 : (bl acc ++ bl (recb (b.getD i []))).length * 2 < 70368744177664 := by rw [← bl_append, length_bl, List.length_append, length_recb]; omega
        simp only [M_comptoirlaw23_JournalParts, Tr.val_c, Tr.val_r, val_opt, lb, q0, q1, slb_getD, getXs_slb, Int.toNat_natCast, q2, r, l2, w, if_neg hl, Option.bind_some, decide_true, decide_false, beq_self_eq_true, cond_true, cond_false, bl_append])
    (min 8 b.length) 0 [] (by omega) (by simp) with h | ⟨hsb, h⟩
  · exact h
  rw [h, List.drop_zero, List.nil_append]
  rw [List.drop_zero, eb] at hsb
  rw [eb]
  clear h
  generalize hB : b.take 8 = B at *
  have lB : B.length = min 8 b.length := by rw [← hB, List.length_take]
  obtain ⟨rB, rB2⟩ := recsb_len hsb
  have hn := nextR_short (r := []) (by simp)
  have s1 := Scan_recs A [] hn (by simp; omega) (by omega) (fun x hx => by have := hsa x hx; omega)
  have s2 := Scan_recs B [] hn (by simp; omega) (by omega) (fun x hx => by have := hsb x hx; omega)
  have s3 := Scan_recs (A ++ B) [] hn (by rw [recsb_append]; simp; omega) (by simp; omega) (fun x hx => by
    rcases List.mem_append.1 hx with hx | hx
    · have := hsa x hx; omega
    · have := hsb x hx; omega)
  rw [List.append_nil] at s1 s2 s3
  rw [recsb_append, bl_append] at s3
  have nj : nextR (bl ([255, 255, 255, UInt8.ofNat j.toNat] ++ recsb A)) = none := by
    unfold nextR
    have e4 : (bl ([255, 255, 255, UInt8.ofNat j.toNat] ++ recsb A)).take 4 = bl [255, 255, 255, UInt8.ofNat j.toNat] := rfl
    have hbig : 4294967040 ≤ (numOf (bl [255, 255, 255, UInt8.ofNat j.toNat])).toNat := by
      have : ∀ c : UInt8, 4294967040 ≤ (numOf (bl [255, 255, 255, c])).toNat := all_bytes (by decide +kernel)
      exact this _
    rw [e4, if_neg (fun h => by have h2 := h.2.1; rw [length_bl, List.length_append] at h2; simp at h2; omega)]
  have s4 := Scan_recs [] ([255, 255, 255, UInt8.ofNat j.toNat] ++ recsb A) nj (by simp [recsb]; simp [recsb] at rA; omega) (by simp) (fun x hx => by simp at hx)
  have ej : bl (recsb [] ++ ([255, 255, 255, UInt8.ofNat j.toNat] ++ recsb A)) = [AV.int .u8 255, .int .u8 255, .int .u8 255, .int .u8 j] ++ bl (recsb A) := by
    have : AV.int .u8 j = byte (UInt8.ofNat j.toNat) := int_byte hj0 hj
    rw [this]; rfl
  rw [ej] at s4
  have w1 : IntKind.i64.wrap (((recsb A).length : Int) + ((recsb B).length : Int)) = ((recsb A ++ recsb B).length : Int) := by
    rw [List.length_append, i64_wrap (by omega) (by omega)]; omega
  have lx : (bl (recsb A)).length * 2 < 70368744177664 := by rw [length_bl]; omega
  have ly : (bl (recsb A) ++ bl (recsb B)).length * 2 < 70368744177664 := by simp; omega
  have l1 : (A.map slb).length * 25 < 70368744177664 := by simp; omega
  have l2 : (A.map slb ++ B.map slb).length * 25 < 70368744177664 := by simp; omega
  have ss := Same_self (A.map slb ++ B.map slb) (by simp; omega)
  have fin : (((A.map slb).length : Int) == if (8 : Int) < ((a.map slb).length : Int) then 8 else ((a.map slb).length : Int)) = true := by
    rw [List.length_map, la, lA, beq_iff_eq]
    split <;> omega
  by_cases h0 : (bl (recsb A)).length = 0
  · have hx : bl (recsb A) = [] := List.eq_nil_of_length_eq_zero h0
    rw [hx, List.append_nil] at s4
    have q0 : ((bl (recsb A)).length == 0) = true := by rw [h0]; rfl
    refine run_inr ?_
    simp only [M_comptoirlaw23_JournalParts, Tr.val_c, Tr.val_r, val_opt, s1, s2, s3, s4, q0, lx, ly, l1, l2, awake23, List.map_append, ss, w1, fin, Option.bind_some, decide_true, beq_self_eq_true, Bool.true_and, cond_true]
    simp [recsb]
  · have q0 : ((bl (recsb A)).length == 0) = false := by simpa using h0
    have q1 : 0 < (bl (recsb A)).length := by omega
    have q2 : ([AV.int .u8 255, .int .u8 255, .int .u8 255, .int .u8 j] ++ bl (recsb A)).length * 2 < 70368744177664 := by simp; omega
    refine run_inr ?_
    simp only [M_comptoirlaw23_JournalParts, Tr.val_c, Tr.val_r, val_opt, s1, s2, s3, s4, q0, q1, q2, lx, ly, l1, l2, awake23, List.map_append, ss, w1, fin, Option.bind_some, decide_true, beq_self_eq_true, Bool.true_and, cond_true, cond_false]
    simp [recsb]

end Go.Proofs.Ytaejmfmamhdlhaa
