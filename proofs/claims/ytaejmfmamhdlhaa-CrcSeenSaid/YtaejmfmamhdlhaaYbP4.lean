/- What the printed functions come to, plainly. -/
import Derived.Test.YtaejmfmamhdlhaaYbG4
import Derived.Test.YtaejmfmamhdlhaaCxPl3
namespace Go.Proofs.Ytaejmfmamhdlhaa
open Go.Cx Go.Cx.AV
set_option linter.unusedSimpArgs false
set_option linter.unusedVariables false

/- slices.Concat of two. -/
theorem Grow_eq (n : Int) (h0 : 0 ≤ n) (h : n < 35184372088832) : g_slices_Grow_byte_byte n = some [] := by
  unfold g_slices_Grow_byte_byte
  have w : IntKind.i64.wrap (n - 0) = n := by rw [Int.sub_zero]; exact i64_wrap (by omega) (by omega)
  have hn0 : ¬ (n < 0) := by omega
  have hT : (T_slices_Grow_byte_byte n).val = some (.inl (.inl ())) := by simp only [T_slices_Grow_byte_byte, Tr.val_c, Tr.val_r, hn0]; rfl
  rw [run_inl hT]
  rw [run_inl (s := .inr ())]
  · exact run_inr rfl
  · simp only [M_slices_Grow_byte_byte, Tr.val_c, Tr.val_r, w, List.length_replicate]
    by_cases hn : n > 0
    · have : n.toNat * 2 < 70368744177664 := by omega
      simp [hn, this]
    · simp [hn]

theorem Concat_eq (a b : List AV) (h : a.length + b.length < 17592186044416) : g_slices_Concat_byte_byte [.slice 1 (.int .u8) a .ro, .slice 1 (.int .u8) b .ro] = some (a ++ b) := by
  have e0 : getXs (List.getD [AV.slice 1 (.int .u8) a .ro, .slice 1 (.int .u8) b .ro] (Int.toNat 0) (.slice 1 (.int .u8) [] .ro)) = a := rfl
  have e1 : getXs (List.getD [AV.slice 1 (.int .u8) a .ro, .slice 1 (.int .u8) b .ro] (Int.toNat 1) (.slice 1 (.int .u8) [] .ro)) = b := rfl
  have w0 : IntKind.i64.wrap (0 + (a.length : Int)) = a.length := by rw [Int.zero_add]; exact i64_wrap (by omega) (by omega)
  have w1 : IntKind.i64.wrap ((a.length : Int) + b.length) = ((a.length + b.length : Nat) : Int) := by rw [i64_wrap (by omega) (by omega)]; omega
  have w2 : IntKind.i64.wrap (0 + 1) = 1 := rfl
  have w3 : IntKind.i64.wrap (1 + 1) = 2 := rfl
  have n0 : ¬ ((a.length : Int) < 0) := by omega
  have n1 : ¬ (((a.length + b.length : Nat) : Int) < 0) := by omega
  have l0 : a.length * 2 < 70368744177664 := by omega
  have l1 : (a.length + b.length) * 2 < 70368744177664 := by omega
  have gr := Grow_eq (((a.length + b.length : Nat) : Int)) (by omega) (by omega)
  unfold g_slices_Concat_byte_byte
  rw [run_inl (s := .inl (0, 0)) rfl]
  rw [run_inl (s := .inl ((a.length : Int), 1)) (by simp only [M_slices_Concat_byte_byte, Tr.val_c, Tr.val_r, e0, w0, w2, n0]; rfl)]
  rw [run_inl (s := .inl (((a.length + b.length : Nat) : Int), 2)) (by simp only [M_slices_Concat_byte_byte, Tr.val_c, Tr.val_r, e1, w1, w3, n1]; rfl)]
  rw [run_inl (s := .inr ([], 0)) (by simp only [M_slices_Concat_byte_byte, Tr.val_c, Tr.val_r, gr, opt_some]; rfl)]
  rw [run_inl (s := .inr (a, 1)) (by simp only [M_slices_Concat_byte_byte, Tr.val_c, Tr.val_r, e0, w2, List.nil_append, l0, decide_true, beq_self_eq_true]; rfl)]
  rw [run_inl (s := .inr (a ++ b, 2)) (by simp only [M_slices_Concat_byte_byte, Tr.val_c, Tr.val_r, e1, w3, List.length_append, l1, decide_true, beq_self_eq_true]; rfl)]
  exact run_inr (by simp only [M_slices_Concat_byte_byte, Tr.val_c, Tr.val_r, beq_self_eq_true]; rfl)

/- the cursor -/
theorem shr8 (v : Int) : ∀ i : Nat, i < 8 → IntKind.u8.wrap (shrA .u64 v (8 * (i : Int))) = v / 256 ^ i % 256
  | 0, _ => by rw [u8_mod]; show v.fdiv 1 % 256 = _; rw [Int.fdiv_eq_ediv_of_nonneg _ (by decide)]; rfl
  | 1, _ => by rw [u8_mod]; show v.fdiv 256 % 256 = _; rw [Int.fdiv_eq_ediv_of_nonneg _ (by decide)]; rfl
  | 2, _ => by rw [u8_mod]; show v.fdiv 65536 % 256 = _; rw [Int.fdiv_eq_ediv_of_nonneg _ (by decide)]; rfl
  | 3, _ => by rw [u8_mod]; show v.fdiv 16777216 % 256 = _; rw [Int.fdiv_eq_ediv_of_nonneg _ (by decide)]; rfl
  | 4, _ => by rw [u8_mod]; show v.fdiv 4294967296 % 256 = _; rw [Int.fdiv_eq_ediv_of_nonneg _ (by decide)]; rfl
  | 5, _ => by rw [u8_mod]; show v.fdiv 1099511627776 % 256 = _; rw [Int.fdiv_eq_ediv_of_nonneg _ (by decide)]; rfl
  | 6, _ => by rw [u8_mod]; show v.fdiv 281474976710656 % 256 = _; rw [Int.fdiv_eq_ediv_of_nonneg _ (by decide)]; rfl
  | 7, _ => by rw [u8_mod]; show v.fdiv 72057594037927936 % 256 = _; rw [Int.fdiv_eq_ediv_of_nonneg _ (by decide)]; rfl
  | n + 8, h => by omega

/-- The lowest bytes of a number, the highest first. -/
def bex (v : Int) : Nat → List AV
  | 0 => []
  | i + 1 => .int .u8 (v / 256 ^ i % 256) :: bex v i
@[simp] theorem length_bex (v : Int) (i : Nat) : (bex v i).length = i := by induction i <;> simp [bex, *]

theorem set_last (r : List AV) (x y : AV) (j : Nat) : (List.replicate (j + 1) x ++ r).set j y = List.replicate j x ++ y :: r := by
  induction j with
  | zero => rfl
  | succ j ih => rw [List.replicate_succ (n := j + 1), List.cons_append, List.set_cons_succ, ih]; rfl

theorem Put_eq (x0 : List AV) (v n : Int) (m : Nat) (hx : x0.length < 8796093022208) (hm : m ≤ 8) (hn : (if 8 < (if 0 > n then 0 else n) then 8 else if 0 > n then 0 else n) = (m : Int)) : g_cursor_Put x0 v n = some (x0 ++ bex v m) := by
  unfold g_cursor_Put
  have hr : m * 2 < 70368744177664 := by omega
  have h0 : (0 : Int) ≤ m := by omega
  rw [run_inl (s := ((m : Int), (m : Int), List.replicate m (.int .u8 0), 0))]
  rotate_left
  · simp only [T_cursor_Put, Tr.val_c, Tr.val_r, hn, h0, Int.toNat_natCast, List.length_replicate, hr, decide_true, cond_true, beq_self_eq_true]
  have key : ∀ k i, i + k = m → run (M_cursor_Put x0 v n) (M_cursor_Put x0 v n ((m : Int), (m : Int), List.replicate k (.int .u8 0) ++ bex v i, (i : Int))) = some (x0 ++ bex v m) := by
    intro k
    induction k with
    | zero =>
      intro i hi
      have : i = m := by omega
      subst this
      have hlt : ¬ ((i : Int) < i) := by omega
      have hc := Concat_eq x0 (bex v i) (by simp; omega)
      exact run_inr (by simp only [M_cursor_Put, Tr.val_c, Tr.val_r, hlt, List.replicate_zero, List.nil_append, val_opt, hc, Option.bind_some, decide_false, cond_false, beq_self_eq_true, cond_true])
    | succ k ih =>
      intro i hi
      have q1 : (i : Int) < m := by omega
      have w1 : IntKind.i64.wrap (8 * (i : Int)) = 8 * i := i64_wrap (by omega) (by omega)
      have w2 : IntKind.i64.wrap ((m : Int) - 1) = m - 1 := i64_wrap (by omega) (by omega)
      have w3 : IntKind.i64.wrap ((m : Int) - 1 - i) = (k : Int) := by rw [i64_wrap (by omega) (by omega)]; omega
      have w4 : IntKind.i64.wrap ((i : Int) + 1) = ((i + 1 : Nat) : Int) := by rw [i64_wrap (by omega) (by omega)]; omega
      have q2 : (0 : Int) ≤ 8 * i := by omega
      have q3 : (0 : Int) ≤ k := by omega
      have hl : (List.replicate (k + 1) (AV.int .u8 0) ++ bex v i).length = m := by simp; omega
      have hl2 : (List.replicate k (AV.int .u8 0) ++ AV.int .u8 (v / 256 ^ i % 256) :: bex v i).length = m := by simp; omega
      have q4 : (k : Int) < m := by omega
      have q5 : k < m := by omega
      rw [run_inl (s := ((m : Int), (m : Int), List.replicate k (.int .u8 0) ++ bex v (i + 1), ((i + 1 : Nat) : Int)))]
      · exact ih (i + 1) (by omega)
      · simp only [M_cursor_Put, Tr.val_c, Tr.val_r, q1, w1, w2, w3, w4, q2, q3, q4, q5, hl, Int.toNat_natCast, shr8 v i (by omega), decide_true, cond_true, beq_self_eq_true, set_last, hl2]
        rfl
  have := key m 0 (by omega)
  simpa [bex] using this

theorem take_eq (n : Int) (b : List AV) (k : Nat) (hk : k ≤ b.length) (hb : b.length < 8796093022208) :
    g_cursor_Cursor_take_p0500 n b k = some (if n < 0 then ([], 1, b, (k : Int)) else if n > b.length - k then ([], 3, b, (k : Int)) else ((b.drop k).take n.toNat, 0, b, (k : Int) + n)) := by
  unfold g_cursor_Cursor_take_p0500
  have w0 : IntKind.i64.wrap ((b.length : Int) - k) = b.length - k := i64_wrap (by omega) (by omega)
  by_cases h1 : n < 0
  · simp only [T_cursor_Cursor_take_p0500, Tr.val_c, Tr.val_r, h1, decide_true, cond_true, if_true]
  · by_cases h2 : n > (b.length : Int) - k
    · simp only [T_cursor_Cursor_take_p0500, Tr.val_c, Tr.val_r, h1, h2, w0, decide_true, decide_false, cond_true, cond_false, if_true, if_false]
    · have w1 : IntKind.i64.wrap ((k : Int) + n) = k + n := i64_wrap (by omega) (by omega)
      have w2 : IntKind.i64.wrap ((k : Int) + n - n) = k := by rw [i64_wrap (by omega) (by omega)]; omega
      have q1 : (0 : Int) ≤ k + n := by omega
      have q2 : (k : Int) + n ≤ b.length := by omega
      have q3 : (0 : Int) ≤ k := by omega
      have q4 : (k : Int) ≤ k + n := by omega
      have hd : ((b.take ((k : Int) + n).toNat).drop (k : Int).toNat) = (b.drop k).take n.toNat := by
        rw [List.drop_take]; congr 1; omega
      simp only [T_cursor_Cursor_take_p0500, Tr.val_c, Tr.val_r, h1, h2, w0, w1, w2, q1, q2, q3, q4, hd, decide_true, decide_false, cond_true, cond_false, if_false]

theorem read_eq (n : Int) (b : List AV) (k : Int) : g_cursor_read_ftake_0p500 n b k = g_cursor_Cursor_take_p0500 n b k := by
  conv => lhs; unfold g_cursor_read_ftake_0p500
  simp only [T_cursor_read_ftake_0p500, Tr.val_c, Tr.val_r, val_opt]
  cases g_cursor_Cursor_take_p0500 n b k <;> rfl

/-- The number that bytes are. -/
def numOf (l : List AV) : Int := l.foldl (fun a x => bitsA .or .u64 (shlA .u64 a 8) (IntKind.u64.wrap (getI x))) 0

theorem Number_eq (n : Int) (b : List AV) (k : Nat) (hk : k ≤ b.length) (hb : b.length < 8796093022208) :
    g_cursor_Cursor_Number_p0500 n b k = some (if n < 1 then (0, 1, b, (k : Int)) else if n > 8 then (0, 1, b, (k : Int)) else if n > b.length - k then (0, 3, b, (k : Int)) else (numOf ((b.drop k).take n.toNat), 0, b, (k : Int) + n)) := by
  unfold g_cursor_Cursor_Number_p0500
  by_cases h1 : n < 1
  · rw [run_inr (x := (0, 1, b, (k : Int))) (by simp only [T_cursor_Cursor_Number_p0500, Tr.val_c, Tr.val_r, h1, decide_true, cond_true])]
    simp [h1]
  by_cases h2 : n > 8
  · rw [run_inr (x := (0, 1, b, (k : Int))) (by simp only [T_cursor_Cursor_Number_p0500, Tr.val_c, Tr.val_r, h1, h2, decide_true, decide_false, cond_true, cond_false])]
    simp [h1, h2]
  have loop : ∀ (e : Int) (l : List AV) (b2 : List AV) (at' : Int), l.length < 8796093022208 → ∀ m i v, i + m = l.length → run (M_cursor_Cursor_Number_p0500 n b k) (M_cursor_Cursor_Number_p0500 n b k (e, l, (l.length : Int), b2, at', v, (i : Int))) =
      some ((l.drop i).foldl (fun a x => bitsA .or .u64 (shlA .u64 a 8) (IntKind.u64.wrap (getI x))) v, e, b2, at') := by
    intro e l b2 at' hl m
    induction m with
    | zero =>
      intro i v hi
      have hlt : ¬ ((i : Int) < l.length) := by omega
      rw [List.drop_of_length_le (by omega)]
      exact run_inr (by simp only [M_cursor_Cursor_Number_p0500, Tr.val_c, Tr.val_r, hlt, decide_false, cond_false]; rfl)
    | succ m ih =>
      intro i v hi
      have q1 : (i : Int) < l.length := by omega
      have q2 : (0 : Int) ≤ i := by omega
      have q3 : i < l.length := by omega
      have w : IntKind.i64.wrap ((i : Int) + 1) = ((i + 1 : Nat) : Int) := by rw [i64_wrap (by omega) (by omega)]; omega
      have hg : l.getD i (.int .u8 0) = l[i] := by simp [List.getD_eq_getElem?_getD, q3]
      rw [run_inl (s := (e, l, (l.length : Int), b2, at', bitsA .or .u64 (shlA .u64 v 8) (IntKind.u64.wrap (getI l[i])), ((i + 1 : Nat) : Int))) (by simp only [M_cursor_Cursor_Number_p0500, Tr.val_c, Tr.val_r, q1, q2, w, hg, Int.toNat_natCast, decide_true, cond_true]), ih (i + 1) _ (by omega), List.drop_eq_getElem_cons q3, List.foldl_cons]
  have ht := take_eq n b k hk hb
  have h0 : ¬ n < 0 := by omega
  by_cases h3 : n > (b.length : Int) - k
  · rw [run_inl (s := (3, [], ((([] : List AV).length : Nat) : Int), b, (k : Int), 0, ((0 : Nat) : Int)))]
    · rw [loop 3 [] b k (by simp) 0 0 0 rfl]
      simp [h1, h2, h3]
    · simp only [T_cursor_Cursor_Number_p0500, Tr.val_c, Tr.val_r, val_opt, h1, h2, h0, h3, read_eq, ht, Option.bind_some, if_true, if_false, decide_false, cond_false]
      rfl
  · rw [run_inl (s := (0, (b.drop k).take n.toNat, ((((b.drop k).take n.toNat).length : Nat) : Int), b, (k : Int) + n, 0, ((0 : Nat) : Int)))]
    · rw [loop 0 _ b _ (by simp only [List.length_take, List.length_drop]; omega) ((b.drop k).take n.toNat).length 0 0 (by omega)]
      simp only [h1, h2, h3, if_false, List.drop_zero, numOf]
    · simp only [T_cursor_Cursor_Number_p0500, Tr.val_c, Tr.val_r, val_opt, h1, h2, h0, h3, read_eq, ht, Option.bind_some, if_true, if_false, decide_false, cond_false]
      rfl

theorem New_eq (b : List AV) (hb : b.length < 8796093022208) : g_cursor_New b = some (b, 0) := by
  have : b.length * 2 < 70368744177664 := by omega
  unfold g_cursor_New
  simp only [T_cursor_New, Tr.val_c, Tr.val_r, this, decide_true, cond_true]


theorem Take_eq (n : Int) (b : List AV) (k : Nat) (hk : k ≤ b.length) (hb : b.length < 8796093022208) :
    g_cursor_Cursor_Take_p0500 n b k = some (if n < 0 then ([], 1, b, (k : Int)) else if n > b.length - k then ([], 3, b, (k : Int)) else ((b.drop k).take n.toNat, 0, b, (k : Int) + n)) := by
  have h := take_eq n b k hk hb
  have hl : ∀ m : Nat, ((b.drop k).take m).length * 2 < 70368744177664 := by
    intro m; simp only [List.length_take, List.length_drop]; omega
  unfold g_cursor_Cursor_Take_p0500
  simp only [T_cursor_Cursor_Take_p0500, Tr.val_c, Tr.val_r, val_opt, read_eq, h, Option.bind_some]
  by_cases h1 : n < 0
  · simp [h1]
  · by_cases h2 : n > (b.length : Int) - k
    · simp [h1, h2]
    · simp only [h1, h2, if_false, hl, decide_true, cond_true]


theorem foldl_bex (v : Nat) : ∀ (i a : Nat), i ≤ 8 → a < 256 ^ (8 - i) → (bex (v : Int) i).foldl (fun a x => bitsA .or .u64 (shlA .u64 a 8) (IntKind.u64.wrap (getI x))) (a : Int) = ((a * 256 ^ i + v % 256 ^ i : Nat) : Int)
  | 0, a, _, _ => by
    show (a : Int) = _
    rw [Nat.pow_zero, Nat.mod_one, Nat.mul_one, Nat.add_zero]
  | i + 1, a, hi, ha => by
    have e8 : 8 - i = (8 - (i + 1)) + 1 := by omega
    have hp : 256 ^ (8 - i) = 256 * 256 ^ (8 - (i + 1)) := by rw [e8, Nat.pow_succ, Nat.mul_comm]
    have h7 : 256 ^ (8 - (i + 1)) ≤ 256 ^ 7 := Nat.pow_le_pow_right (by omega) (by omega)
    have hy : v / 256 ^ i % 256 < 256 := Nat.mod_lt _ (by omega)
    have hb := byte_behind (a := a) (y := v / 256 ^ i % 256) (by omega) hy
    have hc : ((v : Int) / 256 ^ i % 256) = ((v / 256 ^ i % 256 : Nat) : Int) := by rw [Int.natCast_emod, Int.natCast_ediv, Int.natCast_pow]; rfl
    rw [bex, List.foldl_cons, getI_int, hc, hb, foldl_bex v i _ (by omega) (by rw [hp]; omega)]
    congr 1
    rw [Nat.pow_succ, Nat.mod_mul, Nat.add_mul, Nat.mul_assoc, Nat.mul_comm 256 (256 ^ i), Nat.mul_comm (v / 256 ^ i % 256)]
    omega

theorem numOf_bex (v n : Nat) (hn : n ≤ 8) : numOf (bex (v : Int) n) = ((v % 256 ^ n : Nat) : Int) := by
  have := foldl_bex v n 0 hn (Nat.pow_pos (by omega))
  unfold numOf
  rw [Nat.zero_mul, Nat.zero_add] at this
  exact this

/- sums over bytes -/
def cb (c : Nat) : Nat := if c % 2 = 1 then (c / 2) ^^^ 3988292384 else c / 2
def cbs : Nat → Nat → Nat
  | 0, c => c
  | k + 1, c => cbs k (cb c)
theorem cb_lt {c : Nat} (h : c < 4294967296) : cb c < 4294967296 := by
  unfold cb
  split
  · exact Nat.xor_lt_two_pow (n := 32) (by omega) (by omega)
  · omega
theorem cbs_lt : ∀ (k : Nat) {c : Nat}, c < 4294967296 → cbs k c < 4294967296
  | 0, _, h => h
  | k + 1, _, h => cbs_lt k (cb_lt h)
/-- One byte more. -/
def crc1 (c : Nat) (y : AV) : Nat := cbs 8 (c ^^^ (IntKind.u32.wrap (getI y)).toNat)
theorem u32_nat (n : Int) : ((IntKind.u32.wrap n).toNat : Int) = IntKind.u32.wrap n ∧ (IntKind.u32.wrap n).toNat < 4294967296 := by
  rw [u32_mod]; omega
theorem xor_lt32 {a b : Nat} (ha : a < 4294967296) (hb : b < 4294967296) : a ^^^ b < 4294967296 := Nat.xor_lt_two_pow (n := 32) ha hb
theorem crc1_lt {c : Nat} (y : AV) (h : c < 4294967296) : crc1 c y < 4294967296 := cbs_lt 8 (xor_lt32 h (u32_nat _).2)
theorem crcF_lt : ∀ (l : List AV) {c : Nat}, c < 4294967296 → l.foldl crc1 c < 4294967296
  | [], _, h => h
  | y :: l, _, h => crcF_lt l (crc1_lt y h)
def crcN (l : List AV) : Nat := (l.foldl crc1 4294967295) ^^^ 4294967295
theorem crcN_lt (l : List AV) : crcN l < 4294967296 := xor_lt32 (crcF_lt l (by omega)) (by omega)
theorem xor32' {X Y : Nat} (hX : X < 4294967296) (hY : Y < 4294967296) : bitsA .xor .u32 (X : Int) (Y : Int) = ((X ^^^ Y : Nat) : Int) := xor32 hX hY

theorem step_eq (x : Int) (c : Nat) (hc : c < 4294967296) : g_crc_sum_step_p050 x (c : Int) = some ((cbs 8 (c ^^^ (IntKind.u32.wrap x).toNat) : Nat) : Int) := by
  obtain ⟨u1, u2⟩ := u32_nat x
  unfold g_crc_sum_step_p050
  have h0 : bitsA .xor .u32 (c : Int) (IntKind.u32.wrap x) = ((c ^^^ (IntKind.u32.wrap x).toNat : Nat) : Int) := by rw [← xor32' hc u2, u1]
  rw [run_inl (s := (((0 : Nat) : Int), ((c ^^^ (IntKind.u32.wrap x).toNat : Nat) : Int))) (by simp only [T_crc_sum_step_p050, Tr.val_r, h0]; rfl)]
  have key : ∀ k i d : Nat, i + k = 8 → d < 4294967296 → run (M_crc_sum_step_p050 x (c : Int)) (M_crc_sum_step_p050 x (c : Int) ((i : Int), (d : Int))) = some ((cbs k d : Nat) : Int) := by
    intro k
    induction k with
    | zero =>
      intro i d hi hd
      have q : ¬ ((i : Int) < 8) := by omega
      exact run_inr (by simp only [M_crc_sum_step_p050, Tr.val_c, Tr.val_r, q, decide_false, cond_false]; rfl)
    | succ k ih =>
      intro i d hi hd
      have q : (i : Int) < 8 := by omega
      have w : IntKind.i64.wrap ((i : Int) + 1) = ((i + 1 : Nat) : Int) := by rw [i64_wrap (by omega) (by omega)]; omega
      have o := odd32 (X := d) hd
      have hf := half32 d
      by_cases h1 : d % 2 = 1
      · have x1 : bitsA .xor .u32 ((d / 2 : Nat) : Int) 3988292384 = ((d / 2 ^^^ 3988292384 : Nat) : Int) := xor32' (Y := 3988292384) (by omega) (by omega)
        have e : (((d % 2 : Nat) : Int) == 1) = true := by rw [h1]; rfl
        have hb : cb d = d / 2 ^^^ 3988292384 := by unfold cb; rw [if_pos h1]
        rw [run_inl (s := (((i + 1 : Nat) : Int), ((cb d : Nat) : Int))) (by simp only [M_crc_sum_step_p050, Tr.val_c, Tr.val_r, q, w, o, hf, x1, e, hb, decide_true, cond_true])]
        exact ih (i + 1) (cb d) (by omega) (cb_lt hd)
      · have e : (((d % 2 : Nat) : Int) == 1) = false := by
          have : d % 2 = 0 := by omega
          rw [this]; rfl
        have hb : cb d = d / 2 := by unfold cb; rw [if_neg h1]
        rw [run_inl (s := (((i + 1 : Nat) : Int), ((cb d : Nat) : Int))) (by simp only [M_crc_sum_step_p050, Tr.val_c, Tr.val_r, q, w, o, hf, e, hb, decide_true, cond_true, cond_false])]
        exact ih (i + 1) (cb d) (by omega) (cb_lt hd)
  exact key 8 0 _ rfl (xor_lt32 hc u2)

theorem each_eq (A : List AV) (hA : A.length < 8796093022208) : g_crc_each_0fstep_p50 A 4294967295 = some ((A.foldl crc1 4294967295 : Nat) : Int) := by
  unfold g_crc_each_0fstep_p50
  rw [run_inl (s := (((0 : Nat) : Int), ((4294967295 : Nat) : Int))) rfl]
  have key : ∀ k i d : Nat, i + k = A.length → d < 4294967296 → run (M_crc_each_0fstep_p50 A 4294967295) (M_crc_each_0fstep_p50 A 4294967295 ((i : Int), (d : Int))) = some (((A.drop i).foldl crc1 d : Nat) : Int) := by
    intro k
    induction k with
    | zero =>
      intro i d hi hd
      have q : ¬ ((i : Int) < A.length) := by omega
      rw [List.drop_of_length_le (by omega)]
      exact run_inr (by simp only [M_crc_each_0fstep_p50, Tr.val_c, Tr.val_r, q, decide_false, cond_false]; rfl)
    | succ k ih =>
      intro i d hi hd
      have q : (i : Int) < A.length := by omega
      have q2 : (0 : Int) ≤ i := by omega
      have q3 : i < A.length := by omega
      have w : IntKind.i64.wrap ((i : Int) + 1) = ((i + 1 : Nat) : Int) := by rw [i64_wrap (by omega) (by omega)]; omega
      have hg : A.getD i (.int .u8 0) = A[i] := by simp [List.getD_eq_getElem?_getD, q3]
      have hs := step_eq (getI A[i]) d hd
      rw [run_inl (s := (((i + 1 : Nat) : Int), ((crc1 d A[i] : Nat) : Int))) (by simp only [M_crc_each_0fstep_p50, Tr.val_c, Tr.val_r, val_opt, q, q2, w, hg, Int.toNat_natCast, hs, Option.bind_some, decide_true, cond_true]; rfl), ih (i + 1) _ (by omega) (crc1_lt _ hd), List.drop_eq_getElem_cons q3, List.foldl_cons]
  have := key A.length 0 4294967295 (by omega) (by omega)
  rwa [List.drop_zero] at this

theorem Of_eq (A : List AV) (hA : A.length < 8796093022208) : g_crc_Of A = some ((crcN A : Nat) : Int) := by
  have x1 : bitsA .xor .u32 ((A.foldl crc1 4294967295 : Nat) : Int) 4294967295 = ((crcN A : Nat) : Int) := xor32' (Y := 4294967295) (crcF_lt A (by omega)) (by omega)
  unfold g_crc_Of
  simp only [T_crc_Of, Tr.val_r, val_opt, each_eq A hA, Option.bind_some, x1]

theorem u64_crc (A : List AV) : IntKind.u64.wrap ((crcN A : Nat) : Int) = ((crcN A : Nat) : Int) := by
  have := crcN_lt A
  exact u64_wrap (by omega) (by omega)

theorem Seal_eq (A : List AV) (hA : A.length < 8796093022208) : g_crc_Seal A = some (A ++ bex ((crcN A : Nat) : Int) 4) := by
  have p := Put_eq A ((crcN A : Nat) : Int) 4 4 hA (by omega) (by decide)
  unfold g_crc_Seal
  simp only [T_crc_Seal, Tr.val_r, val_opt, Of_eq A hA, u64_crc, p, Option.bind_some]

/-- What opens. -/
noncomputable def openR (A : List AV) : List AV × Int :=
  if A.length < 4 then ([], 3) else if IntKind.u32.wrap (numOf (A.drop (A.length - 4))) = ((crcN (A.take (A.length - 4)) : Nat) : Int) then (A.take (A.length - 4), 0) else ([], 8)

theorem Open_eq (A : List AV) (hA : A.length < 8796093022208) : g_crc_Open A = some (openR A) := by
  have w0 : IntKind.i64.wrap ((A.length : Int) - 4) = (A.length : Int) - 4 := i64_wrap (by omega) (by omega)
  have nw := New_eq A hA
  unfold g_crc_Open openR
  by_cases h4 : A.length < 4
  · have q : (if (0 : Int) > (A.length : Int) - 4 then (0 : Int) else (A.length : Int) - 4) = 0 := if_pos (by omega)
    have t := Take_eq 0 A 0 (by omega) hA
    rw [if_neg (by omega), if_neg (by omega), show ((0 : Nat) : Int) + 0 = ((0 : Nat) : Int) from rfl] at t
    have n := Number_eq 4 A 0 (by omega) hA
    rw [if_neg (by decide), if_neg (by decide), if_pos (by omega)] at n
    have t' : g_cursor_Cursor_Take_p0500 0 A 0 = _ := t
    have n' : g_cursor_Cursor_Number_p0500 4 A ((0 : Nat) : Int) = _ := n
    rw [if_pos h4]
    simp only [T_crc_Open, Tr.val_c, Tr.val_r, val_opt, w0, q, nw, t', n', Option.bind_some, bne_self_eq_false, cond_false]
    rfl
  · have q : (if (0 : Int) > (A.length : Int) - 4 then (0 : Int) else (A.length : Int) - 4) = ((A.length - 4 : Nat) : Int) := by rw [if_neg (by omega)]; omega
    have t := Take_eq ((A.length - 4 : Nat) : Int) A 0 (by omega) hA
    rw [if_neg (by omega), if_neg (by omega), show ((0 : Nat) : Int) + ((A.length - 4 : Nat) : Int) = ((A.length - 4 : Nat) : Int) by omega, List.drop_zero, Int.toNat_natCast] at t
    have n := Number_eq 4 A (A.length - 4) (by omega) hA
    rw [if_neg (by decide), if_neg (by decide), if_neg (by omega)] at n
    have hd : (A.drop (A.length - 4)).take (4 : Int).toNat = A.drop (A.length - 4) := List.take_of_length_le (by rw [List.length_drop, show (4 : Int).toNat = 4 from rfl]; omega)
    rw [hd] at n
    have t' : g_cursor_Cursor_Take_p0500 ((A.length - 4 : Nat) : Int) A 0 = _ := t
    have o := Of_eq (A.take (A.length - 4)) (by rw [List.length_take]; omega)
    rw [if_neg h4]
    by_cases he : IntKind.u32.wrap (numOf (A.drop (A.length - 4))) = ((crcN (A.take (A.length - 4)) : Nat) : Int)
    · rw [if_pos he]
      simp only [T_crc_Open, Tr.val_c, Tr.val_r, val_opt, w0, q, nw, t', n, o, he, Option.bind_some, bne_self_eq_false, cond_false]
    · have he' : (IntKind.u32.wrap (numOf (A.drop (A.length - 4))) != ((crcN (A.take (A.length - 4)) : Nat) : Int)) = true := by simpa using he
      rw [if_neg he]
      simp only [T_crc_Open, Tr.val_c, Tr.val_r, val_opt, w0, q, nw, t', n, o, he', Option.bind_some, bne_self_eq_false, cond_false, cond_true]


theorem awake05 : g_comptoirlaw05_awake = some true := by
  have s := Seal_eq [.int .u8 7] (by simp)
  have o := Open_eq ([AV.int .u8 7] ++ bex ((crcN [.int .u8 7] : Nat) : Int) 4) (by simp)
  have f := Of_eq [.int .u8 49, .int .u8 50, .int .u8 51, .int .u8 52, .int .u8 53, .int .u8 54, .int .u8 55, .int .u8 56, .int .u8 57] (by simp)
  have e1 : openR ([AV.int .u8 7] ++ bex ((crcN [.int .u8 7] : Nat) : Int) 4) = ([.int .u8 7], 0) := by kernel_rfl
  have e2 : ((crcN [AV.int .u8 49, .int .u8 50, .int .u8 51, .int .u8 52, .int .u8 53, .int .u8 54, .int .u8 55, .int .u8 56, .int .u8 57] : Nat) : Int) = 3421780262 := by kernel_rfl
  rw [e1] at o
  rw [e2] at f
  unfold g_comptoirlaw05_awake
  simp only [T_comptoirlaw05_awake, Tr.val_c, Tr.val_r, val_opt, s, o, f, Option.bind_some, beq_self_eq_true, cond_true]
  rfl

/- sums are linear -/
theorem cb_xor (a b : Nat) : cb (a ^^^ b) = cb a ^^^ cb b := by
  have hd : (a ^^^ b) / 2 = a / 2 ^^^ b / 2 := Nat.xor_div_two
  have hm : (a ^^^ b) % 2 = 1 ↔ ¬ (a % 2 = 1 ↔ b % 2 = 1) := Nat.xor_mod_two_eq_one
  have k : ∀ x y K : Nat, (x ^^^ K) ^^^ (y ^^^ K) = x ^^^ y := fun x y K => by
    rw [Nat.xor_assoc, Nat.xor_comm y K, ← Nat.xor_assoc K K y, Nat.xor_self, Nat.zero_xor]
  unfold cb
  by_cases ha : a % 2 = 1 <;> by_cases hb : b % 2 = 1
  · rw [if_neg (by rw [hm]; simp [ha, hb]), if_pos ha, if_pos hb, hd, k]
  · rw [if_pos (by rw [hm]; simp [ha, hb]), if_pos ha, if_neg hb, hd, Nat.xor_assoc, Nat.xor_assoc, Nat.xor_comm (b / 2)]
  · rw [if_pos (by rw [hm]; simp [ha, hb]), if_neg ha, if_pos hb, hd, Nat.xor_assoc]
  · rw [if_neg (by rw [hm]; simp [ha, hb]), if_neg ha, if_neg hb, hd]
theorem cbs_xor : ∀ (k a b : Nat), cbs k (a ^^^ b) = cbs k a ^^^ cbs k b
  | 0, _, _ => rfl
  | k + 1, a, b => by rw [cbs, cb_xor, cbs_xor k]; rfl
theorem cbs_add : ∀ (j k a : Nat), cbs (j + k) a = cbs k (cbs j a)
  | 0, k, a => by rw [Nat.zero_add]; rfl
  | j + 1, k, a => by rw [show j + 1 + k = (j + k) + 1 by omega, cbs, cbs_add j k]; rfl
theorem cbs_shift : ∀ (k a : Nat), cbs k (2 ^ k * a) = a
  | 0, a => by simp [cbs]
  | k + 1, a => by
    have e : 2 ^ (k + 1) * a = 2 * (2 ^ k * a) := by rw [Nat.pow_succ, Nat.mul_comm (2 ^ k) 2, Nat.mul_assoc]
    have h : cb (2 * (2 ^ k * a)) = 2 ^ k * a := by
      unfold cb
      rw [if_neg (by omega)]; omega
    rw [cbs, e, h, cbs_shift k a]
/-- Eight steps at a number: those at its lowest byte, and the others moved down. -/
theorem cbs_byte (v : Nat) : cbs 8 v = cbs 8 (v % 256) ^^^ v / 256 := by
  have h := Nat.two_pow_add_eq_or_of_lt (i := 8) (b := v % 256) (by omega) (v / 256)
  have e : v = (2 ^ 8 * (v / 256)) ^^^ (v % 256) := by
    have h2 : 2 ^ 8 * (v / 256) ^^^ v % 256 = 2 ^ 8 * (v / 256) ||| v % 256 := by
      apply Nat.eq_of_testBit_eq
      intro i
      rw [Nat.testBit_xor, Nat.testBit_or]
      by_cases hi : i < 8
      · have : (2 ^ 8 * (v / 256)).testBit i = false := by rw [Nat.testBit_two_pow_mul]; simp; omega
        rw [this]; simp
      · have : (v % 256).testBit i = false := Nat.testBit_lt_two_pow (Nat.lt_of_lt_of_le (Nat.mod_lt _ (by omega)) (show 2 ^ 8 ≤ 2 ^ i from Nat.pow_le_pow_right (by omega) (by omega)))
        rw [this]; simp
    rw [h2, ← h]; omega
  conv => lhs; rw [e]
  rw [cbs_xor, cbs_shift, Nat.xor_comm]

theorem cb_inj {a b : Nat} (ha : a < 4294967296) (hb : b < 4294967296) (h : cb a = cb b) : a = b := by
  have t : ∀ x y : Nat, x < 4294967296 → y < 4294967296 → x / 2 ^^^ 3988292384 ≠ y / 2 := by
    intro x y hx hy e
    have e2 := congrArg (fun z => Nat.testBit z 31) e
    simp only [Nat.testBit_xor] at e2
    rw [Nat.testBit_lt_two_pow (x := x / 2) (i := 31) (by omega), Nat.testBit_lt_two_pow (x := y / 2) (i := 31) (by omega)] at e2
    revert e2; decide
  unfold cb at h
  by_cases h1 : a % 2 = 1 <;> by_cases h2 : b % 2 = 1
  · rw [if_pos h1, if_pos h2] at h
    have : a / 2 = b / 2 := by
      have := congrArg (· ^^^ 3988292384) h
      simp only [Nat.xor_assoc, Nat.xor_self, Nat.xor_zero] at this
      exact this
    omega
  · rw [if_pos h1, if_neg h2] at h
    exact absurd h (t a b ha hb)
  · rw [if_neg h1, if_pos h2] at h
    exact absurd h.symm (t b a hb ha)
  · rw [if_neg h1, if_neg h2] at h
    omega
theorem cbs_inj : ∀ (k : Nat) {a b : Nat}, a < 4294967296 → b < 4294967296 → cbs k a = cbs k b → a = b
  | 0, _, _, _, _, h => h
  | k + 1, _, _, ha, hb, h => cb_inj ha hb (cbs_inj k (cb_lt ha) (cb_lt hb) h)
theorem xor_inj {a b K : Nat} (h : a ^^^ K = b ^^^ K) : a = b := by
  have := congrArg (· ^^^ K) h
  simp only [Nat.xor_assoc, Nat.xor_self, Nat.xor_zero] at this
  exact this
theorem crc1_inj {a b : Nat} (y : AV) (ha : a < 4294967296) (hb : b < 4294967296) (h : crc1 a y = crc1 b y) : a = b :=
  xor_inj (cbs_inj 8 (xor_lt32 ha (u32_nat _).2) (xor_lt32 hb (u32_nat _).2) h)
theorem crcF_inj : ∀ (l : List AV) {a b : Nat}, a < 4294967296 → b < 4294967296 → l.foldl crc1 a = l.foldl crc1 b → a = b
  | [], _, _, _, _, h => h
  | y :: l, _, _, ha, hb, h => crc1_inj y ha hb (crcF_inj l (crc1_lt y ha) (crc1_lt y hb) h)
theorem crc1_nat (c n : Nat) (h : n < 4294967296) : crc1 c (.int .u8 (n : Int)) = cbs 8 (c ^^^ n) := by
  unfold crc1
  rw [getI_int, u32_wrap (by omega) (by omega), Int.toNat_natCast]
/-- Four bytes, the lowest first, are as if all came at once. -/
theorem crc4 (s v : Nat) (hv : v < 4294967296) : [AV.int .u8 ((v % 256 : Nat) : Int), .int .u8 ((v / 256 % 256 : Nat) : Int), .int .u8 ((v / 65536 % 256 : Nat) : Int), .int .u8 ((v / 16777216 % 256 : Nat) : Int)].foldl crc1 s = cbs 32 (s ^^^ v) := by
  have b1 := cbs_byte v
  have b2 := cbs_byte (v / 256)
  have b3 := cbs_byte (v / 65536)
  have b4 := cbs_byte (v / 16777216)
  rw [show v / 256 / 256 = v / 65536 by omega] at b2
  rw [show v / 65536 / 256 = v / 16777216 by omega] at b3
  rw [show v / 16777216 / 256 = 0 by omega, Nat.xor_zero] at b4
  simp only [List.foldl_cons, List.foldl_nil]
  rw [crc1_nat _ _ (by omega), crc1_nat _ _ (by omega), crc1_nat _ _ (by omega), crc1_nat _ _ (by omega)]
  rw [show (32 : Nat) = 8 + (8 + (8 + 8)) from rfl, cbs_add, cbs_add, cbs_add, cbs_xor 8 s v, b1, ← Nat.xor_assoc (cbs 8 s), ← cbs_xor 8 s, cbs_xor 8 _ (v / 256), b2, ← Nat.xor_assoc, ← cbs_xor 8, cbs_xor 8 _ (v / 65536), b3, ← Nat.xor_assoc, ← cbs_xor 8, cbs_xor 8 _ (v / 16777216), b4, ← cbs_xor 8]

/- what is left of a word whose sum is wrong -/
theorem foldl_xor (l : List AV) : ∀ (c d : Nat), l.foldl crc1 (c ^^^ d) = l.foldl crc1 c ^^^ cbs (8 * l.length) d := by
  induction l with
  | nil => intro c d; rfl
  | cons y l ih =>
    intro c d
    have e : crc1 (c ^^^ d) y = crc1 c y ^^^ cbs 8 d := by
      unfold crc1
      rw [← cbs_xor]; congr 1
      rw [Nat.xor_assoc, Nat.xor_assoc, Nat.xor_comm d]
    rw [List.foldl_cons, List.foldl_cons, e, ih, List.length_cons, show 8 * (l.length + 1) = 8 + 8 * l.length by omega, cbs_add]

theorem crc1_flip (c a e : Nat) (ha : a < 256) (he : e < 256) : crc1 c (.int .u8 ((a ^^^ e : Nat) : Int)) = crc1 c (.int .u8 (a : Int)) ^^^ cbs 8 e := by
  have hx : a ^^^ e < 256 := Nat.xor_lt_two_pow (n := 8) ha he
  rw [crc1_nat _ _ (by omega), crc1_nat _ _ (by omega), ← cbs_xor, Nat.xor_assoc]

theorem foldl_flip : ∀ (l : List AV) (p c a e : Nat), a < 256 → e < 256 → l[p]? = some (.int .u8 (a : Int)) →
    (l.set p (.int .u8 ((a ^^^ e : Nat) : Int))).foldl crc1 c = l.foldl crc1 c ^^^ cbs (8 * (l.length - p)) e
  | [], p, c, a, e, _, _, h => by simp at h
  | y :: l, 0, c, a, e, ha, he, h => by
    simp at h; subst h
    rw [List.set_cons_zero, List.foldl_cons, List.foldl_cons, crc1_flip c a e ha he, foldl_xor, ← cbs_add, List.length_cons]
    congr 2; omega
  | y :: l, p + 1, c, a, e, ha, he, h => by
    rw [List.set_cons_succ, List.foldl_cons, List.foldl_cons, foldl_flip l p _ a e ha he (by simpa using h), List.length_cons]
    congr 2; omega

/-- Four bytes as a number. -/
def num4 (a b c d : Nat) : Nat := ((a * 256 + b) * 256 + c) * 256 + d
theorem behind_xor {a b x y : Nat} (hb : b < 256) (hy : y < 256) : (a * 256 + b) ^^^ (x * 256 + y) = (a ^^^ x) * 256 + (b ^^^ y) := by
  have hx : b ^^^ y < 256 := Nat.xor_lt_two_pow (n := 8) hb hy
  apply Nat.eq_of_testBit_eq
  intro i
  have h1 : a * 256 + b = 2 ^ 8 * a + b := by rw [Nat.mul_comm]
  have h2 : x * 256 + y = 2 ^ 8 * x + y := by rw [Nat.mul_comm]
  have h3 : (a ^^^ x) * 256 + (b ^^^ y) = 2 ^ 8 * (a ^^^ x) + (b ^^^ y) := by rw [Nat.mul_comm]
  rw [h1, h2, h3, Nat.testBit_xor, Nat.testBit_two_pow_mul_add _ (by omega), Nat.testBit_two_pow_mul_add _ (by omega), Nat.testBit_two_pow_mul_add _ (by omega)]
  split <;> rw [Nat.testBit_xor]
theorem num4_xor {a b c d x y z t : Nat} (hb : b < 256) (hc : c < 256) (hd : d < 256) (hy : y < 256) (hz : z < 256) (ht : t < 256) :
    num4 a b c d ^^^ num4 x y z t = num4 (a ^^^ x) (b ^^^ y) (c ^^^ z) (d ^^^ t) := by
  unfold num4
  rw [behind_xor hd ht, behind_xor hc hz, behind_xor hb hy]

theorem num4_3 (e : Nat) : num4 e 0 0 0 = e * 256 ^ 3 := by unfold num4; omega
theorem num4_2 (e : Nat) : num4 0 e 0 0 = e * 256 ^ 2 := by unfold num4; omega
theorem num4_1 (e : Nat) : num4 0 0 e 0 = e * 256 ^ 1 := by unfold num4; omega
theorem num4_0 (e : Nat) : num4 0 0 0 e = e * 256 ^ 0 := by unfold num4; omega

def byt (n : Nat) : AV := .int .u8 (n : Int)
theorem numOf4 {a b c d : Nat} (ha : a < 256) (hb : b < 256) (hc : c < 256) (hd : d < 256) : numOf [byt a, byt b, byt c, byt d] = ((num4 a b c d : Nat) : Int) := by
  have e1 := byte_behind (a := 0) (y := a) (by omega) ha
  have e2 := byte_behind (a := 0 * 256 + a) (y := b) (by omega) hb
  have e3 := byte_behind (a := (0 * 256 + a) * 256 + b) (y := c) (by omega) hc
  have e4 := byte_behind (a := ((0 * 256 + a) * 256 + b) * 256 + c) (y := d) (by omega) hd
  have r : num4 a b c d = (((0 * 256 + a) * 256 + b) * 256 + c) * 256 + d := by unfold num4; omega
  rw [r, ← e4, ← e3, ← e2, ← e1]
  rfl
theorem num4_lt' {a b c d : Nat} (ha : a < 256) (hb : b < 256) (hc : c < 256) (hd : d < 256) : num4 a b c d < 4294967296 := by unfold num4; omega

/-- A word: bytes, and four behind them. -/
structure Word (n : Nat) (m : List AV) (l : List AV) (a b c d : Nat) : Prop where
  eq : m = l ++ [byt a, byt b, byt c, byt d]
  len : l.length = n
  ha : a < 256
  hb : b < 256
  hc : c < 256
  hd : d < 256

/-- What is left. -/
def syn (l : List AV) (a b c d : Nat) : Nat := crcN l ^^^ num4 a b c d

theorem xor_zero_iff {a b : Nat} : a ^^^ b = 0 ↔ a = b := by
  constructor
  · intro h
    have := congrArg (· ^^^ b) h
    simpa [Nat.xor_assoc] using this
  · rintro rfl; exact Nat.xor_self a

theorem Word.open_ {n : Nat} {m l : List AV} {a b c d : Nat} (h : Word n m l a b c d) : openR m = if syn l a b c d = 0 then (l, 0) else ([], 8) := by
  obtain ⟨rfl, rfl, ha, hb, hc, hd⟩ := h
  have hl : (l ++ [byt a, byt b, byt c, byt d]).length - 4 = l.length := by simp
  have h4 : ¬ (l ++ [byt a, byt b, byt c, byt d]).length < 4 := by simp
  unfold openR
  rw [if_neg h4, hl, List.drop_left' rfl, List.take_left' rfl, numOf4 ha hb hc hd]
  have := num4_lt' ha hb hc hd
  rw [u32_wrap (by omega) (by omega)]
  unfold syn
  by_cases he : crcN l = num4 a b c d
  · rw [if_pos (by omega), if_pos (xor_zero_iff.2 he)]
  · rw [if_neg (by omega), if_neg (fun h => he (xor_zero_iff.1 h))]

/-- How much a byte that is turned at a place weighs. -/
def weight (n p e : Nat) : Nat := if p < n then cbs (8 * (n - p)) e else e * 256 ^ (n + 3 - p)

theorem Word.flip {n : Nat} {m l : List AV} {a b c d : Nat} (h : Word n m l a b c d) {p e : Nat} (hp : p < n + 4) (he : e < 256) (hB : ∀ x ∈ l, ∃ k, k < 256 ∧ x = byt k) :
    ∃ l' a' b' c' d' k, m.getD p (.int .u8 0) = .int .u8 ((k : Nat) : Int) ∧ k < 256 ∧ Word n (m.set p (.int .u8 ((k ^^^ e : Nat) : Int))) l' a' b' c' d' ∧ (∀ x ∈ l', ∃ k, k < 256 ∧ x = byt k) ∧ syn l' a' b' c' d' = syn l a b c d ^^^ weight n p e := by
  obtain ⟨rfl, rfl, ha, hb, hc, hd⟩ := h
  have x8 : ∀ {k : Nat}, k < 256 → k ^^^ e < 256 := fun hk => Nat.xor_lt_two_pow (n := 8) hk he
  by_cases hpn : p < l.length
  · obtain ⟨k, hk, hx⟩ := hB l[p] (List.getElem_mem hpn)
    refine ⟨l.set p (byt (k ^^^ e)), a, b, c, d, k, ?_, hk, ⟨?_, by simp, ha, hb, hc, hd⟩, fun x hx' => ?_, ?_⟩
    · rw [List.getD_eq_getElem?_getD, List.getElem?_append_left hpn, List.getElem?_eq_getElem hpn, hx]; rfl
    · rw [List.set_append_left _ _ hpn]; rfl
    · rcases List.mem_or_eq_of_mem_set hx' with hx' | rfl
      · exact hB x hx'
      · exact ⟨_, x8 hk, rfl⟩
    · have := foldl_flip l p 4294967295 k e hk he (by rw [List.getElem?_eq_getElem hpn, hx]; rfl)
      unfold syn crcN weight
      rw [if_pos hpn]
      unfold byt
      rw [this]
      simp only [Nat.xor_assoc]
      congr 1
      rw [Nat.xor_comm, Nat.xor_assoc]
  · have hw : weight l.length p e = e * 256 ^ (l.length + 3 - p) := by unfold weight; rw [if_neg hpn]
    have hs : ∀ (y : AV), (l ++ [byt a, byt b, byt c, byt d]).set p y = l ++ [byt a, byt b, byt c, byt d].set (p - l.length) y := fun y => List.set_append_right _ _ (by omega)
    have hg : (l ++ [byt a, byt b, byt c, byt d]).getD p (.int .u8 0) = [byt a, byt b, byt c, byt d].getD (p - l.length) (.int .u8 0) := by
      rw [List.getD_eq_getElem?_getD, List.getElem?_append_right (by omega), ← List.getD_eq_getElem?_getD]
    have n4 : ∀ x y z t : Nat, y < 256 → z < 256 → t < 256 → syn l (a ^^^ x) (b ^^^ y) (c ^^^ z) (d ^^^ t) = syn l a b c d ^^^ num4 x y z t := by
      intro x y z t hy hz ht
      unfold syn
      rw [Nat.xor_assoc, num4_xor hb hc hd hy hz ht]
    rcases (show p - l.length = 0 ∨ p - l.length = 1 ∨ p - l.length = 2 ∨ p - l.length = 3 by omega) with hq | hq | hq | hq
    · refine ⟨l, a ^^^ e, b, c, d, a, by rw [hg, hq]; rfl, ha, ⟨by rw [hs, hq]; rfl, rfl, x8 ha, hb, hc, hd⟩, hB, ?_⟩
      have := n4 e 0 0 0 (by omega) (by omega) (by omega)
      simp only [Nat.xor_zero] at this
      rw [this, hw, show l.length + 3 - p = 3 by omega, num4_3]
    · refine ⟨l, a, b ^^^ e, c, d, b, by rw [hg, hq]; rfl, hb, ⟨by rw [hs, hq]; rfl, rfl, ha, x8 hb, hc, hd⟩, hB, ?_⟩
      have := n4 0 e 0 0 (by omega) (by omega) (by omega)
      simp only [Nat.xor_zero] at this
      rw [this, hw, show l.length + 3 - p = 2 by omega, num4_2]
    · refine ⟨l, a, b, c ^^^ e, d, c, by rw [hg, hq]; rfl, hc, ⟨by rw [hs, hq]; rfl, rfl, ha, hb, x8 hc, hd⟩, hB, ?_⟩
      have := n4 0 0 e 0 (by omega) (by omega) (by omega)
      simp only [Nat.xor_zero] at this
      rw [this, hw, show l.length + 3 - p = 1 by omega, num4_1]
    · refine ⟨l, a, b, c, d ^^^ e, d, by rw [hg, hq]; rfl, hd, ⟨by rw [hs, hq]; rfl, rfl, ha, hb, hc, x8 hd⟩, hB, ?_⟩
      have := n4 0 0 0 e (by omega) (by omega) (by omega)
      simp only [Nat.xor_zero] at this
      rw [this, hw, show l.length + 3 - p = 0 by omega, num4_0]

/- bits -/
theorem cbs_zero : ∀ k, cbs k 0 = 0
  | 0 => rfl
  | k + 1 => by rw [cbs, show cb 0 = 0 from rfl, cbs_zero k]
theorem cbs_pow {k t : Nat} (h : t ≤ k) : cbs k (2 ^ t) = cbs (k - t) 1 := by
  have e : k = t + (k - t) := by omega
  conv => lhs; rw [e, cbs_add]
  have := cbs_shift t 1
  rw [Nat.mul_one] at this
  rw [this]

/-- A bit's place, from behind. -/
def place (n p t : Nat) : Nat := if p < n then 31 + 8 * (n - p) - t else 31 - t - 8 * (n + 3 - p)
theorem weight_bit {n p t : Nat} (hp : p < n + 4) (ht : t < 8) : cbs 31 (weight n p (2 ^ t)) = cbs (place n p t) 1 := by
  unfold weight place
  by_cases h : p < n
  · rw [if_pos h, if_pos h, cbs_pow (by omega), ← cbs_add]
    congr 1; omega
  · rw [if_neg h, if_neg h, show (256 : Nat) = 2 ^ 8 from rfl, ← Nat.pow_mul, ← Nat.pow_add, cbs_pow (by omega)]
    congr 1; omega
theorem place_inj {n p t q s : Nat} (hp : p < n + 4) (ht : t < 8) (hq : q < n + 4) (hs : s < 8) (h : place n p t = place n q s) : p = q ∧ t = s := by
  unfold place at h
  split at h <;> split at h <;> omega
theorem place_le {n p t : Nat} (hp : p < n + 4) : place n p t ≤ 8 * n + 31 := by
  unfold place; split <;> omega

/-- So many steps, and it is never one again. -/
def never : Nat → Nat → Bool
  | 0, _ => true
  | k + 1, c => (cb c != 1) && never k (cb c)
theorem never_spec : ∀ (k c j : Nat), never k c = true → 1 ≤ j → j ≤ k → cbs j c ≠ 1
  | 0, _, _, _, _, _ => by omega
  | k + 1, c, j, h, h1, h2 => by
    simp only [never, Bool.and_eq_true, bne_iff_ne, ne_eq] at h
    rcases (show j = 1 ∨ 2 ≤ j by omega) with rfl | hj
    · exact h.1
    · obtain ⟨i, rfl⟩ : ∃ i, j = i + 1 := ⟨j - 1, by omega⟩
      rw [cbs]
      exact never_spec k (cb c) i h.2 (by omega) (by omega)
theorem never_one : never 2500 1 = true := by decide +kernel

theorem bits_differ {i j : Nat} (hi : i ≤ 2500) (hj : j ≤ 2500) (h : cbs i 1 = cbs j 1) : i = j := by
  have key : ∀ {i j : Nat}, j ≤ 2500 → i < j → cbs i 1 ≠ cbs j 1 := by
    intro i j hj hlt e
    have e2 : j = (j - i) + i := by omega
    rw [e2, cbs_add] at e
    have := cbs_inj i (by omega) (cbs_lt (j - i) (by omega)) e
    exact never_spec 2500 1 (j - i) never_one (by omega) (by omega) this.symm
  rcases Nat.lt_trichotomy i j with h1 | h1 | h1
  · exact absurd h (key hj h1)
  · exact h1
  · exact absurd h.symm (key hi h1)

theorem weight_lt {n p e : Nat} (hp : p < n + 4) (he : e < 256) : weight n p e < 4294967296 := by
  unfold weight
  split
  · exact cbs_lt _ (by omega)
  · rcases (show n + 3 - p = 0 ∨ n + 3 - p = 1 ∨ n + 3 - p = 2 ∨ n + 3 - p = 3 by omega) with h | h | h | h <;> rw [h] <;> omega

theorem weight_ne {n p t : Nat} (hp : p < n + 4) (ht : t < 8) : weight n p (2 ^ t) ≠ 0 := by
  intro h
  have h2 := weight_bit hp ht
  rw [h, cbs_zero] at h2
  have := cbs_inj (place n p t) (a := 0) (b := 1) (by omega) (by omega) (by rw [cbs_zero]; exact h2)
  omega

theorem weight_same {n p t q s : Nat} (hn : n ≤ 300) (hp : p < n + 4) (ht : t < 8) (hq : q < n + 4) (hs : s < 8) : weight n p (2 ^ t) = weight n q (2 ^ s) ↔ p = q ∧ t = s := by
  constructor
  · intro h
    have h1 := weight_bit hp ht
    have h2 := weight_bit hq hs
    rw [h, h2] at h1
    have := bits_differ (by have := place_le (t := s) hq; omega) (by have := place_le (t := t) hp; omega) h1
    exact place_inj hp ht hq hs this.symm
  · rintro ⟨rfl, rfl⟩; rfl

/- one bit, two bits, four bytes -/
theorem xor8 {X Y : Nat} (hX : X < 256) (hY : Y < 256) : bitsA .xor .u8 (X : Int) (Y : Int) = ((X ^^^ Y : Nat) : Int) := by
  show IntKind.u8.wrap ((BitVec.ofInt 8 (X : Int) ^^^ BitVec.ofInt 8 (Y : Int)).toNat : Int) = _
  rw [BitVec.toNat_xor, ofInt_toNat 8 X hX, ofInt_toNat 8 Y hY]
  have : X ^^^ Y < 256 := Nat.xor_lt_two_pow (n := 8) hX hY
  rw [u8_mod]; omega
theorem shl1 {t : Nat} (h : t < 8) : shlA .u8 1 (t : Int) = ((2 ^ t : Nat) : Int) := by
  rcases (show t = 0 ∨ t = 1 ∨ t = 2 ∨ t = 3 ∨ t = 4 ∨ t = 5 ∨ t = 6 ∨ t = 7 by omega) with rfl | rfl | rfl | rfl | rfl | rfl | rfl | rfl <;> kernel_rfl
theorem pow_lt8 {t : Nat} (h : t < 8) : 2 ^ t < 256 := Nat.pow_lt_pow_right (by omega) (m := t) (n := 8) h

theorem bex4 (v : Nat) : bex (v : Int) 4 = [byt (v / 16777216 % 256), byt (v / 65536 % 256), byt (v / 256 % 256), byt (v % 256)] := by
  have e : ∀ m : Nat, ((v : Int) / ((m : Nat) : Int) % 256) = ((v / m % 256 : Nat) : Int) := fun m => by rw [Int.natCast_emod, Int.natCast_ediv]; rfl
  have e3 := e 16777216
  have e2 := e 65536
  have e1 := e 256
  have e0 := e 1
  simp only [Nat.div_one] at e0
  show [AV.int .u8 ((v : Int) / 16777216 % 256), .int .u8 ((v : Int) / 65536 % 256), .int .u8 ((v : Int) / 256 % 256), .int .u8 ((v : Int) / 1 % 256)] = _
  unfold byt
  rw [← e3, ← e2, ← e1, ← e0]
  rfl

theorem word_seal (A : List AV) : Word A.length (A ++ bex ((crcN A : Nat) : Int) 4) A (crcN A / 16777216 % 256) (crcN A / 65536 % 256) (crcN A / 256 % 256) (crcN A % 256) :=
  ⟨by rw [bex4], rfl, Nat.mod_lt _ (by omega), Nat.mod_lt _ (by omega), Nat.mod_lt _ (by omega), Nat.mod_lt _ (by omega)⟩
theorem syn_seal (A : List AV) : syn A (crcN A / 16777216 % 256) (crcN A / 65536 % 256) (crcN A / 256 % 256) (crcN A % 256) = 0 := by
  have h := crcN_lt A
  unfold syn
  rw [xor_zero_iff]
  unfold num4; omega

theorem byt_bl (b : List UInt8) : ∀ x ∈ bl b, ∃ k, k < 256 ∧ x = byt k := by
  intro x hx
  simp only [bl, List.mem_map] at hx
  obtain ⟨c, _, rfl⟩ := hx
  exact ⟨c.toNat, c.toNat_lt, rfl⟩

/-- Four bytes that are turned, the lowest first. -/
theorem burst_weight {n p v : Nat} (hv : v < 4294967296) (hp : p + 4 ≤ n) :
    weight n p (v % 256) ^^^ weight n (p + 1) (v / 256 % 256) ^^^ weight n (p + 2) (v / 65536 % 256) ^^^ weight n (p + 3) (v / 16777216 % 256) = cbs (8 * (n - p)) v := by
  have h4 := crc4 0 v hv
  simp only [List.foldl_cons, List.foldl_nil] at h4
  rw [crc1_nat _ _ (by omega), crc1_nat _ _ (by omega), crc1_nat _ _ (by omega), crc1_nat _ _ (by omega), Nat.zero_xor, Nat.zero_xor] at h4
  simp only [cbs_xor, ← cbs_add] at h4
  have e : 8 * (n - p) = 32 + 8 * (n - p - 4) := by omega
  have e0 : 8 * (n - p) = 8 + 8 + 8 + 8 + 8 * (n - p - 4) := by omega
  have e1 : 8 * (n - (p + 1)) = 8 + 8 + 8 + 8 * (n - p - 4) := by omega
  have e2 : 8 * (n - (p + 2)) = 8 + 8 + 8 * (n - p - 4) := by omega
  have e3 : 8 * (n - (p + 3)) = 8 + 8 * (n - p - 4) := by omega
  have key := congrArg (cbs (8 * (n - p - 4))) h4
  simp only [cbs_xor, ← cbs_add] at key
  unfold weight
  rw [if_pos (by omega), if_pos (by omega), if_pos (by omega), if_pos (by omega)]
  conv => rhs; rw [e]
  rw [← key, e0, e1, e2, e3]

theorem seen_eq (b : List UInt8) (x1 x2 x3 : Int) (h30 : 0 ≤ x3) (h3 : x3 < 4294967296) : g_comptoirlaw05_CrcSeen (bl b) x1 x2 x3 = some true := by
  unfold g_comptoirlaw05_CrcSeen
  obtain ⟨A, hAb⟩ : ∃ A, A = bl b := ⟨_, rfl⟩
  have hB : ∀ x ∈ A, ∃ k, k < 256 ∧ x = byt k := by rw [hAb]; exact byt_bl b
  rw [← hAb]
  by_cases hbig : (A.length : Int) > 300
  · exact run_inr (by simp only [T_comptoirlaw05_CrcSeen, Tr.val_c, Tr.val_r, val_opt, awake05, hbig, Option.bind_some, decide_true, cond_true])
  obtain ⟨n, hn⟩ : ∃ n, n = A.length := ⟨_, rfl⟩
  have hn3 : n ≤ 300 := by omega
  have sl := Seal_eq A (by omega)
  obtain ⟨S, hS⟩ : ∃ S, S = A ++ bex ((crcN A : Nat) : Int) 4 := ⟨_, rfl⟩
  have lS : S.length = n + 4 := by rw [hS, hn]; simp
  have wS := word_seal A
  have yS := syn_seal A
  rw [← hS] at sl wS
  rw [← hn] at wS
  generalize crcN A / 16777216 % 256 = s0 at wS yS
  generalize crcN A / 65536 % 256 = s1 at wS yS
  generalize crcN A / 256 % 256 = s2 at wS yS
  generalize crcN A % 256 = s3 at wS yS
  have oS := Open_eq S (by omega)
  rw [wS.open_, if_pos yS] at oS
  have w4 : IntKind.i64.wrap ((A.length : Int) + 4) = ((n + 4 : Nat) : Int) := by rw [i64_wrap (by omega) (by omega)]; omega
  have q4 : ((S.length : Int) != IntKind.i64.wrap ((A.length : Int) + 4)) = false := by rw [w4, lS]; simp
  rw [run_inl (s := .inl false) (by simp only [T_comptoirlaw05_CrcSeen, Tr.val_c, Tr.val_r, val_opt, awake05, hbig, sl, oS, q4, Option.bind_some, decide_false, cond_false, Bool.not_true, bne_self_eq_false, beq_self_eq_true])]
  -- the two places
  obtain ⟨u0, u1⟩ := u64_bounds x1
  obtain ⟨v0, v1⟩ := u64_bounds x2
  have wS8 : IntKind.u64.wrap (IntKind.i64.wrap (8 * (S.length : Int))) = ((8 * (n + 4) : Nat) : Int) := by
    rw [i64_wrap (by omega) (by omega), u64_wrap (by omega) (by omega), lS]; omega
  have z8 : isZ ((8 * (n + 4) : Nat) : Int) = false := by unfold isZ; rw [decide_eq_false_iff_not]; omega
  obtain ⟨i, hi, hi8⟩ : ∃ i : Nat, IntKind.i64.wrap (Int.tmod (IntKind.u64.wrap x1) ((8 * (n + 4) : Nat) : Int)) = (i : Int) ∧ i < 8 * (n + 4) := by
    have h1 := Int.emod_nonneg (IntKind.u64.wrap x1) (show ((8 * (n + 4) : Nat) : Int) ≠ 0 by omega)
    have h2 := Int.emod_lt_of_pos (IntKind.u64.wrap x1) (show 0 < ((8 * (n + 4) : Nat) : Int) by omega)
    refine ⟨(IntKind.u64.wrap x1 % ((8 * (n + 4) : Nat) : Int)).toNat, ?_, by omega⟩
    rw [tmod_eq u0, i64_wrap (by omega) (by omega)]; omega
  obtain ⟨k, hk, hk8⟩ : ∃ i : Nat, IntKind.i64.wrap (Int.tmod (IntKind.u64.wrap x2) ((8 * (n + 4) : Nat) : Int)) = (i : Int) ∧ i < 8 * (n + 4) := by
    have h1 := Int.emod_nonneg (IntKind.u64.wrap x2) (show ((8 * (n + 4) : Nat) : Int) ≠ 0 by omega)
    have h2 := Int.emod_lt_of_pos (IntKind.u64.wrap x2) (show 0 < ((8 * (n + 4) : Nat) : Int) by omega)
    refine ⟨(IntKind.u64.wrap x2 % ((8 * (n + 4) : Nat) : Int)).toNat, ?_, by omega⟩
    rw [tmod_eq v0, i64_wrap (by omega) (by omega)]; omega
  have wn1 : IntKind.u64.wrap (IntKind.i64.wrap ((A.length : Int) + 1)) = ((n + 1 : Nat) : Int) := by
    rw [i64_wrap (by omega) (by omega), u64_wrap (by omega) (by omega)]; omega
  have zn1 : isZ ((n + 1 : Nat) : Int) = false := by unfold isZ; rw [decide_eq_false_iff_not]; omega
  obtain ⟨m, hm, hmn⟩ : ∃ i : Nat, IntKind.i64.wrap (Int.tmod (IntKind.u64.wrap x1) ((n + 1 : Nat) : Int)) = (i : Int) ∧ i ≤ n := by
    have h1 := Int.emod_nonneg (IntKind.u64.wrap x1) (show ((n + 1 : Nat) : Int) ≠ 0 by omega)
    have h2 := Int.emod_lt_of_pos (IntKind.u64.wrap x1) (show 0 < ((n + 1 : Nat) : Int) by omega)
    refine ⟨(IntKind.u64.wrap x1 % ((n + 1 : Nat) : Int)).toNat, ?_, by omega⟩
    rw [tmod_eq u0, i64_wrap (by omega) (by omega)]; omega
  have d8 : ∀ j : Nat, j < 8 * (n + 4) → IntKind.i64.wrap (Int.tdiv (j : Int) 8) = ((j / 8 : Nat) : Int) := fun j hj => by
    rw [tdiv_eq (by omega), i64_wrap (by omega) (by omega)]; omega
  have m8 : ∀ j : Nat, IntKind.u64.wrap (Int.tmod (j : Int) 8) = ((j % 8 : Nat) : Int) := fun j => by
    rw [tmod_eq (by omega), u64_wrap (by omega) (by omega)]; omega
  -- one
  obtain ⟨l1, a1, b1, c1, e1, k1, g1, gl1, W1, B1, Y1⟩ := wS.flip (p := i / 8) (e := 2 ^ (i % 8)) (by omega) (pow_lt8 (Nat.mod_lt _ (by omega))) hB
  rw [yS, Nat.zero_xor] at Y1
  have x1e : bitsA .xor .u8 ((k1 : Nat) : Int) (shlA .u8 1 ((i % 8 : Nat) : Int)) = ((k1 ^^^ 2 ^ (i % 8) : Nat) : Int) := by
    rw [shl1 (Nat.mod_lt _ (by omega)), xor8 gl1 (pow_lt8 (Nat.mod_lt _ (by omega)))]
  obtain ⟨ONE, hONE⟩ : ∃ O, O = S.set (i / 8) (.int .u8 ((k1 ^^^ 2 ^ (i % 8) : Nat) : Int)) := ⟨_, rfl⟩
  rw [← hONE] at W1
  have lO : ONE.length = n + 4 := by rw [hONE, List.length_set, lS]
  have oO := Open_eq ONE (by omega)
  rw [W1.open_, if_neg (by rw [Y1]; exact weight_ne (by omega) (Nat.mod_lt _ (by omega)))] at oO
  -- two
  obtain ⟨l2, a2, b2, c2, e2, k2, g2, gl2, W2, B2, Y2⟩ := W1.flip (p := k / 8) (e := 2 ^ (k % 8)) (by omega) (pow_lt8 (Nat.mod_lt _ (by omega))) B1
  rw [Y1] at Y2
  have x2e : bitsA .xor .u8 ((k2 : Nat) : Int) (shlA .u8 1 ((k % 8 : Nat) : Int)) = ((k2 ^^^ 2 ^ (k % 8) : Nat) : Int) := by
    rw [shl1 (Nat.mod_lt _ (by omega)), xor8 gl2 (pow_lt8 (Nat.mod_lt _ (by omega)))]
  obtain ⟨TWO, hTWO⟩ : ∃ O, O = ONE.set (k / 8) (.int .u8 ((k2 ^^^ 2 ^ (k % 8) : Nat) : Int)) := ⟨_, rfl⟩
  rw [← hTWO] at W2
  have lT : TWO.length = n + 4 := by rw [hTWO, List.length_set, lO]
  have oT := Open_eq TWO (by omega)
  have hsame : syn l2 a2 b2 c2 e2 = 0 ↔ i = k := by
    rw [Y2, xor_zero_iff, weight_same hn3 (by omega) (Nat.mod_lt _ (by omega)) (by omega) (Nat.mod_lt _ (by omega))]
    omega
  obtain ⟨r2, hr2, hr20⟩ : ∃ r2 : List AV × Int, g_crc_Open TWO = some r2 ∧ (r2.2 == 0) = ((i : Int) == (k : Int)) := by
    refine ⟨openR TWO, oT, ?_⟩
    rw [W2.open_]
    by_cases hik : i = k
    · rw [if_pos (hsame.2 hik), hik]; simp
    · rw [if_neg (fun h => hik (hsame.1 h))]
      have : ((i : Int) == (k : Int)) = false := by rw [beq_eq_false_iff_ne]; omega
      rw [this]; rfl
  have gS : Option.getD (g_crc_Seal A) [] = S := by rw [sl]; rfl
  have p1 : (0 : Int) ≤ ((i / 8 : Nat) : Int) := by omega
  have p2 : ((i / 8 : Nat) : Int) < (S.length : Int) := by omega
  have p3 : i / 8 < S.length := by omega
  have p4 : (0 : Int) ≤ ((i % 8 : Nat) : Int) := by omega
  have t1 : (0 : Int) ≤ ((k / 8 : Nat) : Int) := by omega
  have t2 : ((k / 8 : Nat) : Int) < (ONE.length : Int) := by omega
  have t3 : k / 8 < ONE.length := by omega
  have t4 : (0 : Int) ≤ ((k % 8 : Nat) : Int) := by omega
  have n1 : S.length * 2 < 70368744177664 := by omega
  have n2 : ONE.length * 2 < 70368744177664 := by omega
  have bO : (S.length == ONE.length) = true := by rw [lS, lO]; simp
  have bT : (ONE.length == TWO.length) = true := by rw [lO, lT]; simp
  rw [run_inl (s := .inr ((i : Int), (k : Int), 8, r2.2, (m : Int), ((0 : Nat) : Int), S)) (by
    simp only [M_comptoirlaw05_CrcSeen, Tr.val_c, Tr.val_r, val_opt, gS, wS8, z8, hi, hk, d8 i hi8, d8 k hk8, m8, Int.toNat_natCast, g1, getI_int, x1e, ← hONE, g2, x2e, ← hTWO, oO, hr2, wn1, zn1, hm, p1, p2, p3, p4, t1, t2, t3, t4, n1, n2, bO, bT, Option.bind_some, decide_true, beq_self_eq_true, Bool.true_and, cond_true, cond_false]
    rfl)]
  -- four bytes
  obtain ⟨v, hv, hvl⟩ : ∃ v : Nat, x3 = (v : Int) ∧ v < 4294967296 := ⟨x3.toNat, by omega, by omega⟩
  have sh : ∀ (j : Nat), j < 4 → IntKind.u8.wrap (shrA .u32 x3 ((8 * j : Nat) : Int)) = ((v / 256 ^ j % 256 : Nat) : Int) := by
    intro j hj
    rw [hv]
    rcases (show j = 0 ∨ j = 1 ∨ j = 2 ∨ j = 3 by omega) with rfl | rfl | rfl | rfl
    · rw [u8_mod]; show (v : Int).fdiv 1 % 256 = _; rw [Int.fdiv_eq_ediv_of_nonneg _ (by decide)]; omega
    · rw [u8_mod]; show (v : Int).fdiv 256 % 256 = _; rw [Int.fdiv_eq_ediv_of_nonneg _ (by decide)]; omega
    · rw [u8_mod]; show (v : Int).fdiv 65536 % 256 = _; rw [Int.fdiv_eq_ediv_of_nonneg _ (by decide)]; omega
    · rw [u8_mod]; show (v : Int).fdiv 16777216 % 256 = _; rw [Int.fdiv_eq_ediv_of_nonneg _ (by decide)]; omega
  have round : ∀ (j : Nat) (X l : List AV) (a b c d : Nat), j < 4 → Word n X l a b c d → (∀ x ∈ l, ∃ k, k < 256 ∧ x = byt k) →
      ∃ X' l' a' b' c' d', Word n X' l' a' b' c' d' ∧ (∀ x ∈ l', ∃ k, k < 256 ∧ x = byt k) ∧ syn l' a' b' c' d' = syn l a b c d ^^^ weight n (m + j) (v / 256 ^ j % 256) ∧
        (M_comptoirlaw05_CrcSeen A x1 x2 x3 (.inr ((i : Int), (k : Int), 8, r2.2, (m : Int), (j : Int), X))).val = some (.inl (.inr ((i : Int), (k : Int), 8, r2.2, (m : Int), ((j + 1 : Nat) : Int), X'))) := by
    intro j X l a b c d hj W B
    have hp : m + j < n + 4 := by omega
    have hx : v / 256 ^ j % 256 < 256 := Nat.mod_lt _ (by omega)
    obtain ⟨l', a', b', c', d', kk, gk, gkl, W', B', Y'⟩ := W.flip hp hx B
    refine ⟨_, l', a', b', c', d', W', B', Y', ?_⟩
    have lX : X.length = n + 4 := by rw [W.eq]; simp [W.len]
    have r1 : (j : Int) < 4 := by omega
    have r2' : IntKind.i64.wrap ((m : Int) + (j : Int)) = ((m + j : Nat) : Int) := by rw [i64_wrap (by omega) (by omega)]; omega
    have r3 : (0 : Int) ≤ ((m + j : Nat) : Int) := by omega
    have r4 : ((m + j : Nat) : Int) < (X.length : Int) := by omega
    have r5 : m + j < X.length := by omega
    have r6 : IntKind.u64.wrap (IntKind.i64.wrap (8 * (j : Int))) = ((8 * j : Nat) : Int) := by rw [i64_wrap (by omega) (by omega), u64_wrap (by omega) (by omega)]; omega
    have r7 : (0 : Int) ≤ ((8 * j : Nat) : Int) := by omega
    have r8 : IntKind.i64.wrap ((j : Int) + 1) = ((j + 1 : Nat) : Int) := by rw [i64_wrap (by omega) (by omega)]; omega
    have r9 : bitsA .xor .u8 ((kk : Nat) : Int) ((v / 256 ^ j % 256 : Nat) : Int) = ((kk ^^^ v / 256 ^ j % 256 : Nat) : Int) := xor8 gkl hx
    simp only [M_comptoirlaw05_CrcSeen, Tr.val_c, Tr.val_r, r1, r2', r3, r4, r5, r6, r7, r8, Int.toNat_natCast, gk, getI_int, sh j hj, r9, List.length_set, decide_true, beq_self_eq_true, cond_true]
  obtain ⟨X1, y1, f1, f2, f3, f4, V1, D1, Z1, R1⟩ := round 0 S A s0 s1 s2 s3 (by omega) wS hB
  obtain ⟨X2, y2, f5, f6, f7, f8, V2, D2, Z2, R2⟩ := round 1 X1 y1 f1 f2 f3 f4 (by omega) V1 D1
  obtain ⟨X3, y3, f9, f10, f11, f12, V3, D3, Z3, R3⟩ := round 2 X2 y2 f5 f6 f7 f8 (by omega) V2 D2
  obtain ⟨X4, y4, f13, f14, f15, f16, V4, D4, Z4, R4⟩ := round 3 X3 y3 f9 f10 f11 f12 (by omega) V3 D3
  rw [run_inl R1, run_inl R2, run_inl R3, run_inl R4]
  have lX : X4.length = n + 4 := by rw [V4.eq]; simp [V4.len]
  have oX := Open_eq X4 (by omega)
  have q5 : ¬ (((3 + 1 : Nat) : Int) < 4) := by omega
  have w5 : IntKind.i64.wrap ((m : Int) + 4) = ((m + 4 : Nat) : Int) := by rw [i64_wrap (by omega) (by omega)]; omega
  have hb : ((r2.2 == 0) == ((i : Int) == (k : Int))) = true := by rw [hr20]; simp
  by_cases hin : m + 4 ≤ n
  · have q6 : ((m + 4 : Nat) : Int) ≤ (A.length : Int) := by omega
    have hz : syn y4 f13 f14 f15 f16 = cbs (8 * (n - m)) v := by
      rw [Z4, Z3, Z2, Z1, yS, Nat.zero_xor, ← burst_weight hvl hin]
      simp
    have fin : (((openR X4).2 == 0) == (x3 == 0)) = true := by
      rw [V4.open_, hz]
      by_cases hv0 : v = 0
      · rw [if_pos (by rw [hv0, cbs_zero]), hv, hv0]; rfl
      · rw [if_neg (fun h => hv0 (cbs_inj _ hvl (by omega) (by rw [h, cbs_zero])))]
        have : (x3 == 0) = false := by rw [beq_eq_false_iff_ne]; omega
        rw [this]; rfl
    exact run_inr (by simp only [M_comptoirlaw05_CrcSeen, Tr.val_c, Tr.val_r, val_opt, q5, oX, w5, q6, hb, fin, Option.bind_some, decide_true, decide_false, beq_self_eq_true, Bool.true_and, Bool.not_true, cond_true, cond_false])
  · have q6 : ¬ ((m + 4 : Nat) : Int) ≤ (A.length : Int) := by omega
    exact run_inr (by simp only [M_comptoirlaw05_CrcSeen, Tr.val_c, Tr.val_r, val_opt, q5, oX, w5, q6, hb, Option.bind_some, decide_true, decide_false, beq_self_eq_true, Bool.true_and, Bool.not_false, cond_true, cond_false])

end Go.Proofs.Ytaejmfmamhdlhaa
