/- What the printed functions come to, plainly. -/
import Derived.Test.YtaejmfmamhdlhaaYbG11
import Derived.Test.YtaejmfmamhdlhaaCxPl3
namespace Go.Proofs.Ytaejmfmamhdlhaa
open Go.Cx Go.Cx.AV
set_option linter.unusedSimpArgs false
set_option linter.unusedVariables false

/- slices.Concat of two. -/
theorem Grow_eq (n : Int) (h0 : 0 ≤ n) (h : n < 35184372088832) : g_slices_Grow_byte_byte n = some [] := by
  unfold g_slices_Grow_byte_byte
  have w : IntKind.i64.wrap (n - 0) = n := by rw [Int.sub_zero]; exact i64_wrap (by omega) (by omega)
  have hn0 : ¬ (n < 0) := by omega
  have hT : (T_slices_Grow_byte_byte n).val = some (.inl (.inl ())) := by simp only [T_slices_Grow_byte_byte, Tr.val_c, Tr.val_r, hn0]; rfl
  rw [run_inl hT]
  rw [run_inl (s := .inr ())]
  · exact run_inr rfl
  · simp only [M_slices_Grow_byte_byte, Tr.val_c, Tr.val_r, w, List.length_replicate]
    by_cases hn : n > 0
    · have : n.toNat * 2 < 70368744177664 := by omega
      simp [hn, this]
    · simp [hn]

theorem Concat_eq (a b : List AV) (h : a.length + b.length < 17592186044416) : g_slices_Concat_byte_byte [.slice 1 (.int .u8) a .ro, .slice 1 (.int .u8) b .ro] = some (a ++ b) := by
  have e0 : getXs (List.getD [AV.slice 1 (.int .u8) a .ro, .slice 1 (.int .u8) b .ro] (Int.toNat 0) (.slice 1 (.int .u8) [] .ro)) = a := rfl
  have e1 : getXs (List.getD [AV.slice 1 (.int .u8) a .ro, .slice 1 (.int .u8) b .ro] (Int.toNat 1) (.slice 1 (.int .u8) [] .ro)) = b := rfl
  have w0 : IntKind.i64.wrap (0 + (a.length : Int)) = a.length := by rw [Int.zero_add]; exact i64_wrap (by omega) (by omega)
  have w1 : IntKind.i64.wrap ((a.length : Int) + b.length) = ((a.length + b.length : Nat) : Int) := by rw [i64_wrap (by omega) (by omega)]; omega
  have w2 : IntKind.i64.wrap (0 + 1) = 1 := rfl
  have w3 : IntKind.i64.wrap (1 + 1) = 2 := rfl
  have n0 : ¬ ((a.length : Int) < 0) := by omega
  have n1 : ¬ (((a.length + b.length : Nat) : Int) < 0) := by omega
  have l0 : a.length * 2 < 70368744177664 := by omega
  have l1 : (a.length + b.length) * 2 < 70368744177664 := by omega
  have gr := Grow_eq (((a.length + b.length : Nat) : Int)) (by omega) (by omega)
  unfold g_slices_Concat_byte_byte
  rw [run_inl (s := .inl (0, 0)) rfl]
  rw [run_inl (s := .inl ((a.length : Int), 1)) (by simp only [M_slices_Concat_byte_byte, Tr.val_c, Tr.val_r, e0, w0, w2, n0]; rfl)]
  rw [run_inl (s := .inl (((a.length + b.length : Nat) : Int), 2)) (by simp only [M_slices_Concat_byte_byte, Tr.val_c, Tr.val_r, e1, w1, w3, n1]; rfl)]
  rw [run_inl (s := .inr ([], 0)) (by simp only [M_slices_Concat_byte_byte, Tr.val_c, Tr.val_r, gr, opt_some]; rfl)]
  rw [run_inl (s := .inr (a, 1)) (by simp only [M_slices_Concat_byte_byte, Tr.val_c, Tr.val_r, e0, w2, List.nil_append, l0, decide_true, beq_self_eq_true]; rfl)]
  rw [run_inl (s := .inr (a ++ b, 2)) (by simp only [M_slices_Concat_byte_byte, Tr.val_c, Tr.val_r, e1, w3, List.length_append, l1, decide_true, beq_self_eq_true]; rfl)]
  exact run_inr (by simp only [M_slices_Concat_byte_byte, Tr.val_c, Tr.val_r, beq_self_eq_true]; rfl)

/- the cursor -/
theorem shr8 (v : Int) : ∀ i : Nat, i < 8 → IntKind.u8.wrap (shrA .u64 v (8 * (i : Int))) = v / 256 ^ i % 256
  | 0, _ => by rw [u8_mod]; show v.fdiv 1 % 256 = _; rw [Int.fdiv_eq_ediv_of_nonneg _ (by decide)]; rfl
  | 1, _ => by rw [u8_mod]; show v.fdiv 256 % 256 = _; rw [Int.fdiv_eq_ediv_of_nonneg _ (by decide)]; rfl
  | 2, _ => by rw [u8_mod]; show v.fdiv 65536 % 256 = _; rw [Int.fdiv_eq_ediv_of_nonneg _ (by decide)]; rfl
  | 3, _ => by rw [u8_mod]; show v.fdiv 16777216 % 256 = _; rw [Int.fdiv_eq_ediv_of_nonneg _ (by decide)]; rfl
  | 4, _ => by rw [u8_mod]; show v.fdiv 4294967296 % 256 = _; rw [Int.fdiv_eq_ediv_of_nonneg _ (by decide)]; rfl
  | 5, _ => by rw [u8_mod]; show v.fdiv 1099511627776 % 256 = _; rw [Int.fdiv_eq_ediv_of_nonneg _ (by decide)]; rfl
  | 6, _ => by rw [u8_mod]; show v.fdiv 281474976710656 % 256 = _; rw [Int.fdiv_eq_ediv_of_nonneg _ (by decide)]; rfl
  | 7, _ => by rw [u8_mod]; show v.fdiv 72057594037927936 % 256 = _; rw [Int.fdiv_eq_ediv_of_nonneg _ (by decide)]; rfl
  | n + 8, h => by omega

/-- The lowest bytes of a number, the highest first. -/
def bex (v : Int) : Nat → List AV
  | 0 => []
  | i + 1 => .int .u8 (v / 256 ^ i % 256) :: bex v i
@[simp] theorem length_bex (v : Int) (i : Nat) : (bex v i).length = i := by induction i <;> simp [bex, *]

theorem set_last (r : List AV) (x y : AV) (j : Nat) : (List.replicate (j + 1) x ++ r).set j y = List.replicate j x ++ y :: r := by
  induction j with
  | zero => rfl
  | succ j ih => rw [List.replicate_succ (n := j + 1), List.cons_append, List.set_cons_succ, ih]; rfl

theorem Put_eq (x0 : List AV) (v n : Int) (m : Nat) (hx : x0.length < 8796093022208) (hm : m ≤ 8) (hn : (if 8 < (if 0 > n then 0 else n) then 8 else if 0 > n then 0 else n) = (m : Int)) : g_cursor_Put x0 v n = some (x0 ++ bex v m) := by
  unfold g_cursor_Put
  have hr : m * 2 < 70368744177664 := by omega
  have h0 : (0 : Int) ≤ m := by omega
  rw [run_inl (s := ((m : Int), (m : Int), List.replicate m (.int .u8 0), 0))]
  rotate_left
  · simp only [T_cursor_Put, Tr.val_c, Tr.val_r, hn, h0, Int.toNat_natCast, List.length_replicate, hr, decide_true, cond_true, beq_self_eq_true]
  have key : ∀ k i, i + k = m → run (M_cursor_Put x0 v n) (M_cursor_Put x0 v n ((m : Int), (m : Int), List.replicate k (.int .u8 0) ++ bex v i, (i : Int))) = some (x0 ++ bex v m) := by
    intro k
    induction k with
    | zero =>
      intro i hi
      have : i = m := by omega
      subst this
      have hlt : ¬ ((i : Int) < i) := by omega
      have hc := Concat_eq x0 (bex v i) (by simp; omega)
      exact run_inr (by simp only [M_cursor_Put, Tr.val_c, Tr.val_r, hlt, List.replicate_zero, List.nil_append, val_opt, hc, Option.bind_some, decide_false, cond_false, beq_self_eq_true, cond_true])
    | succ k ih =>
      intro i hi
      have q1 : (i : Int) < m := by omega
      have w1 : IntKind.i64.wrap (8 * (i : Int)) = 8 * i := i64_wrap (by omega) (by omega)
      have w2 : IntKind.i64.wrap ((m : Int) - 1) = m - 1 := i64_wrap (by omega) (by omega)
      have w3 : IntKind.i64.wrap ((m : Int) - 1 - i) = (k : Int) := by rw [i64_wrap (by omega) (by omega)]; omega
      have w4 : IntKind.i64.wrap ((i : Int) + 1) = ((i + 1 : Nat) : Int) := by rw [i64_wrap (by omega) (by omega)]; omega
      have q2 : (0 : Int) ≤ 8 * i := by omega
      have q3 : (0 : Int) ≤ k := by omega
      have hl : (List.replicate (k + 1) (AV.int .u8 0) ++ bex v i).length = m := by simp; omega
      have hl2 : (List.replicate k (AV.int .u8 0) ++ AV.int .u8 (v / 256 ^ i % 256) :: bex v i).length = m := by simp; omega
      have q4 : (k : Int) < m := by omega
      have q5 : k < m := by omega
      rw [run_inl (s := ((m : Int), (m : Int), List.replicate k (.int .u8 0) ++ bex v (i + 1), ((i + 1 : Nat) : Int)))]
      · exact ih (i + 1) (by omega)
      · simp only [M_cursor_Put, Tr.val_c, Tr.val_r, q1, w1, w2, w3, w4, q2, q3, q4, q5, hl, Int.toNat_natCast, shr8 v i (by omega), decide_true, cond_true, beq_self_eq_true, set_last, hl2]
        rfl
  have := key m 0 (by omega)
  simpa [bex] using this

theorem take_eq (n : Int) (b : List AV) (k : Nat) (hk : k ≤ b.length) (hb : b.length < 8796093022208) :
    g_cursor_Cursor_take_p0500 n b k = some (if n < 0 then ([], 1, b, (k : Int)) else if n > b.length - k then ([], 3, b, (k : Int)) else ((b.drop k).take n.toNat, 0, b, (k : Int) + n)) := by
  unfold g_cursor_Cursor_take_p0500
  have w0 : IntKind.i64.wrap ((b.length : Int) - k) = b.length - k := i64_wrap (by omega) (by omega)
  by_cases h1 : n < 0
  · simp only [T_cursor_Cursor_take_p0500, Tr.val_c, Tr.val_r, h1, decide_true, cond_true, if_true]
  · by_cases h2 : n > (b.length : Int) - k
    · simp only [T_cursor_Cursor_take_p0500, Tr.val_c, Tr.val_r, h1, h2, w0, decide_true, decide_false, cond_true, cond_false, if_true, if_false]
    · have w1 : IntKind.i64.wrap ((k : Int) + n) = k + n := i64_wrap (by omega) (by omega)
      have w2 : IntKind.i64.wrap ((k : Int) + n - n) = k := by rw [i64_wrap (by omega) (by omega)]; omega
      have q1 : (0 : Int) ≤ k + n := by omega
      have q2 : (k : Int) + n ≤ b.length := by omega
      have q3 : (0 : Int) ≤ k := by omega
      have q4 : (k : Int) ≤ k + n := by omega
      have hd : ((b.take ((k : Int) + n).toNat).drop (k : Int).toNat) = (b.drop k).take n.toNat := by
        rw [List.drop_take]; congr 1; omega
      simp only [T_cursor_Cursor_take_p0500, Tr.val_c, Tr.val_r, h1, h2, w0, w1, w2, q1, q2, q3, q4, hd, decide_true, decide_false, cond_true, cond_false, if_false]

theorem read_eq (n : Int) (b : List AV) (k : Int) : g_cursor_read_ftake_0p500 n b k = g_cursor_Cursor_take_p0500 n b k := by
  conv => lhs; unfold g_cursor_read_ftake_0p500
  simp only [T_cursor_read_ftake_0p500, Tr.val_c, Tr.val_r, val_opt]
  cases g_cursor_Cursor_take_p0500 n b k <;> rfl

/-- The number that bytes are. -/
def numOf (l : List AV) : Int := l.foldl (fun a x => bitsA .or .u64 (shlA .u64 a 8) (IntKind.u64.wrap (getI x))) 0

theorem Number_eq (n : Int) (b : List AV) (k : Nat) (hk : k ≤ b.length) (hb : b.length < 8796093022208) :
    g_cursor_Cursor_Number_p0500 n b k = some (if n < 1 then (0, 1, b, (k : Int)) else if n > 8 then (0, 1, b, (k : Int)) else if n > b.length - k then (0, 3, b, (k : Int)) else (numOf ((b.drop k).take n.toNat), 0, b, (k : Int) + n)) := by
  unfold g_cursor_Cursor_Number_p0500
  by_cases h1 : n < 1
  · rw [run_inr (x := (0, 1, b, (k : Int))) (by simp only [T_cursor_Cursor_Number_p0500, Tr.val_c, Tr.val_r, h1, decide_true, cond_true])]
    simp [h1]
  by_cases h2 : n > 8
  · rw [run_inr (x := (0, 1, b, (k : Int))) (by simp only [T_cursor_Cursor_Number_p0500, Tr.val_c, Tr.val_r, h1, h2, decide_true, decide_false, cond_true, cond_false])]
    simp [h1, h2]
  have loop : ∀ (e : Int) (l : List AV) (b2 : List AV) (at' : Int), l.length < 8796093022208 → ∀ m i v, i + m = l.length → run (M_cursor_Cursor_Number_p0500 n b k) (M_cursor_Cursor_Number_p0500 n b k (e, l, (l.length : Int), b2, at', v, (i : Int))) =
      some ((l.drop i).foldl (fun a x => bitsA .or .u64 (shlA .u64 a 8) (IntKind.u64.wrap (getI x))) v, e, b2, at') := by
    intro e l b2 at' hl m
    induction m with
    | zero =>
      intro i v hi
      have hlt : ¬ ((i : Int) < l.length) := by omega
      rw [List.drop_of_length_le (by omega)]
      exact run_inr (by simp only [M_cursor_Cursor_Number_p0500, Tr.val_c, Tr.val_r, hlt, decide_false, cond_false]; rfl)
    | succ m ih =>
      intro i v hi
      have q1 : (i : Int) < l.length := by omega
      have q2 : (0 : Int) ≤ i := by omega
      have q3 : i < l.length := by omega
      have w : IntKind.i64.wrap ((i : Int) + 1) = ((i + 1 : Nat) : Int) := by rw [i64_wrap (by omega) (by omega)]; omega
      have hg : l.getD i (.int .u8 0) = l[i] := by simp [List.getD_eq_getElem?_getD, q3]
      rw [run_inl (s := (e, l, (l.length : Int), b2, at', bitsA .or .u64 (shlA .u64 v 8) (IntKind.u64.wrap (getI l[i])), ((i + 1 : Nat) : Int))) (by simp only [M_cursor_Cursor_Number_p0500, Tr.val_c, Tr.val_r, q1, q2, w, hg, Int.toNat_natCast, decide_true, cond_true]), ih (i + 1) _ (by omega), List.drop_eq_getElem_cons q3, List.foldl_cons]
  have ht := take_eq n b k hk hb
  have h0 : ¬ n < 0 := by omega
  by_cases h3 : n > (b.length : Int) - k
  · rw [run_inl (s := (3, [], ((([] : List AV).length : Nat) : Int), b, (k : Int), 0, ((0 : Nat) : Int)))]
    · rw [loop 3 [] b k (by simp) 0 0 0 rfl]
      simp [h1, h2, h3]
    · simp only [T_cursor_Cursor_Number_p0500, Tr.val_c, Tr.val_r, val_opt, h1, h2, h0, h3, read_eq, ht, Option.bind_some, if_true, if_false, decide_false, cond_false]
      rfl
  · rw [run_inl (s := (0, (b.drop k).take n.toNat, ((((b.drop k).take n.toNat).length : Nat) : Int), b, (k : Int) + n, 0, ((0 : Nat) : Int)))]
    · rw [loop 0 _ b _ (by simp only [List.length_take, List.length_drop]; omega) ((b.drop k).take n.toNat).length 0 0 (by omega)]
      simp only [h1, h2, h3, if_false, List.drop_zero, numOf]
    · simp only [T_cursor_Cursor_Number_p0500, Tr.val_c, Tr.val_r, val_opt, h1, h2, h0, h3, read_eq, ht, Option.bind_some, if_true, if_false, decide_false, cond_false]
      rfl

theorem New_eq (b : List AV) (hb : b.length < 8796093022208) : g_cursor_New b = some (b, 0) := by
  have : b.length * 2 < 70368744177664 := by omega
  unfold g_cursor_New
  simp only [T_cursor_New, Tr.val_c, Tr.val_r, this, decide_true, cond_true]


theorem Take_eq (n : Int) (b : List AV) (k : Nat) (hk : k ≤ b.length) (hb : b.length < 8796093022208) :
    g_cursor_Cursor_Take_p0500 n b k = some (if n < 0 then ([], 1, b, (k : Int)) else if n > b.length - k then ([], 3, b, (k : Int)) else ((b.drop k).take n.toNat, 0, b, (k : Int) + n)) := by
  have h := take_eq n b k hk hb
  have hl : ∀ m : Nat, ((b.drop k).take m).length * 2 < 70368744177664 := by
    intro m; simp only [List.length_take, List.length_drop]; omega
  unfold g_cursor_Cursor_Take_p0500
  simp only [T_cursor_Cursor_Take_p0500, Tr.val_c, Tr.val_r, val_opt, read_eq, h, Option.bind_some]
  by_cases h1 : n < 0
  · simp [h1]
  · by_cases h2 : n > (b.length : Int) - k
    · simp [h1, h2]
    · simp only [h1, h2, if_false, hl, decide_true, cond_true]


theorem foldl_bex (v : Nat) : ∀ (i a : Nat), i ≤ 8 → a < 256 ^ (8 - i) → (bex (v : Int) i).foldl (fun a x => bitsA .or .u64 (shlA .u64 a 8) (IntKind.u64.wrap (getI x))) (a : Int) = ((a * 256 ^ i + v % 256 ^ i : Nat) : Int)
  | 0, a, _, _ => by
    show (a : Int) = _
    rw [Nat.pow_zero, Nat.mod_one, Nat.mul_one, Nat.add_zero]
  | i + 1, a, hi, ha => by
    have e8 : 8 - i = (8 - (i + 1)) + 1 := by omega
    have hp : 256 ^ (8 - i) = 256 * 256 ^ (8 - (i + 1)) := by rw [e8, Nat.pow_succ, Nat.mul_comm]
    have h7 : 256 ^ (8 - (i + 1)) ≤ 256 ^ 7 := Nat.pow_le_pow_right (by omega) (by omega)
    have hy : v / 256 ^ i % 256 < 256 := Nat.mod_lt _ (by omega)
    have hb := byte_behind (a := a) (y := v / 256 ^ i % 256) (by omega) hy
    have hc : ((v : Int) / 256 ^ i % 256) = ((v / 256 ^ i % 256 : Nat) : Int) := by rw [Int.natCast_emod, Int.natCast_ediv, Int.natCast_pow]; rfl
    rw [bex, List.foldl_cons, getI_int, hc, hb, foldl_bex v i _ (by omega) (by rw [hp]; omega)]
    congr 1
    rw [Nat.pow_succ, Nat.mod_mul, Nat.add_mul, Nat.mul_assoc, Nat.mul_comm 256 (256 ^ i), Nat.mul_comm (v / 256 ^ i % 256)]
    omega

theorem numOf_bex (v n : Nat) (hn : n ≤ 8) : numOf (bex (v : Int) n) = ((v % 256 ^ n : Nat) : Int) := by
  have := foldl_bex v n 0 hn (Nat.pow_pos (by omega))
  unfold numOf
  rw [Nat.zero_mul, Nat.zero_add] at this
  exact this

/- sums over bytes -/
def cb (c : Nat) : Nat := if c % 2 = 1 then (c / 2) ^^^ 3988292384 else c / 2
def cbs : Nat → Nat → Nat
  | 0, c => c
  | k + 1, c => cbs k (cb c)
theorem cb_lt {c : Nat} (h : c < 4294967296) : cb c < 4294967296 := by
  unfold cb
  split
  · exact Nat.xor_lt_two_pow (n := 32) (by omega) (by omega)
  · omega
theorem cbs_lt : ∀ (k : Nat) {c : Nat}, c < 4294967296 → cbs k c < 4294967296
  | 0, _, h => h
  | k + 1, _, h => cbs_lt k (cb_lt h)
/-- One byte more. -/
def crc1 (c : Nat) (y : AV) : Nat := cbs 8 (c ^^^ (IntKind.u32.wrap (getI y)).toNat)
theorem u32_nat (n : Int) : ((IntKind.u32.wrap n).toNat : Int) = IntKind.u32.wrap n ∧ (IntKind.u32.wrap n).toNat < 4294967296 := by
  rw [u32_mod]; omega
theorem xor_lt32 {a b : Nat} (ha : a < 4294967296) (hb : b < 4294967296) : a ^^^ b < 4294967296 := Nat.xor_lt_two_pow (n := 32) ha hb
theorem crc1_lt {c : Nat} (y : AV) (h : c < 4294967296) : crc1 c y < 4294967296 := cbs_lt 8 (xor_lt32 h (u32_nat _).2)
theorem crcF_lt : ∀ (l : List AV) {c : Nat}, c < 4294967296 → l.foldl crc1 c < 4294967296
  | [], _, h => h
  | y :: l, _, h => crcF_lt l (crc1_lt y h)
def crcN (l : List AV) : Nat := (l.foldl crc1 4294967295) ^^^ 4294967295
theorem crcN_lt (l : List AV) : crcN l < 4294967296 := xor_lt32 (crcF_lt l (by omega)) (by omega)
theorem xor32' {X Y : Nat} (hX : X < 4294967296) (hY : Y < 4294967296) : bitsA .xor .u32 (X : Int) (Y : Int) = ((X ^^^ Y : Nat) : Int) := xor32 hX hY

theorem step_eq (x : Int) (c : Nat) (hc : c < 4294967296) : g_crc_sum_step_p050 x (c : Int) = some ((cbs 8 (c ^^^ (IntKind.u32.wrap x).toNat) : Nat) : Int) := by
  obtain ⟨u1, u2⟩ := u32_nat x
  unfold g_crc_sum_step_p050
  have h0 : bitsA .xor .u32 (c : Int) (IntKind.u32.wrap x) = ((c ^^^ (IntKind.u32.wrap x).toNat : Nat) : Int) := by rw [← xor32' hc u2, u1]
  rw [run_inl (s := (((0 : Nat) : Int), ((c ^^^ (IntKind.u32.wrap x).toNat : Nat) : Int))) (by simp only [T_crc_sum_step_p050, Tr.val_r, h0]; rfl)]
  have key : ∀ k i d : Nat, i + k = 8 → d < 4294967296 → run (M_crc_sum_step_p050 x (c : Int)) (M_crc_sum_step_p050 x (c : Int) ((i : Int), (d : Int))) = some ((cbs k d : Nat) : Int) := by
    intro k
    induction k with
    | zero =>
      intro i d hi hd
      have q : ¬ ((i : Int) < 8) := by omega
      exact run_inr (by simp only [M_crc_sum_step_p050, Tr.val_c, Tr.val_r, q, decide_false, cond_false]; rfl)
    | succ k ih =>
      intro i d hi hd
      have q : (i : Int) < 8 := by omega
      have w : IntKind.i64.wrap ((i : Int) + 1) = ((i + 1 : Nat) : Int) := by rw [i64_wrap (by omega) (by omega)]; omega
      have o := odd32 (X := d) hd
      have hf := half32 d
      by_cases h1 : d % 2 = 1
      · have x1 : bitsA .xor .u32 ((d / 2 : Nat) : Int) 3988292384 = ((d / 2 ^^^ 3988292384 : Nat) : Int) := xor32' (Y := 3988292384) (by omega) (by omega)
        have e : (((d % 2 : Nat) : Int) == 1) = true := by rw [h1]; rfl
        have hb : cb d = d / 2 ^^^ 3988292384 := by unfold cb; rw [if_pos h1]
        rw [run_inl (s := (((i + 1 : Nat) : Int), ((cb d : Nat) : Int))) (by simp only [M_crc_sum_step_p050, Tr.val_c, Tr.val_r, q, w, o, hf, x1, e, hb, decide_true, cond_true])]
        exact ih (i + 1) (cb d) (by omega) (cb_lt hd)
      · have e : (((d % 2 : Nat) : Int) == 1) = false := by
          have : d % 2 = 0 := by omega
          rw [this]; rfl
        have hb : cb d = d / 2 := by unfold cb; rw [if_neg h1]
        rw [run_inl (s := (((i + 1 : Nat) : Int), ((cb d : Nat) : Int))) (by simp only [M_crc_sum_step_p050, Tr.val_c, Tr.val_r, q, w, o, hf, e, hb, decide_true, cond_true, cond_false])]
        exact ih (i + 1) (cb d) (by omega) (cb_lt hd)
  exact key 8 0 _ rfl (xor_lt32 hc u2)

theorem each_eq (A : List AV) (hA : A.length < 8796093022208) : g_crc_each_0fstep_p50 A 4294967295 = some ((A.foldl crc1 4294967295 : Nat) : Int) := by
  unfold g_crc_each_0fstep_p50
  rw [run_inl (s := (((0 : Nat) : Int), ((4294967295 : Nat) : Int))) rfl]
  have key : ∀ k i d : Nat, i + k = A.length → d < 4294967296 → run (M_crc_each_0fstep_p50 A 4294967295) (M_crc_each_0fstep_p50 A 4294967295 ((i : Int), (d : Int))) = some (((A.drop i).foldl crc1 d : Nat) : Int) := by
    intro k
    induction k with
    | zero =>
      intro i d hi hd
      have q : ¬ ((i : Int) < A.length) := by omega
      rw [List.drop_of_length_le (by omega)]
      exact run_inr (by simp only [M_crc_each_0fstep_p50, Tr.val_c, Tr.val_r, q, decide_false, cond_false]; rfl)
    | succ k ih =>
      intro i d hi hd
      have q : (i : Int) < A.length := by omega
      have q2 : (0 : Int) ≤ i := by omega
      have q3 : i < A.length := by omega
      have w : IntKind.i64.wrap ((i : Int) + 1) = ((i + 1 : Nat) : Int) := by rw [i64_wrap (by omega) (by omega)]; omega
      have hg : A.getD i (.int .u8 0) = A[i] := by simp [List.getD_eq_getElem?_getD, q3]
      have hs := step_eq (getI A[i]) d hd
      rw [run_inl (s := (((i + 1 : Nat) : Int), ((crc1 d A[i] : Nat) : Int))) (by simp only [M_crc_each_0fstep_p50, Tr.val_c, Tr.val_r, val_opt, q, q2, w, hg, Int.toNat_natCast, hs, Option.bind_some, decide_true, cond_true]; rfl), ih (i + 1) _ (by omega) (crc1_lt _ hd), List.drop_eq_getElem_cons q3, List.foldl_cons]
  have := key A.length 0 4294967295 (by omega) (by omega)
  rwa [List.drop_zero] at this

theorem Of_eq (A : List AV) (hA : A.length < 8796093022208) : g_crc_Of A = some ((crcN A : Nat) : Int) := by
  have x1 : bitsA .xor .u32 ((A.foldl crc1 4294967295 : Nat) : Int) 4294967295 = ((crcN A : Nat) : Int) := xor32' (Y := 4294967295) (crcF_lt A (by omega)) (by omega)
  unfold g_crc_Of
  simp only [T_crc_Of, Tr.val_r, val_opt, each_eq A hA, Option.bind_some, x1]

theorem u64_crc (A : List AV) : IntKind.u64.wrap ((crcN A : Nat) : Int) = ((crcN A : Nat) : Int) := by
  have := crcN_lt A
  exact u64_wrap (by omega) (by omega)

theorem Seal_eq (A : List AV) (hA : A.length < 8796093022208) : g_crc_Seal A = some (A ++ bex ((crcN A : Nat) : Int) 4) := by
  have p := Put_eq A ((crcN A : Nat) : Int) 4 4 hA (by omega) (by decide)
  unfold g_crc_Seal
  simp only [T_crc_Seal, Tr.val_c, Tr.val_r, val_opt, Of_eq A hA, u64_crc, p, Option.bind_some, beq_self_eq_true, Bool.true_and, cond_true]

/-- What opens. -/
noncomputable def openR (A : List AV) : List AV × Int :=
  if A.length < 4 then ([], 3) else if IntKind.u32.wrap (numOf (A.drop (A.length - 4))) = ((crcN (A.take (A.length - 4)) : Nat) : Int) then (A.take (A.length - 4), 0) else ([], 8)

theorem Open_eq (A : List AV) (hA : A.length < 8796093022208) : g_crc_Open A = some (openR A) := by
  have w0 : IntKind.i64.wrap ((A.length : Int) - 4) = (A.length : Int) - 4 := i64_wrap (by omega) (by omega)
  have nw := New_eq A hA
  unfold g_crc_Open openR
  by_cases h4 : A.length < 4
  · have q : (if (0 : Int) > (A.length : Int) - 4 then (0 : Int) else (A.length : Int) - 4) = 0 := if_pos (by omega)
    have t := Take_eq 0 A 0 (by omega) hA
    rw [if_neg (by omega), if_neg (by omega), show ((0 : Nat) : Int) + 0 = ((0 : Nat) : Int) from rfl] at t
    have n := Number_eq 4 A 0 (by omega) hA
    rw [if_neg (by decide), if_neg (by decide), if_pos (by omega)] at n
    have t' : g_cursor_Cursor_Take_p0500 0 A 0 = _ := t
    have n' : g_cursor_Cursor_Number_p0500 4 A ((0 : Nat) : Int) = _ := n
    rw [if_pos h4]
    simp only [T_crc_Open, Tr.val_c, Tr.val_r, val_opt, w0, q, nw, t', n', Option.bind_some, bne_self_eq_false, cond_false]
    rfl
  · have q : (if (0 : Int) > (A.length : Int) - 4 then (0 : Int) else (A.length : Int) - 4) = ((A.length - 4 : Nat) : Int) := by rw [if_neg (by omega)]; omega
    have t := Take_eq ((A.length - 4 : Nat) : Int) A 0 (by omega) hA
    rw [if_neg (by omega), if_neg (by omega), show ((0 : Nat) : Int) + ((A.length - 4 : Nat) : Int) = ((A.length - 4 : Nat) : Int) by omega, List.drop_zero, Int.toNat_natCast] at t
    have n := Number_eq 4 A (A.length - 4) (by omega) hA
    rw [if_neg (by decide), if_neg (by decide), if_neg (by omega)] at n
    have hd : (A.drop (A.length - 4)).take (4 : Int).toNat = A.drop (A.length - 4) := List.take_of_length_le (by rw [List.length_drop, show (4 : Int).toNat = 4 from rfl]; omega)
    rw [hd] at n
    have t' : g_cursor_Cursor_Take_p0500 ((A.length - 4 : Nat) : Int) A 0 = _ := t
    have o := Of_eq (A.take (A.length - 4)) (by rw [List.length_take]; omega)
    rw [if_neg h4]
    by_cases he : IntKind.u32.wrap (numOf (A.drop (A.length - 4))) = ((crcN (A.take (A.length - 4)) : Nat) : Int)
    · rw [if_pos he]
      simp only [T_crc_Open, Tr.val_c, Tr.val_r, val_opt, w0, q, nw, t', n, o, he, Option.bind_some, bne_self_eq_false, cond_false]
    · have he' : (IntKind.u32.wrap (numOf (A.drop (A.length - 4))) != ((crcN (A.take (A.length - 4)) : Nat) : Int)) = true := by simpa using he
      rw [if_neg he]
      simp only [T_crc_Open, Tr.val_c, Tr.val_r, val_opt, w0, q, nw, t', n, o, he', Option.bind_some, bne_self_eq_false, cond_false, cond_true]


theorem num4_lt (b : List UInt8) (h : b.length = 4) : 0 ≤ numOf (bl b) ∧ numOf (bl b) < 4294967296 := by
  match b, h with
  | [b0, b1, b2, b3], _ =>
    have e : ∀ a : Nat, a < 16777216 → ∀ c : UInt8, bitsA .or .u64 (shlA .u64 (a : Int) 8) (IntKind.u64.wrap (getI (.int .u8 (c.toNat : Int)))) = ((a * 256 + c.toNat : Nat) : Int) := fun a ha c => byte_behind (by omega) c.toNat_lt
    have z : numOf (bl [b0, b1, b2, b3]) = bitsA .or .u64 (shlA .u64 (bitsA .or .u64 (shlA .u64 (bitsA .or .u64 (shlA .u64 (bitsA .or .u64 (shlA .u64 ((0 : Nat) : Int) 8) (IntKind.u64.wrap (getI (.int .u8 (b0.toNat : Int))))) 8) (IntKind.u64.wrap (getI (.int .u8 (b1.toNat : Int))))) 8) (IntKind.u64.wrap (getI (.int .u8 (b2.toNat : Int))))) 8) (IntKind.u64.wrap (getI (.int .u8 (b3.toNat : Int)))) := rfl
    have l0 := b0.toNat_lt
    have l1 := b1.toNat_lt
    have l2 := b2.toNat_lt
    have l3 := b3.toNat_lt
    rw [z, e 0 (by omega), e _ (by omega), e _ (by omega), e _ (by omega)]
    omega


/- records -/
def recR (A : List AV) : List AV := (bex (A.length : Int) 4 ++ A) ++ bex ((crcN (bex (A.length : Int) 4 ++ A) : Nat) : Int) 4

theorem Record_eq (A : List AV) (hA : A.length < 1000000) : g_journal_Record A = some (recR A) := by
  have w : IntKind.u64.wrap (A.length : Int) = (A.length : Int) := u64_wrap (by omega) (by omega)
  have p := Put_eq [] (A.length : Int) 4 4 (by simp) (by omega) (by decide)
  rw [List.nil_append] at p
  have c := Concat_eq (bex (A.length : Int) 4) A (by simp; omega)
  have s := Seal_eq (bex (A.length : Int) 4 ++ A) (by simp; omega)
  unfold g_journal_Record
  simp only [T_journal_Record, Tr.val_c, Tr.val_r, val_opt, w, p, c, s, Option.bind_some, beq_self_eq_true, Bool.true_and, cond_true]
  rfl

theorem openR_len (A : List AV) (h : (openR A).2 = 0) : 4 ≤ A.length ∧ (openR A).1.length = A.length - 4 := by
  unfold openR at h ⊢
  by_cases h4 : A.length < 4
  · rw [if_pos h4] at h; exact absurd h (by decide)
  · rw [if_neg h4] at h ⊢
    by_cases he : IntKind.u32.wrap (numOf (A.drop (A.length - 4))) = ((crcN (A.take (A.length - 4)) : Nat) : Int)
    · rw [if_pos he]
      exact ⟨by omega, by simp⟩
    · rw [if_neg he] at h; exact absurd h (by decide)

/-- The record that bytes begin with. -/
noncomputable def nextR (B : List AV) : Option (List AV × Nat) :=
  if 8 ≤ B.length ∧ (numOf (B.take 4)).toNat + 8 ≤ B.length ∧ (openR (B.take ((numOf (B.take 4)).toNat + 8))).2 = 0 then
    some ((openR (B.take ((numOf (B.take 4)).toNat + 8))).1.drop 4, (numOf (B.take 4)).toNat + 8) else none

noncomputable def nextT (B : List AV) : List AV × Bool × List AV := match nextR B with
  | some (t, k) => (t, true, B.drop k)
  | none => ([], false, B)

theorem num_take (b : List UInt8) (h : 4 ≤ b.length) : ∃ n : Nat, numOf ((bl b).take 4) = (n : Int) ∧ n < 4294967296 := by
  have hs : (bl b).take 4 = bl (b.take 4) := by simp [bl, List.map_take]
  obtain ⟨v1, v2⟩ := num4_lt (b.take 4) (by rw [List.length_take]; omega)
  rw [← hs] at v1 v2
  exact ⟨(numOf ((bl b).take 4)).toNat, by omega, by omega⟩

theorem next_eq (b : List UInt8) (hb : b.length < 1000000) : g_journal_walk_next_p50 (bl b) = some (nextT (bl b)) := by
  have lb : (bl b).length = b.length := by simp [bl]
  have hA : (bl b).length < 8796093022208 := by omega
  have nw := New_eq (bl b) hA
  have n := Number_eq 4 (bl b) 0 (by omega) hA
  rw [if_neg (by decide), if_neg (by decide)] at n
  unfold g_journal_walk_next_p50 nextT nextR
  by_cases h4 : (bl b).length < 4
  · rw [if_pos (by omega)] at n
    have n' : g_cursor_Cursor_Number_p0500 4 (bl b) 0 = _ := n
    have e3 : ((3 : Int) != 0) = true := rfl
    rw [if_neg (by omega)]
    simp only [T_journal_walk_next_p50, Tr.val_c, Tr.val_r, val_opt, nw, n', e3, Option.bind_some, cond_true]
  · rw [if_neg (by omega), List.drop_zero, show (4 : Int).toNat = 4 from rfl] at n
    obtain ⟨N, hN, hN2⟩ := num_take b (by omega)
    rw [hN] at n ⊢
    have n' : g_cursor_Cursor_Number_p0500 4 (bl b) 0 = _ := n
    have wl : IntKind.u64.wrap ((bl b).length : Int) = ((bl b).length : Int) := u64_wrap (by omega) (by omega)
    have w8 : IntKind.i64.wrap (IntKind.i64.wrap (IntKind.i64.wrap (N : Int) + 4) + 4) = ((N + 8 : Nat) : Int) := by
      rw [i64_wrap (n := (N : Int)) (by omega) (by omega), i64_wrap (n := (N : Int) + 4) (by omega) (by omega), i64_wrap (by omega) (by omega)]; omega
    rw [Int.toNat_natCast]
    by_cases h8 : N + 8 ≤ (bl b).length
    · have q1 : ¬ ((N : Int) > ((bl b).length : Int)) := by omega
      have q2 : ¬ (((N + 8 : Nat) : Int) > ((bl b).length : Int)) := by omega
      have q3 : (0 : Int) ≤ ((N + 8 : Nat) : Int) := by omega
      have q4 : ((N + 8 : Nat) : Int) ≤ ((bl b).length : Int) := by omega
      have q5 : ((bl b).length : Int) ≤ ((bl b).length : Int) := by omega
      have o := Open_eq ((bl b).take (N + 8)) (by rw [List.length_take]; omega)
      by_cases he : (openR ((bl b).take (N + 8))).2 = 0
      · obtain ⟨l1, l2⟩ := openR_len _ he
        rw [List.length_take] at l2
        have q6 : (4 : Int) ≤ ((openR ((bl b).take (N + 8))).1.length : Int) := by omega
        have q7 : ((openR ((bl b).take (N + 8))).1.length : Int) ≤ ((openR ((bl b).take (N + 8))).1.length : Int) := by omega
        rw [if_pos ⟨by omega, h8, he⟩]
        simp only [T_journal_walk_next_p50, Tr.val_c, Tr.val_r, val_opt, nw, n', wl, w8, q1, q2, q3, q4, q5, q6, q7, o, he, Int.toNat_natCast, List.drop_zero, List.take_length, Option.bind_some, decide_true, decide_false, bne_self_eq_false, cond_true, cond_false]
      · have he' : ((openR ((bl b).take (N + 8))).2 != 0) = true := by simpa using he
        rw [if_neg (fun h => he h.2.2)]
        simp only [T_journal_walk_next_p50, Tr.val_c, Tr.val_r, val_opt, nw, n', wl, w8, q1, q2, q3, q4, q5, o, he', Int.toNat_natCast, List.drop_zero, Option.bind_some, decide_true, decide_false, bne_self_eq_false, cond_true, cond_false]
    · have q2 : ((N + 8 : Nat) : Int) > ((bl b).length : Int) := by omega
      rw [if_neg (fun h => h8 h.2.1)]
      by_cases q1 : (N : Int) > ((bl b).length : Int)
      · simp only [T_journal_walk_next_p50, Tr.val_c, Tr.val_r, val_opt, nw, n', wl, q1, Option.bind_some, decide_true, bne_self_eq_false, cond_true, cond_false]
      · simp only [T_journal_walk_next_p50, Tr.val_c, Tr.val_r, val_opt, nw, n', wl, w8, q1, q2, Option.bind_some, decide_true, decide_false, bne_self_eq_false, cond_true, cond_false]

theorem awake23 : g_comptoirlaw23_awake = some true := by
  have r := Record_eq [.int .u8 7] (by simp)
  have e : recR [.int .u8 7] = bl (bytesOf (recR [.int .u8 7])) := by kernel_rfl
  have l : (bytesOf (recR [.int .u8 7])).length = 9 := by kernel_rfl
  have l9 : (recR [.int .u8 7]).length = 9 := by kernel_rfl
  have n1 := next_eq (bytesOf (recR [.int .u8 7])) (by omega)
  rw [← e] at n1
  have t1 : nextT (recR [.int .u8 7]) = ([.int .u8 7], true, []) := by kernel_rfl
  rw [t1] at n1
  have n2 : g_journal_walk_next_p50 [] = some (nextT []) := next_eq [] (by simp)
  have t2 : nextT [] = ([], false, []) := by kernel_rfl
  rw [t2] at n2
  have ev : g_journal_every_fnext_p50 (recR [.int .u8 7]) = some ([.slice 1 (.int .u8) [.int .u8 7] .ro], []) := by
    unfold g_journal_every_fnext_p50
    rw [run_inl (s := ([.int .u8 7], true, [], [])) (by simp only [T_journal_every_fnext_p50, Tr.val_r, val_opt, n1, Option.bind_some])]
    rw [run_inl (s := ([], false, [], [.slice 1 (.int .u8) [.int .u8 7] .ro])) (by simp only [M_journal_every_fnext_p50, Tr.val_c, Tr.val_r, val_opt, n2, Option.bind_some, beq_self_eq_true, cond_true, List.nil_append]; rfl)]
    exact run_inr (by simp only [M_journal_every_fnext_p50, Tr.val_c, Tr.val_r, beq_self_eq_true, cond_true, cond_false])
  have s : g_journal_Scan (recR [.int .u8 7]) = some ([.slice 1 (.int .u8) [.int .u8 7] .ro], 9) := by
    unfold g_journal_Scan
    simp only [T_journal_Scan, Tr.val_r, val_opt, ev, l9, Option.bind_some]
    rfl
  unfold g_comptoirlaw23_awake
  simp only [T_comptoirlaw23_awake, Tr.val_c, Tr.val_r, val_opt, r, s, Option.bind_some]
  rfl

theorem Same_self (L : List AV) (hL : L.length < 8796093022208) : g_comptoirhelp_Same_byte_00fBytes_ L L = some true := by
  unfold g_comptoirhelp_Same_byte_00fBytes_
  rw [run_inl (s := (0 : Int)) (by simp only [T_comptoirhelp_Same_byte_00fBytes_, Tr.val_c, Tr.val_r, bne_self_eq_false, cond_false])]
  exact run_until (f := fun i => (i : Int)) (n := L.length) (fun i hi => by
    have q1 : (i : Int) < L.length := by omega
    have q2 : (0 : Int) ≤ i := by omega
    have w : IntKind.i64.wrap ((i : Int) + 1) = ((i + 1 : Nat) : Int) := by rw [i64_wrap (by omega) (by omega)]; omega
    simp only [M_comptoirhelp_Same_byte_00fBytes_, Tr.val_c, Tr.val_r, q1, q2, w, decide_true, cond_true, beq_self_eq_true, Bool.not_true, cond_false]) (by
    have q1 : ¬ ((L.length : Int) < L.length) := by omega
    simp only [M_comptoirhelp_Same_byte_00fBytes_, Tr.val_c, Tr.val_r, q1, decide_false, cond_false])


/- rows of bytes -/
def slb (b : List UInt8) : AV := .slice 1 (.int .u8) (bl b) .ro
@[simp] theorem getXs_slb (b : List UInt8) : getXs (slb b) = bl b := rfl
@[simp] theorem length_bl (b : List UInt8) : (bl b).length = b.length := by simp [bl]
theorem wf_rows : ∀ {xs : List AV}, (∀ y ∈ xs, Wf (.slice 1 (.int .u8)) y) → ∃ L : List (List UInt8), xs = L.map slb
  | [], _ => ⟨[], rfl⟩
  | x :: xs, h => by
    obtain ⟨L, hL⟩ := wf_rows (xs := xs) fun y hy => h y (by simp [hy])
    obtain ⟨b, hb, _⟩ := wf_bytes (h x (by simp))
    exact ⟨b :: L, by rw [hb, hL]; rfl⟩
theorem slb_getD (L : List (List UInt8)) (i : Nat) : (L.map slb).getD i (.slice 1 (.int .u8) [] .ro) = slb (L.getD i []) := by
  rw [List.getD_eq_getElem?_getD, List.getD_eq_getElem?_getD, List.getElem?_map]
  cases L[i]? <;> rfl

/- records, one behind the other -/
def bexb (v : Nat) : Nat → List UInt8
  | 0 => []
  | i + 1 => UInt8.ofNat (v / 256 ^ i % 256) :: bexb v i
@[simp] theorem length_bexb (v i : Nat) : (bexb v i).length = i := by induction i <;> simp [bexb, *]
theorem bex_bl (v : Nat) : ∀ i : Nat, bex (v : Int) i = bl (bexb v i)
  | 0 => rfl
  | i + 1 => by
    have hy : v / 256 ^ i % 256 < 256 := Nat.mod_lt _ (by omega)
    have hc : ((v : Int) / 256 ^ i % 256) = ((v / 256 ^ i % 256 : Nat) : Int) := by rw [Int.natCast_emod, Int.natCast_ediv, Int.natCast_pow]; rfl
    rw [bex, bexb, hc, bex_bl v i, ← byte_ofNat hy]; rfl

/-- A record. -/
noncomputable def recb (a : List UInt8) : List UInt8 := (bexb a.length 4 ++ a) ++ bexb (crcN (bl (bexb a.length 4 ++ a))) 4
@[simp] theorem length_recb (a : List UInt8) : (recb a).length = a.length + 8 := by simp [recb] <;> omega
theorem recR_bl (a : List UInt8) : recR (bl a) = bl (recb a) := by
  unfold recR recb
  have e : bex ((bl a).length : Int) 4 ++ bl a = bl (bexb a.length 4 ++ a) := by rw [length_bl, bex_bl, bl_append]
  rw [e, bex_bl, ← bl_append]

theorem openR_rec (a : List UInt8) : openR (bl (recb a)) = (bl (bexb a.length 4 ++ a), 0) := by
  have hl : (bl (recb a)).length = a.length + 8 := by simp
  have hx : (bexb a.length 4 ++ a).length = a.length + 4 := by simp <;> omega
  have ht : (bl (recb a)).take (a.length + 4) = bl (bexb a.length 4 ++ a) := by rw [bl_take]; congr 1; rw [recb, List.take_left' hx]
  have hd : (bl (recb a)).drop (a.length + 4) = bex ((crcN (bl (bexb a.length 4 ++ a)) : Nat) : Int) 4 := by rw [bl_drop, bex_bl]; congr 1; rw [recb, List.drop_left' hx]
  have hc := crcN_lt (bl (bexb a.length 4 ++ a))
  unfold openR
  rw [if_neg (by omega), hl, show a.length + 8 - 4 = a.length + 4 by omega, ht, hd, numOf_bex _ _ (by omega), Nat.mod_eq_of_lt (by simpa using hc), if_pos (u32_wrap (by omega) (by omega))]

theorem nextR_rec (a r : List UInt8) (ha : a.length < 1000000) : nextR (bl (recb a ++ r)) = some (bl a, a.length + 8) := by
  have hl : (bl (recb a ++ r)).length = a.length + 8 + r.length := by simp <;> omega
  have h4 : (bl (recb a ++ r)).take 4 = bex (a.length : Int) 4 := by
    rw [bl_take, bex_bl, recb, List.append_assoc, List.append_assoc, List.take_left' (by simp)]
  have hn : (numOf ((bl (recb a ++ r)).take 4)).toNat = a.length := by
    rw [h4, numOf_bex _ _ (by omega), Nat.mod_eq_of_lt (by omega), Int.toNat_natCast]
  have ht : (bl (recb a ++ r)).take (a.length + 8) = bl (recb a) := by rw [bl_take, List.take_left' (by simp)]
  unfold nextR
  rw [hn, ht, openR_rec, if_pos ⟨by omega, by omega, rfl⟩]
  have : (bl (bexb a.length 4 ++ a)).drop 4 = bl a := by rw [bl_drop, List.drop_left' (by simp)]
  simp only [this]

noncomputable def recsb (L : List (List UInt8)) : List UInt8 := L.flatMap recb
theorem recsb_cons (a : List UInt8) (L : List (List UInt8)) : recsb (a :: L) = recb a ++ recsb L := rfl
theorem recsb_append (K L : List (List UInt8)) : recsb (K ++ L) = recsb K ++ recsb L := by simp [recsb]
theorem recsb_len {L : List (List UInt8)} {m : Nat} (h : ∀ a ∈ L, a.length ≤ m) : (recsb L).length ≤ L.length * (m + 8) ∧ L.length * 8 ≤ (recsb L).length := by
  induction L with
  | nil => simp [recsb]
  | cons a L ih =>
    have h1 := h a (by simp)
    obtain ⟨i1, i2⟩ := ih fun b hb => h b (by simp [hb])
    rw [recsb_cons, List.length_append, length_recb, List.length_cons, Nat.succ_mul, Nat.succ_mul]
    omega

theorem nextT_rec (a r : List UInt8) (ha : a.length < 1000000) : nextT (bl (recb a ++ r)) = (bl a, true, bl r) := by
  unfold nextT
  rw [nextR_rec a r ha]
  have : (bl (recb a ++ r)).drop (a.length + 8) = bl r := by rw [bl_drop, List.drop_left' (by simp)]
  simp only [this]
theorem nextT_none {r : List UInt8} (h : nextR (bl r) = none) : nextT (bl r) = ([], false, bl r) := by unfold nextT; rw [h]

theorem every_recs (B : List AV) (r : List UInt8) (hr : nextR (bl r) = none) : ∀ (L : List (List UInt8)) (acc : List AV), (recsb L ++ r).length < 1000000 → acc.length + L.length < 100000 → (∀ a ∈ L, a.length < 1000000) →
    run (M_journal_every_fnext_p50 B) (M_journal_every_fnext_p50 B ((nextT (bl (recsb L ++ r))).1, (nextT (bl (recsb L ++ r))).2.1, (nextT (bl (recsb L ++ r))).2.2, acc)) = some (acc ++ L.map slb, bl r)
  | [], acc, _, _, _ => by
    show run _ (M_journal_every_fnext_p50 B ((nextT (bl r)).1, (nextT (bl r)).2.1, (nextT (bl r)).2.2, acc)) = _
    rw [nextT_none hr]
    exact run_inr (by simp only [M_journal_every_fnext_p50, Tr.val_c, Tr.val_r, beq_self_eq_true, cond_true, cond_false, List.map_nil, List.append_nil])
  | a :: L, acc, hl, hc, hL => by
    have ha := hL a (by simp)
    rw [recsb_cons, List.append_assoc, nextT_rec _ _ ha]
    have hl2 : (recsb L ++ r).length < 1000000 := by rw [recsb_cons, List.append_assoc, List.length_append] at hl; omega
    have nx := next_eq (recsb L ++ r) hl2
    simp only [List.length_cons] at hc
    have lacc : (acc ++ [AV.slice 1 (.int .u8) (bl a) .ro]).length * 25 < 70368744177664 := by simp <;> omega
    have ih := every_recs B r hr L (acc ++ [slb a]) hl2 (by simp <;> omega) fun b hb => hL b (by simp [hb])
    rw [run_inl (s := ((nextT (bl (recsb L ++ r))).1, (nextT (bl (recsb L ++ r))).2.1, (nextT (bl (recsb L ++ r))).2.2, acc ++ [slb a])) (by
      simp only [M_journal_every_fnext_p50, Tr.val_c, Tr.val_r, val_opt, lacc, nx, Option.bind_some, decide_true, beq_self_eq_true, cond_true]; rfl), ih]
    simp

theorem Scan_recs (L : List (List UInt8)) (r : List UInt8) (hr : nextR (bl r) = none) (hl : (recsb L ++ r).length < 1000000) (hc : L.length < 10000) (hL : ∀ a ∈ L, a.length < 1000000) :
    g_journal_Scan (bl (recsb L ++ r)) = some (L.map slb, ((recsb L).length : Int)) := by
  have nx := next_eq (recsb L ++ r) hl
  have ev : g_journal_every_fnext_p50 (bl (recsb L ++ r)) = some (L.map slb, bl r) := by
    unfold g_journal_every_fnext_p50
    rw [run_inl (s := ((nextT (bl (recsb L ++ r))).1, (nextT (bl (recsb L ++ r))).2.1, (nextT (bl (recsb L ++ r))).2.2, [])) (by simp only [T_journal_every_fnext_p50, Tr.val_r, val_opt, nx, Option.bind_some])]
    have := every_recs (bl (recsb L ++ r)) r hr L [] hl (by simp <;> omega) hL
    rwa [List.nil_append] at this
  have hw : IntKind.i64.wrap (((bl (recsb L ++ r)).length : Int) - ((bl r).length : Int)) = ((recsb L).length : Int) := by
    have e : ((bl (recsb L ++ r)).length : Int) - ((bl r).length : Int) = ((recsb L).length : Int) := by rw [length_bl, length_bl, List.length_append]; omega
    rw [e]; rw [List.length_append] at hl; exact i64_wrap (by omega) (by omega)
  unfold g_journal_Scan
  simp only [T_journal_Scan, Tr.val_r, val_opt, ev, hw, Option.bind_some]

theorem nextR_short {r : List UInt8} (h : r.length < 8) : nextR (bl r) = none := by unfold nextR; rw [if_neg (by rw [length_bl]; omega)]

/- sums are linear -/
theorem cb_xor (a b : Nat) : cb (a ^^^ b) = cb a ^^^ cb b := by
  have hd : (a ^^^ b) / 2 = a / 2 ^^^ b / 2 := Nat.xor_div_two
  have hm : (a ^^^ b) % 2 = 1 ↔ ¬ (a % 2 = 1 ↔ b % 2 = 1) := Nat.xor_mod_two_eq_one
  have k : ∀ x y K : Nat, (x ^^^ K) ^^^ (y ^^^ K) = x ^^^ y := fun x y K => by
    rw [Nat.xor_assoc, Nat.xor_comm y K, ← Nat.xor_assoc K K y, Nat.xor_self, Nat.zero_xor]
  unfold cb
  by_cases ha : a % 2 = 1 <;> by_cases hb : b % 2 = 1
  · rw [if_neg (by rw [hm]; simp [ha, hb]), if_pos ha, if_pos hb, hd, k]
  · rw [if_pos (by rw [hm]; simp [ha, hb]), if_pos ha, if_neg hb, hd, Nat.xor_assoc, Nat.xor_assoc, Nat.xor_comm (b / 2)]
  · rw [if_pos (by rw [hm]; simp [ha, hb]), if_neg ha, if_pos hb, hd, Nat.xor_assoc]
  · rw [if_neg (by rw [hm]; simp [ha, hb]), if_neg ha, if_neg hb, hd]
theorem cbs_xor : ∀ (k a b : Nat), cbs k (a ^^^ b) = cbs k a ^^^ cbs k b
  | 0, _, _ => rfl
  | k + 1, a, b => by rw [cbs, cb_xor, cbs_xor k]; rfl
theorem cbs_add : ∀ (j k a : Nat), cbs (j + k) a = cbs k (cbs j a)
  | 0, k, a => by rw [Nat.zero_add]; rfl
  | j + 1, k, a => by rw [show j + 1 + k = (j + k) + 1 by omega, cbs, cbs_add j k]; rfl
theorem cbs_shift : ∀ (k a : Nat), cbs k (2 ^ k * a) = a
  | 0, a => by simp [cbs]
  | k + 1, a => by
    have e : 2 ^ (k + 1) * a = 2 * (2 ^ k * a) := by rw [Nat.pow_succ, Nat.mul_comm (2 ^ k) 2, Nat.mul_assoc]
    have h : cb (2 * (2 ^ k * a)) = 2 ^ k * a := by
      unfold cb
      rw [if_neg (by omega)]; omega
    rw [cbs, e, h, cbs_shift k a]
/-- Eight steps at a number: those at its lowest byte, and the others moved down. -/
theorem cbs_byte (v : Nat) : cbs 8 v = cbs 8 (v % 256) ^^^ v / 256 := by
  have h := Nat.two_pow_add_eq_or_of_lt (i := 8) (b := v % 256) (by omega) (v / 256)
  have e : v = (2 ^ 8 * (v / 256)) ^^^ (v % 256) := by
    have h2 : 2 ^ 8 * (v / 256) ^^^ v % 256 = 2 ^ 8 * (v / 256) ||| v % 256 := by
      apply Nat.eq_of_testBit_eq
      intro i
      rw [Nat.testBit_xor, Nat.testBit_or]
      by_cases hi : i < 8
      · have : (2 ^ 8 * (v / 256)).testBit i = false := by rw [Nat.testBit_two_pow_mul]; simp; omega
        rw [this]; simp
      · have : (v % 256).testBit i = false := Nat.testBit_lt_two_pow (Nat.lt_of_lt_of_le (Nat.mod_lt _ (by omega)) (show 2 ^ 8 ≤ 2 ^ i from Nat.pow_le_pow_right (by omega) (by omega)))
        rw [this]; simp
    rw [h2, ← h]; omega
  conv => lhs; rw [e]
  rw [cbs_xor, cbs_shift, Nat.xor_comm]

theorem cb_inj {a b : Nat} (ha : a < 4294967296) (hb : b < 4294967296) (h : cb a = cb b) : a = b := by
  have t : ∀ x y : Nat, x < 4294967296 → y < 4294967296 → x / 2 ^^^ 3988292384 ≠ y / 2 := by
    intro x y hx hy e
    have e2 := congrArg (fun z => Nat.testBit z 31) e
    simp only [Nat.testBit_xor] at e2
    rw [Nat.testBit_lt_two_pow (x := x / 2) (i := 31) (by omega), Nat.testBit_lt_two_pow (x := y / 2) (i := 31) (by omega)] at e2
    revert e2; decide
  unfold cb at h
  by_cases h1 : a % 2 = 1 <;> by_cases h2 : b % 2 = 1
  · rw [if_pos h1, if_pos h2] at h
    have : a / 2 = b / 2 := by
      have := congrArg (· ^^^ 3988292384) h
      simp only [Nat.xor_assoc, Nat.xor_self, Nat.xor_zero] at this
      exact this
    omega
  · rw [if_pos h1, if_neg h2] at h
    exact absurd h (t a b ha hb)
  · rw [if_neg h1, if_pos h2] at h
    exact absurd h.symm (t b a hb ha)
  · rw [if_neg h1, if_neg h2] at h
    omega
theorem cbs_inj : ∀ (k : Nat) {a b : Nat}, a < 4294967296 → b < 4294967296 → cbs k a = cbs k b → a = b
  | 0, _, _, _, _, h => h
  | k + 1, _, _, ha, hb, h => cb_inj ha hb (cbs_inj k (cb_lt ha) (cb_lt hb) h)
theorem xor_inj {a b K : Nat} (h : a ^^^ K = b ^^^ K) : a = b := by
  have := congrArg (· ^^^ K) h
  simp only [Nat.xor_assoc, Nat.xor_self, Nat.xor_zero] at this
  exact this
theorem crc1_inj {a b : Nat} (y : AV) (ha : a < 4294967296) (hb : b < 4294967296) (h : crc1 a y = crc1 b y) : a = b :=
  xor_inj (cbs_inj 8 (xor_lt32 ha (u32_nat _).2) (xor_lt32 hb (u32_nat _).2) h)
theorem crcF_inj : ∀ (l : List AV) {a b : Nat}, a < 4294967296 → b < 4294967296 → l.foldl crc1 a = l.foldl crc1 b → a = b
  | [], _, _, _, _, h => h
  | y :: l, _, _, ha, hb, h => crc1_inj y ha hb (crcF_inj l (crc1_lt y ha) (crc1_lt y hb) h)
theorem crc1_nat (c n : Nat) (h : n < 4294967296) : crc1 c (.int .u8 (n : Int)) = cbs 8 (c ^^^ n) := by
  unfold crc1
  rw [getI_int, u32_wrap (by omega) (by omega), Int.toNat_natCast]
/-- Four bytes, the lowest first, are as if all came at once. -/
theorem crc4 (s v : Nat) (hv : v < 4294967296) : [AV.int .u8 ((v % 256 : Nat) : Int), .int .u8 ((v / 256 % 256 : Nat) : Int), .int .u8 ((v / 65536 % 256 : Nat) : Int), .int .u8 ((v / 16777216 % 256 : Nat) : Int)].foldl crc1 s = cbs 32 (s ^^^ v) := by
  have b1 := cbs_byte v
  have b2 := cbs_byte (v / 256)
  have b3 := cbs_byte (v / 65536)
  have b4 := cbs_byte (v / 16777216)
  rw [show v / 256 / 256 = v / 65536 by omega] at b2
  rw [show v / 65536 / 256 = v / 16777216 by omega] at b3
  rw [show v / 16777216 / 256 = 0 by omega, Nat.xor_zero] at b4
  simp only [List.foldl_cons, List.foldl_nil]
  rw [crc1_nat _ _ (by omega), crc1_nat _ _ (by omega), crc1_nat _ _ (by omega), crc1_nat _ _ (by omega)]
  rw [show (32 : Nat) = 8 + (8 + (8 + 8)) from rfl, cbs_add, cbs_add, cbs_add, cbs_xor 8 s v, b1, ← Nat.xor_assoc (cbs 8 s), ← cbs_xor 8 s, cbs_xor 8 _ (v / 256), b2, ← Nat.xor_assoc, ← cbs_xor 8, cbs_xor 8 _ (v / 65536), b3, ← Nat.xor_assoc, ← cbs_xor 8, cbs_xor 8 _ (v / 16777216), b4, ← cbs_xor 8]

/- what is left of a word whose sum is wrong -/
theorem foldl_xor (l : List AV) : ∀ (c d : Nat), l.foldl crc1 (c ^^^ d) = l.foldl crc1 c ^^^ cbs (8 * l.length) d := by
  induction l with
  | nil => intro c d; rfl
  | cons y l ih =>
    intro c d
    have e : crc1 (c ^^^ d) y = crc1 c y ^^^ cbs 8 d := by
      unfold crc1
      rw [← cbs_xor]; congr 1
      rw [Nat.xor_assoc, Nat.xor_assoc, Nat.xor_comm d]
    rw [List.foldl_cons, List.foldl_cons, e, ih, List.length_cons, show 8 * (l.length + 1) = 8 + 8 * l.length by omega, cbs_add]

theorem crc1_flip (c a e : Nat) (ha : a < 256) (he : e < 256) : crc1 c (.int .u8 ((a ^^^ e : Nat) : Int)) = crc1 c (.int .u8 (a : Int)) ^^^ cbs 8 e := by
  have hx : a ^^^ e < 256 := Nat.xor_lt_two_pow (n := 8) ha he
  rw [crc1_nat _ _ (by omega), crc1_nat _ _ (by omega), ← cbs_xor, Nat.xor_assoc]

theorem foldl_flip : ∀ (l : List AV) (p c a e : Nat), a < 256 → e < 256 → l[p]? = some (.int .u8 (a : Int)) →
    (l.set p (.int .u8 ((a ^^^ e : Nat) : Int))).foldl crc1 c = l.foldl crc1 c ^^^ cbs (8 * (l.length - p)) e
  | [], p, c, a, e, _, _, h => by simp at h
  | y :: l, 0, c, a, e, ha, he, h => by
    simp at h; subst h
    rw [List.set_cons_zero, List.foldl_cons, List.foldl_cons, crc1_flip c a e ha he, foldl_xor, ← cbs_add, List.length_cons]
    congr 2; omega
  | y :: l, p + 1, c, a, e, ha, he, h => by
    rw [List.set_cons_succ, List.foldl_cons, List.foldl_cons, foldl_flip l p _ a e ha he (by simpa using h), List.length_cons]
    congr 2; omega

/-- Four bytes as a number. -/
def num4 (a b c d : Nat) : Nat := ((a * 256 + b) * 256 + c) * 256 + d
theorem behind_xor {a b x y : Nat} (hb : b < 256) (hy : y < 256) : (a * 256 + b) ^^^ (x * 256 + y) = (a ^^^ x) * 256 + (b ^^^ y) := by
  have hx : b ^^^ y < 256 := Nat.xor_lt_two_pow (n := 8) hb hy
  apply Nat.eq_of_testBit_eq
  intro i
  have h1 : a * 256 + b = 2 ^ 8 * a + b := by rw [Nat.mul_comm]
  have h2 : x * 256 + y = 2 ^ 8 * x + y := by rw [Nat.mul_comm]
  have h3 : (a ^^^ x) * 256 + (b ^^^ y) = 2 ^ 8 * (a ^^^ x) + (b ^^^ y) := by rw [Nat.mul_comm]
  rw [h1, h2, h3, Nat.testBit_xor, Nat.testBit_two_pow_mul_add _ (by omega), Nat.testBit_two_pow_mul_add _ (by omega), Nat.testBit_two_pow_mul_add _ (by omega)]
  split <;> rw [Nat.testBit_xor]
theorem num4_xor {a b c d x y z t : Nat} (hb : b < 256) (hc : c < 256) (hd : d < 256) (hy : y < 256) (hz : z < 256) (ht : t < 256) :
    num4 a b c d ^^^ num4 x y z t = num4 (a ^^^ x) (b ^^^ y) (c ^^^ z) (d ^^^ t) := by
  unfold num4
  rw [behind_xor hd ht, behind_xor hc hz, behind_xor hb hy]

theorem num4_3 (e : Nat) : num4 e 0 0 0 = e * 256 ^ 3 := by unfold num4; omega
theorem num4_2 (e : Nat) : num4 0 e 0 0 = e * 256 ^ 2 := by unfold num4; omega
theorem num4_1 (e : Nat) : num4 0 0 e 0 = e * 256 ^ 1 := by unfold num4; omega
theorem num4_0 (e : Nat) : num4 0 0 0 e = e * 256 ^ 0 := by unfold num4; omega

def byt (n : Nat) : AV := .int .u8 (n : Int)
theorem numOf4 {a b c d : Nat} (ha : a < 256) (hb : b < 256) (hc : c < 256) (hd : d < 256) : numOf [byt a, byt b, byt c, byt d] = ((num4 a b c d : Nat) : Int) := by
  have e1 := byte_behind (a := 0) (y := a) (by omega) ha
  have e2 := byte_behind (a := 0 * 256 + a) (y := b) (by omega) hb
  have e3 := byte_behind (a := (0 * 256 + a) * 256 + b) (y := c) (by omega) hc
  have e4 := byte_behind (a := ((0 * 256 + a) * 256 + b) * 256 + c) (y := d) (by omega) hd
  have r : num4 a b c d = (((0 * 256 + a) * 256 + b) * 256 + c) * 256 + d := by unfold num4; omega
  rw [r, ← e4, ← e3, ← e2, ← e1]
  rfl
theorem num4_lt' {a b c d : Nat} (ha : a < 256) (hb : b < 256) (hc : c < 256) (hd : d < 256) : num4 a b c d < 4294967296 := by unfold num4; omega

/-- A word: bytes, and four behind them. -/
structure Word (n : Nat) (m : List AV) (l : List AV) (a b c d : Nat) : Prop where
  eq : m = l ++ [byt a, byt b, byt c, byt d]
  len : l.length = n
  ha : a < 256
  hb : b < 256
  hc : c < 256
  hd : d < 256

/-- What is left. -/
def syn (l : List AV) (a b c d : Nat) : Nat := crcN l ^^^ num4 a b c d

theorem xor_zero_iff {a b : Nat} : a ^^^ b = 0 ↔ a = b := by
  constructor
  · intro h
    have := congrArg (· ^^^ b) h
    simpa [Nat.xor_assoc] using this
  · rintro rfl; exact Nat.xor_self a

theorem Word.open_ {n : Nat} {m l : List AV} {a b c d : Nat} (h : Word n m l a b c d) : openR m = if syn l a b c d = 0 then (l, 0) else ([], 8) := by
  obtain ⟨rfl, rfl, ha, hb, hc, hd⟩ := h
  have hl : (l ++ [byt a, byt b, byt c, byt d]).length - 4 = l.length := by simp
  have h4 : ¬ (l ++ [byt a, byt b, byt c, byt d]).length < 4 := by simp
  unfold openR
  rw [if_neg h4, hl, List.drop_left' rfl, List.take_left' rfl, numOf4 ha hb hc hd]
  have := num4_lt' ha hb hc hd
  rw [u32_wrap (by omega) (by omega)]
  unfold syn
  by_cases he : crcN l = num4 a b c d
  · rw [if_pos (by omega), if_pos (xor_zero_iff.2 he)]
  · rw [if_neg (by omega), if_neg (fun h => he (xor_zero_iff.1 h))]

/-- How much a byte that is turned at a place weighs. -/
def weight (n p e : Nat) : Nat := if p < n then cbs (8 * (n - p)) e else e * 256 ^ (n + 3 - p)

theorem Word.flip {n : Nat} {m l : List AV} {a b c d : Nat} (h : Word n m l a b c d) {p e : Nat} (hp : p < n + 4) (he : e < 256) (hB : ∀ x ∈ l, ∃ k, k < 256 ∧ x = byt k) :
    ∃ l' a' b' c' d' k, m.getD p (.int .u8 0) = .int .u8 ((k : Nat) : Int) ∧ k < 256 ∧ Word n (m.set p (.int .u8 ((k ^^^ e : Nat) : Int))) l' a' b' c' d' ∧ (∀ x ∈ l', ∃ k, k < 256 ∧ x = byt k) ∧ syn l' a' b' c' d' = syn l a b c d ^^^ weight n p e := by
  obtain ⟨rfl, rfl, ha, hb, hc, hd⟩ := h
  have x8 : ∀ {k : Nat}, k < 256 → k ^^^ e < 256 := fun hk => Nat.xor_lt_two_pow (n := 8) hk he
  by_cases hpn : p < l.length
  · obtain ⟨k, hk, hx⟩ := hB l[p] (List.getElem_mem hpn)
    refine ⟨l.set p (byt (k ^^^ e)), a, b, c, d, k, ?_, hk, ⟨?_, by simp, ha, hb, hc, hd⟩, fun x hx' => ?_, ?_⟩
    · rw [List.getD_eq_getElem?_getD, List.getElem?_append_left hpn, List.getElem?_eq_getElem hpn, hx]; rfl
    · rw [List.set_append_left _ _ hpn]; rfl
    · rcases List.mem_or_eq_of_mem_set hx' with hx' | rfl
      · exact hB x hx'
      · exact ⟨_, x8 hk, rfl⟩
    · have := foldl_flip l p 4294967295 k e hk he (by rw [List.getElem?_eq_getElem hpn, hx]; rfl)
      unfold syn crcN weight
      rw [if_pos hpn]
      unfold byt
      rw [this]
      simp only [Nat.xor_assoc]
      congr 1
      rw [Nat.xor_comm, Nat.xor_assoc]
  · have hw : weight l.length p e = e * 256 ^ (l.length + 3 - p) := by unfold weight; rw [if_neg hpn]
    have hs : ∀ (y : AV), (l ++ [byt a, byt b, byt c, byt d]).set p y = l ++ [byt a, byt b, byt c, byt d].set (p - l.length) y := fun y => List.set_append_right _ _ (by omega)
    have hg : (l ++ [byt a, byt b, byt c, byt d]).getD p (.int .u8 0) = [byt a, byt b, byt c, byt d].getD (p - l.length) (.int .u8 0) := by
      rw [List.getD_eq_getElem?_getD, List.getElem?_append_right (by omega), ← List.getD_eq_getElem?_getD]
    have n4 : ∀ x y z t : Nat, y < 256 → z < 256 → t < 256 → syn l (a ^^^ x) (b ^^^ y) (c ^^^ z) (d ^^^ t) = syn l a b c d ^^^ num4 x y z t := by
      intro x y z t hy hz ht
      unfold syn
      rw [Nat.xor_assoc, num4_xor hb hc hd hy hz ht]
    rcases (show p - l.length = 0 ∨ p - l.length = 1 ∨ p - l.length = 2 ∨ p - l.length = 3 by omega) with hq | hq | hq | hq
    · refine ⟨l, a ^^^ e, b, c, d, a, by rw [hg, hq]; rfl, ha, ⟨by rw [hs, hq]; rfl, rfl, x8 ha, hb, hc, hd⟩, hB, ?_⟩
      have := n4 e 0 0 0 (by omega) (by omega) (by omega)
      simp only [Nat.xor_zero] at this
      rw [this, hw, show l.length + 3 - p = 3 by omega, num4_3]
    · refine ⟨l, a, b ^^^ e, c, d, b, by rw [hg, hq]; rfl, hb, ⟨by rw [hs, hq]; rfl, rfl, ha, x8 hb, hc, hd⟩, hB, ?_⟩
      have := n4 0 e 0 0 (by omega) (by omega) (by omega)
      simp only [Nat.xor_zero] at this
      rw [this, hw, show l.length + 3 - p = 2 by omega, num4_2]
    · refine ⟨l, a, b, c ^^^ e, d, c, by rw [hg, hq]; rfl, hc, ⟨by rw [hs, hq]; rfl, rfl, ha, hb, x8 hc, hd⟩, hB, ?_⟩
      have := n4 0 0 e 0 (by omega) (by omega) (by omega)
      simp only [Nat.xor_zero] at this
      rw [this, hw, show l.length + 3 - p = 1 by omega, num4_1]
    · refine ⟨l, a, b, c, d ^^^ e, d, by rw [hg, hq]; rfl, hd, ⟨by rw [hs, hq]; rfl, rfl, ha, hb, hc, x8 hd⟩, hB, ?_⟩
      have := n4 0 0 0 e (by omega) (by omega) (by omega)
      simp only [Nat.xor_zero] at this
      rw [this, hw, show l.length + 3 - p = 0 by omega, num4_0]

/- bits -/
theorem cbs_zero : ∀ k, cbs k 0 = 0
  | 0 => rfl
  | k + 1 => by rw [cbs, show cb 0 = 0 from rfl, cbs_zero k]
theorem cbs_pow {k t : Nat} (h : t ≤ k) : cbs k (2 ^ t) = cbs (k - t) 1 := by
  have e : k = t + (k - t) := by omega
  conv => lhs; rw [e, cbs_add]
  have := cbs_shift t 1
  rw [Nat.mul_one] at this
  rw [this]

/-- A bit's place, from behind. -/
def place (n p t : Nat) : Nat := if p < n then 31 + 8 * (n - p) - t else 31 - t - 8 * (n + 3 - p)
theorem weight_bit {n p t : Nat} (hp : p < n + 4) (ht : t < 8) : cbs 31 (weight n p (2 ^ t)) = cbs (place n p t) 1 := by
  unfold weight place
  by_cases h : p < n
  · rw [if_pos h, if_pos h, cbs_pow (by omega), ← cbs_add]
    congr 1; omega
  · rw [if_neg h, if_neg h, show (256 : Nat) = 2 ^ 8 from rfl, ← Nat.pow_mul, ← Nat.pow_add, cbs_pow (by omega)]
    congr 1; omega
theorem place_inj {n p t q s : Nat} (hp : p < n + 4) (ht : t < 8) (hq : q < n + 4) (hs : s < 8) (h : place n p t = place n q s) : p = q ∧ t = s := by
  unfold place at h
  split at h <;> split at h <;> omega
theorem place_le {n p t : Nat} (hp : p < n + 4) : place n p t ≤ 8 * n + 31 := by
  unfold place; split <;> omega

/-- So many steps, and it is never one again. -/
def never : Nat → Nat → Bool
  | 0, _ => true
  | k + 1, c => (cb c != 1) && never k (cb c)
theorem never_spec : ∀ (k c j : Nat), never k c = true → 1 ≤ j → j ≤ k → cbs j c ≠ 1
  | 0, _, _, _, _, _ => by omega
  | k + 1, c, j, h, h1, h2 => by
    simp only [never, Bool.and_eq_true, bne_iff_ne, ne_eq] at h
    rcases (show j = 1 ∨ 2 ≤ j by omega) with rfl | hj
    · exact h.1
    · obtain ⟨i, rfl⟩ : ∃ i, j = i + 1 := ⟨j - 1, by omega⟩
      rw [cbs]
      exact never_spec k (cb c) i h.2 (by omega) (by omega)
theorem never_one : never 2500 1 = true := by decide +kernel

theorem bits_differ {i j : Nat} (hi : i ≤ 2500) (hj : j ≤ 2500) (h : cbs i 1 = cbs j 1) : i = j := by
  have key : ∀ {i j : Nat}, j ≤ 2500 → i < j → cbs i 1 ≠ cbs j 1 := by
    intro i j hj hlt e
    have e2 : j = (j - i) + i := by omega
    rw [e2, cbs_add] at e
    have := cbs_inj i (by omega) (cbs_lt (j - i) (by omega)) e
    exact never_spec 2500 1 (j - i) never_one (by omega) (by omega) this.symm
  rcases Nat.lt_trichotomy i j with h1 | h1 | h1
  · exact absurd h (key hj h1)
  · exact h1
  · exact absurd h.symm (key hi h1)

theorem weight_lt {n p e : Nat} (hp : p < n + 4) (he : e < 256) : weight n p e < 4294967296 := by
  unfold weight
  split
  · exact cbs_lt _ (by omega)
  · rcases (show n + 3 - p = 0 ∨ n + 3 - p = 1 ∨ n + 3 - p = 2 ∨ n + 3 - p = 3 by omega) with h | h | h | h <;> rw [h] <;> omega

theorem weight_ne {n p t : Nat} (hp : p < n + 4) (ht : t < 8) : weight n p (2 ^ t) ≠ 0 := by
  intro h
  have h2 := weight_bit hp ht
  rw [h, cbs_zero] at h2
  have := cbs_inj (place n p t) (a := 0) (b := 1) (by omega) (by omega) (by rw [cbs_zero]; exact h2)
  omega

theorem weight_same {n p t q s : Nat} (hn : n ≤ 300) (hp : p < n + 4) (ht : t < 8) (hq : q < n + 4) (hs : s < 8) : weight n p (2 ^ t) = weight n q (2 ^ s) ↔ p = q ∧ t = s := by
  constructor
  · intro h
    have h1 := weight_bit hp ht
    have h2 := weight_bit hq hs
    rw [h, h2] at h1
    have := bits_differ (by have := place_le (t := s) hq; omega) (by have := place_le (t := t) hp; omega) h1
    exact place_inj hp ht hq hs this.symm
  · rintro ⟨rfl, rfl⟩; rfl

/- one bit, two bits, four bytes -/
theorem xor8 {X Y : Nat} (hX : X < 256) (hY : Y < 256) : bitsA .xor .u8 (X : Int) (Y : Int) = ((X ^^^ Y : Nat) : Int) := by
  show IntKind.u8.wrap ((BitVec.ofInt 8 (X : Int) ^^^ BitVec.ofInt 8 (Y : Int)).toNat : Int) = _
  rw [BitVec.toNat_xor, ofInt_toNat 8 X hX, ofInt_toNat 8 Y hY]
  have : X ^^^ Y < 256 := Nat.xor_lt_two_pow (n := 8) hX hY
  rw [u8_mod]; omega
theorem shl1 {t : Nat} (h : t < 8) : shlA .u8 1 (t : Int) = ((2 ^ t : Nat) : Int) := by
  rcases (show t = 0 ∨ t = 1 ∨ t = 2 ∨ t = 3 ∨ t = 4 ∨ t = 5 ∨ t = 6 ∨ t = 7 by omega) with rfl | rfl | rfl | rfl | rfl | rfl | rfl | rfl <;> kernel_rfl
theorem pow_lt8 {t : Nat} (h : t < 8) : 2 ^ t < 256 := Nat.pow_lt_pow_right (by omega) (m := t) (n := 8) h

theorem bex4 (v : Nat) : bex (v : Int) 4 = [byt (v / 16777216 % 256), byt (v / 65536 % 256), byt (v / 256 % 256), byt (v % 256)] := by
  have e : ∀ m : Nat, ((v : Int) / ((m : Nat) : Int) % 256) = ((v / m % 256 : Nat) : Int) := fun m => by rw [Int.natCast_emod, Int.natCast_ediv]; rfl
  have e3 := e 16777216
  have e2 := e 65536
  have e1 := e 256
  have e0 := e 1
  simp only [Nat.div_one] at e0
  show [AV.int .u8 ((v : Int) / 16777216 % 256), .int .u8 ((v : Int) / 65536 % 256), .int .u8 ((v : Int) / 256 % 256), .int .u8 ((v : Int) / 1 % 256)] = _
  unfold byt
  rw [← e3, ← e2, ← e1, ← e0]
  rfl

theorem word_seal (A : List AV) : Word A.length (A ++ bex ((crcN A : Nat) : Int) 4) A (crcN A / 16777216 % 256) (crcN A / 65536 % 256) (crcN A / 256 % 256) (crcN A % 256) :=
  ⟨by rw [bex4], rfl, Nat.mod_lt _ (by omega), Nat.mod_lt _ (by omega), Nat.mod_lt _ (by omega), Nat.mod_lt _ (by omega)⟩
theorem syn_seal (A : List AV) : syn A (crcN A / 16777216 % 256) (crcN A / 65536 % 256) (crcN A / 256 % 256) (crcN A % 256) = 0 := by
  have h := crcN_lt A
  unfold syn
  rw [xor_zero_iff]
  unfold num4; omega

theorem byt_bl (b : List UInt8) : ∀ x ∈ bl b, ∃ k, k < 256 ∧ x = byt k := by
  intro x hx
  simp only [bl, List.mem_map] at hx
  obtain ⟨c, _, rfl⟩ := hx
  exact ⟨c.toNat, c.toNat_lt, rfl⟩

/-- Four bytes that are turned, the lowest first. -/
theorem burst_weight {n p v : Nat} (hv : v < 4294967296) (hp : p + 4 ≤ n) :
    weight n p (v % 256) ^^^ weight n (p + 1) (v / 256 % 256) ^^^ weight n (p + 2) (v / 65536 % 256) ^^^ weight n (p + 3) (v / 16777216 % 256) = cbs (8 * (n - p)) v := by
  have h4 := crc4 0 v hv
  simp only [List.foldl_cons, List.foldl_nil] at h4
  rw [crc1_nat _ _ (by omega), crc1_nat _ _ (by omega), crc1_nat _ _ (by omega), crc1_nat _ _ (by omega), Nat.zero_xor, Nat.zero_xor] at h4
  simp only [cbs_xor, ← cbs_add] at h4
  have e : 8 * (n - p) = 32 + 8 * (n - p - 4) := by omega
  have e0 : 8 * (n - p) = 8 + 8 + 8 + 8 + 8 * (n - p - 4) := by omega
  have e1 : 8 * (n - (p + 1)) = 8 + 8 + 8 + 8 * (n - p - 4) := by omega
  have e2 : 8 * (n - (p + 2)) = 8 + 8 + 8 * (n - p - 4) := by omega
  have e3 : 8 * (n - (p + 3)) = 8 + 8 * (n - p - 4) := by omega
  have key := congrArg (cbs (8 * (n - p - 4))) h4
  simp only [cbs_xor, ← cbs_add] at key
  unfold weight
  rw [if_pos (by omega), if_pos (by omega), if_pos (by omega), if_pos (by omega)]
  conv => rhs; rw [e]
  rw [← key, e0, e1, e2, e3]

/- records, torn or with a bit turned -/
theorem nextR_part (a r s : List UInt8) (hr : recb a = r ++ s) (h : r.length < a.length + 8) (ha : a.length < 1000000) : nextR (bl r) = none := by
  unfold nextR
  refine if_neg ?_
  rintro ⟨h8, hn, _⟩
  rw [length_bl] at h8 hn
  have h4 : (bl r).take 4 = bex (a.length : Int) 4 := by
    have : r.take 4 = (recb a).take 4 := by rw [hr, List.take_append_of_le_length (by omega)]
    rw [bl_take, this, bex_bl, recb, List.append_assoc, List.take_left' (by simp)]
  rw [h4, numOf_bex _ _ (by omega), Nat.mod_eq_of_lt (by omega), Int.toNat_natCast] at hn
  omega

theorem torn_cut : ∀ (L : List (List UInt8)) (cut : Nat), (∀ a ∈ L, a.length < 1000000) → cut ≤ (recsb L).length → ∃ (w : Nat) (r : List UInt8), w ≤ L.length ∧ (recsb L).take cut = recsb (L.take w) ++ r ∧ nextR (bl r) = none ∧ ∀ i, i < L.length → ((recsb (L.take (i + 1))).length ≤ cut ↔ i < w)
  | [], cut, _, h => ⟨0, [], by simp, by simp [recsb], nextR_short (by simp), fun i hi => by simp at hi⟩
  | a :: L, cut, hL, h => by
    have ha := hL a (by simp)
    by_cases hc : a.length + 8 ≤ cut
    · obtain ⟨w, r, h1, h2, h3, h4⟩ := torn_cut L (cut - (a.length + 8)) (fun b hb => hL b (by simp [hb])) (by rw [recsb_cons, List.length_append, length_recb] at h; omega)
      refine ⟨w + 1, r, by simp; omega, ?_, h3, fun i hi => ?_⟩
      · rw [recsb_cons, List.take_append, List.take_of_length_le (by rw [length_recb]; omega), length_recb, h2, List.take_succ_cons, recsb_cons, List.append_assoc]
      · rw [List.take_succ_cons, recsb_cons, List.length_append, length_recb]
        cases i with
        | zero => rw [List.take_zero, show recsb [] = [] from rfl, List.length_nil]; omega
        | succ i => have := h4 i (by simpa using hi); omega
    · refine ⟨0, (recb a).take cut, by omega, ?_, nextR_part a _ ((recb a).drop cut) (List.take_append_drop _ _).symm (by rw [List.length_take, length_recb]; omega) ha, fun i hi => ?_⟩
      · rw [recsb_cons, List.take_append_of_le_length (by rw [length_recb]; omega)]; rfl
      · rw [List.take_succ_cons, recsb_cons, List.length_append, length_recb]; omega

theorem bl_getD (b : List UInt8) (p : Nat) : (bl b).getD p (.int .u8 0) = .int .u8 ((b.getD p 0).toNat : Int) := by
  rw [List.getD_eq_getElem?_getD, List.getD_eq_getElem?_getD, bl, List.getElem?_map]
  cases b[p]? <;> rfl
theorem rec_flip (a s : List UInt8) (q t : Nat) (c : UInt8) (hq : 4 ≤ q) (hq2 : q < a.length + 8) (ht : t < 8) (ha : a.length < 1000000) (hc : c.toNat = ((recb a).getD q 0).toNat ^^^ 2 ^ t) : nextR (bl ((recb a).set q c ++ s)) = none := by
  have hl : (bl ((recb a).set q c ++ s)).length = a.length + 8 + s.length := by simp <;> omega
  have h4 : (bl ((recb a).set q c ++ s)).take 4 = bex (a.length : Int) 4 := by
    rw [bl_take, List.take_append_of_le_length (by rw [List.length_set, length_recb]; omega), List.take_set_of_le (by omega), bex_bl, recb, List.append_assoc, List.take_left' (by simp)]
  have hn : (numOf ((bl ((recb a).set q c ++ s)).take 4)).toNat = a.length := by
    rw [h4, numOf_bex _ _ (by omega), Nat.mod_eq_of_lt (by omega), Int.toNat_natCast]
  have htk : (bl ((recb a).set q c ++ s)).take (a.length + 8) = bl ((recb a).set q c) := by rw [bl_take, List.take_left' (by simp)]
  have hs : bl ((recb a).set q c) = (bl (recb a)).set q (byte c) := by simp [bl, List.map_set]
  have W := word_seal (bl (bexb a.length 4 ++ a))
  have Y := syn_seal (bl (bexb a.length 4 ++ a))
  have hm : bl (bexb a.length 4 ++ a) ++ bex ((crcN (bl (bexb a.length 4 ++ a)) : Nat) : Int) 4 = bl (recb a) := by rw [bex_bl, ← bl_append]; rfl
  rw [hm] at W
  have hn4 : (bl (bexb a.length 4 ++ a)).length = a.length + 4 := by simp <;> omega
  rw [hn4] at W
  obtain ⟨l, a', b', c', d', k, g, gl, W', B', Y'⟩ := W.flip (p := q) (e := 2 ^ t) (by omega) (pow_lt8 ht) (byt_bl _)
  rw [Y, Nat.zero_xor] at Y'
  have gk : k = ((recb a).getD q 0).toNat := by
    rw [bl_getD] at g
    injection g with _ g
    omega
  have e : byte c = .int .u8 ((k ^^^ 2 ^ t : Nat) : Int) := by rw [gk, ← hc]; rfl
  have o : openR (bl ((recb a).set q c)) = ([], 8) := by rw [hs, e, W'.open_, if_neg (by rw [Y']; exact weight_ne (by omega) ht)]
  unfold nextR
  rw [hn, htk, o, if_neg (fun h => absurd h.2.2 (by decide))]

theorem torn_flip : ∀ (L : List (List UInt8)) (p t : Nat) (c : UInt8), (∀ a ∈ L, a.length < 1000000) → p < (recsb L).length → t < 8 → c.toNat = ((recsb L).getD p 0).toNat ^^^ 2 ^ t →
    ∃ (w : Nat) (r : List UInt8), w ≤ L.length ∧ (recsb L).set p c = recsb (L.take w) ++ r ∧ (recsb (L.take w)).length ≤ p ∧ ((recsb (L.take w)).length + 4 ≤ p → nextR (bl r) = none) ∧ ∀ i, i < L.length → ((recsb (L.take (i + 1))).length ≤ p ↔ i < w)
  | [], p, _, _, _, h, _, _ => by simp [recsb] at h
  | a :: L, p, t, c, hL, h, ht, hc => by
    have ha := hL a (by simp)
    have h' : p < (recb a ++ recsb L).length := h
    have hc1 : c.toNat = ((recb a ++ recsb L).getD p 0).toNat ^^^ 2 ^ t := hc
    rw [List.length_append, length_recb] at h'
    by_cases hp : a.length + 8 ≤ p
    · have hc' : c.toNat = ((recsb L).getD (p - (a.length + 8)) 0).toNat ^^^ 2 ^ t := by
        rw [hc1, List.getD_eq_getElem?_getD, List.getElem?_append_right (by rw [length_recb]; omega), length_recb, ← List.getD_eq_getElem?_getD]
      obtain ⟨w, r, h1, h2, h3, h4, h5⟩ := torn_flip L (p - (a.length + 8)) t c (fun b hb => hL b (by simp [hb])) (by omega) ht hc'
      refine ⟨w + 1, r, by simp; omega, ?_, ?_, ?_, fun i hi => ?_⟩
      · rw [recsb_cons, List.set_append_right _ _ (by rw [length_recb]; omega), length_recb, h2, List.take_succ_cons, recsb_cons, List.append_assoc]
      · rw [List.take_succ_cons, recsb_cons, List.length_append, length_recb]; omega
      · intro h; rw [List.take_succ_cons, recsb_cons, List.length_append, length_recb] at h; exact h4 (by omega)
      · rw [List.take_succ_cons, recsb_cons, List.length_append, length_recb]
        cases i with
        | zero => rw [List.take_zero, show recsb [] = [] from rfl, List.length_nil]; omega
        | succ i => have := h5 i (by simpa using hi); omega
    · have hp' : p < a.length + 8 := by omega
      refine ⟨0, (recb a).set p c ++ recsb L, by omega, ?_, Nat.zero_le _, fun h => ?_, fun i hi => ?_⟩
      · rw [recsb_cons, List.set_append_left _ _ (by rw [length_recb]; omega)]; rfl
      · have h : 4 ≤ p := by
          have : (recsb ((a :: L).take 0)).length = 0 := rfl
          omega
        refine rec_flip a (recsb L) p t c h hp' ht ha ?_
        rw [hc1, List.getD_eq_getElem?_getD, List.getElem?_append_left (by rw [length_recb]; omega), ← List.getD_eq_getElem?_getD]
      · rw [List.take_succ_cons, recsb_cons, List.length_append, length_recb]; omega

/-- Any bytes are walked. -/
theorem every_any (B : List AV) (b : List UInt8) (hb : b.length < 1000000) : ∀ (m k : Nat) (acc : List AV), b.length - k ≤ m → k ≤ b.length → acc.length ≤ k → ∃ (L : List AV) (z : Nat), z ≤ b.length ∧
    run (M_journal_every_fnext_p50 B) (M_journal_every_fnext_p50 B ((nextT (bl (b.drop k))).1, (nextT (bl (b.drop k))).2.1, (nextT (bl (b.drop k))).2.2, acc)) = some (L, bl (b.drop z)) := by
  have stop : ∀ (k : Nat) (acc : List AV), k ≤ b.length → nextR (bl (b.drop k)) = none → ∃ (L : List AV) (z : Nat), z ≤ b.length ∧
      run (M_journal_every_fnext_p50 B) (M_journal_every_fnext_p50 B ((nextT (bl (b.drop k))).1, (nextT (bl (b.drop k))).2.1, (nextT (bl (b.drop k))).2.2, acc)) = some (L, bl (b.drop z)) := by
    intro k acc hk hn
    refine ⟨acc, k, hk, ?_⟩
    rw [nextT_none hn]
    exact run_inr (by simp only [M_journal_every_fnext_p50, Tr.val_c, Tr.val_r, beq_self_eq_true, cond_true, cond_false])
  intro m
  induction m with
  | zero => intro k acc hm hk hacc; exact stop k acc hk (nextR_short (by rw [List.length_drop]; omega))
  | succ m ih =>
    intro k acc hm hk hacc
    cases hn : nextR (bl (b.drop k)) with
    | none => exact stop k acc hk hn
    | some x =>
      obtain ⟨t, n⟩ := x
      have h : 8 ≤ n ∧ k + n ≤ b.length := by
        have hx := hn
        unfold nextR at hx
        split at hx
        · rename_i h
          obtain ⟨h8, hn8, -⟩ := h
          simp only [Option.some.injEq, Prod.mk.injEq] at hx
          obtain ⟨-, rfl⟩ := hx
          rw [length_bl, List.length_drop] at hn8
          omega
        · simp at hx
      have hT : nextT (bl (b.drop k)) = (t, true, bl (b.drop (k + n))) := by
        unfold nextT
        rw [hn]
        simp only
        rw [bl_drop, List.drop_drop]
      have nx := next_eq (b.drop (k + n)) (by rw [List.length_drop]; omega)
      have lacc : (acc ++ [AV.slice 1 (.int .u8) t .ro]).length * 25 < 70368744177664 := by simp; omega
      obtain ⟨L, z, hz, hr⟩ := ih (k + n) (acc ++ [AV.slice 1 (.int .u8) t .ro]) (by omega) (by omega) (by simp; omega)
      refine ⟨L, z, hz, ?_⟩
      rw [hT, run_inl (s := ((nextT (bl (b.drop (k + n)))).1, (nextT (bl (b.drop (k + n)))).2.1, (nextT (bl (b.drop (k + n)))).2.2, acc ++ [AV.slice 1 (.int .u8) t .ro])) (by
        simp only [M_journal_every_fnext_p50, Tr.val_c, Tr.val_r, val_opt, lacc, nx, Option.bind_some, decide_true, beq_self_eq_true, cond_true])]
      exact hr
theorem Scan_any (b : List UInt8) (hb : b.length < 1000000) : ∃ y, g_journal_Scan (bl b) = some y := by
  obtain ⟨L, z, hz, h⟩ := every_any (bl b) b hb b.length 0 [] (by omega) (by omega) (by simp)
  rw [List.drop_zero] at h
  have nx := next_eq b hb
  have ev : g_journal_every_fnext_p50 (bl b) = some (L, bl (b.drop z)) := by
    unfold g_journal_every_fnext_p50
    rw [run_inl (s := ((nextT (bl b)).1, (nextT (bl b)).2.1, (nextT (bl b)).2.2, [])) (by simp only [T_journal_every_fnext_p50, Tr.val_r, val_opt, nx, Option.bind_some])]
    exact h
  unfold g_journal_Scan
  simp only [T_journal_Scan, Tr.val_r, val_opt, ev, Option.bind_some]
  exact ⟨_, rfl⟩

noncomputable def ends (K : List (List UInt8)) : List AV := (List.range K.length).map fun j => .int .i64 ((recsb (K.take (j + 1))).length : Int)
theorem ends_snoc (K : List (List UInt8)) (a : List UInt8) : ends (K ++ [a]) = ends K ++ [.int .i64 ((recsb (K ++ [a])).length : Int)] := by
  unfold ends
  rw [List.length_append, List.length_singleton, List.range_succ, List.map_append]
  congr 1
  · apply List.map_congr_left
    intro j hj
    rw [List.take_append_of_le_length (by have := List.mem_range.1 hj; omega)]
  · rw [List.map_singleton, List.take_of_length_le (by simp)]
theorem ends_getD (K : List (List UInt8)) (i : Nat) (h : i < K.length) : (ends K).getD i (.int .i64 0) = .int .i64 ((recsb (K.take (i + 1))).length : Int) := by
  simp [ends, List.getD_eq_getElem?_getD, h]
@[simp] theorem length_ends (K : List (List UInt8)) : (ends K).length = K.length := by simp [ends]

theorem jt_fill (L : List (List UInt8)) (hL : L.length < TOP) (x1 x2 : Int) : ∀ k i, i + k = min 12 L.length → (∀ a ∈ L.take i, a.length ≤ 300) →
    run (M_comptoirlaw23_JournalTorn (L.map slb) x1 x2) (M_comptoirlaw23_JournalTorn (L.map slb) x1 x2 (.inl ((i : Int), bl (recsb (L.take i)), ends (L.take i)))) = some true ∨
    ((∀ a ∈ L.take (i + k), a.length ≤ 300) ∧ run (M_comptoirlaw23_JournalTorn (L.map slb) x1 x2) (M_comptoirlaw23_JournalTorn (L.map slb) x1 x2 (.inl ((i : Int), bl (recsb (L.take i)), ends (L.take i)))) =
      run (M_comptoirlaw23_JournalTorn (L.map slb) x1 x2) (M_comptoirlaw23_JournalTorn (L.map slb) x1 x2 (.inr (.inr (.inl (bl (recsb (L.take (i + k))), ends (L.take (i + k)))))))) := by
  have la : (L.map slb).length = L.length := by simp
  unfold TOP at hL
  intro k
  induction k with
  | zero =>
    intro i hi hall
    right
    refine ⟨hall, ?_⟩
    rw [Nat.add_zero]
    refine run_inl ?_
    by_cases q1 : (i : Int) < L.length
    · have q2 : ¬ (i : Int) < 12 := by omega
      simp only [M_comptoirlaw23_JournalTorn, Tr.val_c, Tr.val_r, la, q1, q2, decide_true, decide_false, cond_true, cond_false]
    · simp only [M_comptoirlaw23_JournalTorn, Tr.val_c, Tr.val_r, la, q1, decide_false, cond_false]
  | succ k ih =>
    intro i hi hall
    have q1 : i < L.length := by omega
    have q2 : i < 12 := by omega
    have q1' : (i : Int) < L.length := by omega
    have q2' : (i : Int) < 12 := by omega
    have q0 : (0 : Int) ≤ i := by omega
    have w : IntKind.i64.wrap ((i : Int) + 1) = ((i + 1 : Nat) : Int) := by rw [i64_wrap (by omega) (by omega)]; omega
    have hg : L.getD i [] = L[i] := by simp [List.getD_eq_getElem?_getD, q1]
    have ht : L.take (i + 1) = L.take i ++ [L[i]] := by rw [List.take_succ_eq_append_getElem q1]
    rw [run_inl (s := .inr (.inl ((i : Int), bl (recsb (L.take i)), ends (L.take i)))) (by simp only [M_comptoirlaw23_JournalTorn, Tr.val_c, Tr.val_r, la, q1', q2', decide_true, cond_true])]
    obtain ⟨r1, r2⟩ := recsb_len hall
    rw [List.length_take, Nat.min_eq_left (by omega)] at r1
    by_cases hl : (L.getD i []).length > 300
    · left
      have q3 : ((bl (L.getD i [])).length : Int) > 300 := by rw [length_bl]; omega
      exact run_inr (by simp only [M_comptoirlaw23_JournalTorn, Tr.val_c, Tr.val_r, val_opt, la, q0, q1', slb_getD, getXs_slb, Int.toNat_natCast, q3, awake23, Option.bind_some, decide_true, cond_true])
    · have q3 : ¬ ((bl (L.getD i [])).length : Int) > 300 := by rw [length_bl]; omega
      have r := Record_eq (bl (L.getD i [])) (by rw [length_bl]; omega)
      rw [recR_bl] at r
      have e1 : bl (recsb (L.take i)) ++ bl (recb (L.getD i [])) = bl (recsb (L.take (i + 1))) := by
        rw [← bl_append, ht, recsb_append, hg]; simp [recsb]
      have l2 : (bl (recsb (L.take (i + 1)))).length * 2 < 70368744177664 := by
        rw [← e1, ← bl_append, length_bl, List.length_append, length_recb]
        have : i * (300 + 8) ≤ 12 * 308 := Nat.mul_le_mul (by omega) (by omega)
        omega
      have e2 : ends (L.take i) ++ [AV.int .i64 ((bl (recsb (L.take (i + 1)))).length : Int)] = ends (L.take (i + 1)) := by
        rw [length_bl, ht, ends_snoc]
      have l3 : (ends (L.take (i + 1))).length * 9 < 70368744177664 := by rw [length_ends, List.length_take]; omega
      have hall' : ∀ a ∈ L.take (i + 1), a.length ≤ 300 := by
        intro a ha
        rw [ht, List.mem_append] at ha
        rcases ha with ha | ha
        · exact hall a ha
        · simp only [List.mem_singleton] at ha; rw [ha, ← hg]; omega
      rw [run_inl (s := .inl (((i + 1 : Nat) : Int), bl (recsb (L.take (i + 1))), ends (L.take (i + 1)))) (by
        simp only [M_comptoirlaw23_JournalTorn, Tr.val_c, Tr.val_r, val_opt, la, q0, q1', slb_getD, getXs_slb, Int.toNat_natCast, q3, r, e1, l2, e2, l3, w, Option.bind_some, decide_true, decide_false, beq_self_eq_true, cond_true, cond_false])]
      have := ih (i + 1) (by omega) hall'
      rwa [show i + 1 + k = i + (k + 1) by omega] at this

theorem torn_eq (L : List (List UInt8)) (hL : L.length < TOP) (x1 x2 : Int) : g_comptoirlaw23_JournalTorn (L.map slb) x1 x2 = some true := by
  unfold g_comptoirlaw23_JournalTorn
  rw [run_inl (s := .inl (((0 : Nat) : Int), bl (recsb (L.take 0)), ends (L.take 0))) (by simp only [T_comptoirlaw23_JournalTorn, Tr.val_r]; rfl)]
  rcases jt_fill L hL x1 x2 (min 12 L.length) 0 (by omega) (by simp) with h | ⟨hall, h⟩
  · exact h
  rw [h]
  clear h
  rw [Nat.zero_add] at hall ⊢
  obtain ⟨n, hn⟩ : ∃ n, n = min 12 L.length := ⟨_, rfl⟩
  rw [← hn] at hall ⊢
  obtain ⟨K, hK⟩ : ∃ K, K = L.take n := ⟨_, rfl⟩
  rw [← hK] at hall ⊢
  have lK : K.length = n := by rw [hK, List.length_take]; omega
  obtain ⟨rA, rA2⟩ := recsb_len hall
  have hlen : (recsb K).length ≤ 3696 := by
    have : K.length * (300 + 8) ≤ 12 * 308 := Nat.mul_le_mul (by omega) (by omega)
    omega
  have lK2 : (ends K).length = n := by rw [length_ends, lK]
  unfold TOP at hL
  rw [run_inl (s := .inr (.inr (.inr (.inl (bl (recsb K), ends K, ((bl (recsb K)).length : Int) == 0))))) (by
    simp only [M_comptoirlaw23_JournalTorn, Tr.val_c, Tr.val_r, val_opt, awake23, Option.bind_some, Bool.not_true, cond_false])]
  by_cases h0 : (recsb K).length = 0
  · have q0 : (((bl (recsb K)).length : Int) == 0) = true := by rw [length_bl, h0]; rfl
    rw [q0]
    exact run_inr (by simp only [M_comptoirlaw23_JournalTorn, Tr.val_c, Tr.val_r, val_opt, awake23, Option.bind_some, cond_true])
  have q0 : (((bl (recsb K)).length : Int) == 0) = false := by rw [length_bl, beq_eq_false_iff_ne]; omega
  rw [q0]
  obtain ⟨N, hN⟩ : ∃ N, N = (recsb K).length := ⟨_, rfl⟩
  have lN : (bl (recsb K)).length = N := by rw [length_bl, hN]
  rw [← hN] at hlen h0
  obtain ⟨u0, u1⟩ := u64_bounds x1
  obtain ⟨v0, v1⟩ := u64_bounds x2
  have w1 : IntKind.u64.wrap (IntKind.i64.wrap ((N : Int) + 1)) = ((N + 1 : Nat) : Int) := by
    rw [i64_wrap (by omega) (by omega), u64_wrap (by omega) (by omega)]; omega
  have w8 : IntKind.u64.wrap (IntKind.i64.wrap (8 * (N : Int))) = ((8 * N : Nat) : Int) := by
    rw [i64_wrap (by omega) (by omega), u64_wrap (by omega) (by omega)]; omega
  have z1 : isZ ((N + 1 : Nat) : Int) = false := by unfold isZ; rw [decide_eq_false_iff_not]; omega
  have z8 : isZ ((8 * N : Nat) : Int) = false := by unfold isZ; rw [decide_eq_false_iff_not]; omega
  obtain ⟨c, hc, hcN⟩ : ∃ i : Nat, IntKind.i64.wrap (Int.tmod (IntKind.u64.wrap x1) ((N + 1 : Nat) : Int)) = (i : Int) ∧ i ≤ N := by
    have h1 := Int.emod_nonneg (IntKind.u64.wrap x1) (show ((N + 1 : Nat) : Int) ≠ 0 by omega)
    have h2 := Int.emod_lt_of_pos (IntKind.u64.wrap x1) (show 0 < ((N + 1 : Nat) : Int) by omega)
    refine ⟨(IntKind.u64.wrap x1 % ((N + 1 : Nat) : Int)).toNat, ?_, by omega⟩
    rw [tmod_eq u0, i64_wrap (by omega) (by omega)]; omega
  obtain ⟨b, hb, hbN⟩ : ∃ i : Nat, IntKind.i64.wrap (Int.tmod (IntKind.u64.wrap x2) ((8 * N : Nat) : Int)) = (i : Int) ∧ i < 8 * N := by
    have h1 := Int.emod_nonneg (IntKind.u64.wrap x2) (show ((8 * N : Nat) : Int) ≠ 0 by omega)
    have h2 := Int.emod_lt_of_pos (IntKind.u64.wrap x2) (show 0 < ((8 * N : Nat) : Int) by omega)
    refine ⟨(IntKind.u64.wrap x2 % ((8 * N : Nat) : Int)).toNat, ?_, by omega⟩
    rw [tmod_eq v0, i64_wrap (by omega) (by omega)]; omega
  rw [run_inl (s := .inr (.inr (.inr (.inr (.inl ((c : Int), (b : Int), bl (recsb K), ends K, ((0 : Nat) : Int), ((0 : Nat) : Int), ((0 : Nat) : Int), ((0 : Nat) : Int), ((0 : Nat) : Int))))))) (by
    simp only [M_comptoirlaw23_JournalTorn, Tr.val_c, Tr.val_r, lN, w1, w8, z1, z8, hc, hb, cond_false]; rfl)]
  -- what is whole
  have hK6 : ∀ a ∈ K, a.length < 1000000 := fun a ha => by have := hall a ha; omega
  obtain ⟨w, r, hw, htk, hnr, hwi⟩ := torn_cut K c hK6 (by omega)
  have hp8 : b / 8 < N := by omega
  have ht8 : b % 8 < 8 := Nat.mod_lt _ (by omega)
  have d8 : IntKind.i64.wrap (Int.tdiv (b : Int) 8) = ((b / 8 : Nat) : Int) := by rw [tdiv_eq (by omega), i64_wrap (by omega) (by omega)]; omega
  have m8 : IntKind.u64.wrap (Int.tmod (b : Int) 8) = ((b % 8 : Nat) : Int) := by rw [tmod_eq (by omega), u64_wrap (by omega) (by omega)]; omega
  obtain ⟨k, hk⟩ : ∃ k, k = ((recsb K).getD (b / 8) 0).toNat := ⟨_, rfl⟩
  have k8 : k < 256 := by rw [hk]; exact UInt8.toNat_lt _
  have x8 : k ^^^ 2 ^ (b % 8) < 256 := Nat.xor_lt_two_pow (n := 8) k8 (pow_lt8 ht8)
  have hcc : (UInt8.ofNat (k ^^^ 2 ^ (b % 8))).toNat = ((recsb K).getD (b / 8) 0).toNat ^^^ 2 ^ (b % 8) := by rw [← hk]; exact Nat.mod_eq_of_lt x8
  obtain ⟨s, r', hs, hst, hse, hsn, hsi⟩ := torn_flip K (b / 8) (b % 8) _ hK6 (by omega) ht8 hcc
  obtain ⟨G, hG⟩ : ∃ G : Nat → Nat, ∀ j, G j = (recsb (K.take j)).length := ⟨fun j => (recsb (K.take j)).length, fun _ => rfl⟩
  have hGN : ∀ j, G j ≤ N := by
    intro j
    have : recsb K = recsb (K.take j) ++ recsb (K.drop j) := by rw [← recsb_append, List.take_append_drop]
    rw [hG, hN]
    have e := congrArg List.length this
    rw [List.length_append] at e
    omega
  have key : ∀ d, d ≤ n → run (M_comptoirlaw23_JournalTorn (L.map slb) x1 x2) (M_comptoirlaw23_JournalTorn (L.map slb) x1 x2 (.inr (.inr (.inr (.inr (.inl ((c : Int), (b : Int), bl (recsb K), ends K, ((0 : Nat) : Int), ((0 : Nat) : Int), ((0 : Nat) : Int), ((0 : Nat) : Int), ((0 : Nat) : Int)))))))) =
      run (M_comptoirlaw23_JournalTorn (L.map slb) x1 x2) (M_comptoirlaw23_JournalTorn (L.map slb) x1 x2 (.inr (.inr (.inr (.inr (.inl ((c : Int), (b : Int), bl (recsb K), ends K, ((min d w : Nat) : Int), ((min d s : Nat) : Int), ((G (min d w) : Nat) : Int), ((G (min d s) : Nat) : Int), ((d : Nat) : Int)))))))) := by
    intro d
    induction d with
    | zero => intro _; simp [hG, recsb]
    | succ d ih =>
      intro hd
      rw [ih (by omega)]
      have q1 : (d : Int) < n := by omega
      have q2 : (0 : Int) ≤ d := by omega
      have q3 : d < n := by omega
      have wd : IntKind.i64.wrap ((d : Int) + 1) = ((d + 1 : Nat) : Int) := by rw [i64_wrap (by omega) (by omega)]; omega
      have eg := ends_getD K d (by omega)
      have hGd : ((recsb (K.take (d + 1))).length : Int) = ((G (d + 1) : Nat) : Int) := by rw [hG]
      rw [hGd] at eg
      have i1 := hwi d (by omega)
      have i2 := hsi d (by omega)
      have i1' : G (d + 1) ≤ c ↔ d < w := by rw [hG]; exact i1
      have i2' : G (d + 1) ≤ b / 8 ↔ d < s := by rw [hG]; exact i2
      rw [run_inl (s := .inr (.inr (.inr (.inr (.inr ((c : Int), (b : Int), ((G (min (d + 1) w) : Nat) : Int), bl (recsb K), ends K, ((min (d + 1) w : Nat) : Int), ((min d s : Nat) : Int), ((G (min d s) : Nat) : Int), ((d : Nat) : Int))))))) (by
        by_cases hd1 : d < w
        · have e : ((G (d + 1) : Nat) : Int) ≤ (c : Int) := by have := i1'.2 hd1; omega
          rw [Nat.min_eq_left (show d + 1 ≤ w by omega)]
          simp only [M_comptoirlaw23_JournalTorn, Tr.val_c, Tr.val_r, lK2, q1, q2, q3, Int.toNat_natCast, eg, getI_int, e, wd, decide_true, beq_self_eq_true, cond_true]
        · have e : ¬ ((G (d + 1) : Nat) : Int) ≤ (c : Int) := by intro h; exact hd1 (i1'.1 (by omega))
          rw [Nat.min_eq_right (show w ≤ d + 1 by omega), Nat.min_eq_right (show w ≤ d by omega)]
          simp only [M_comptoirlaw23_JournalTorn, Tr.val_c, Tr.val_r, lK2, q1, q2, q3, Int.toNat_natCast, eg, getI_int, e, wd, decide_true, decide_false, beq_self_eq_true, cond_true, cond_false])]
      refine run_inl ?_
      by_cases hd1 : d < s
      · have e : ((G (d + 1) : Nat) : Int) ≤ ((b / 8 : Nat) : Int) := by have := i2'.2 hd1; omega
        rw [Nat.min_eq_left (show d + 1 ≤ s by omega)]
        simp only [M_comptoirlaw23_JournalTorn, Tr.val_c, Tr.val_r, lK2, q1, q2, q3, Int.toNat_natCast, eg, getI_int, d8, e, wd, decide_true, beq_self_eq_true, cond_true]
      · have e : ¬ ((G (d + 1) : Nat) : Int) ≤ ((b / 8 : Nat) : Int) := by intro h; exact hd1 (i2'.1 (by omega))
        rw [Nat.min_eq_right (show s ≤ d + 1 by omega), Nat.min_eq_right (show s ≤ d by omega)]
        simp only [M_comptoirlaw23_JournalTorn, Tr.val_c, Tr.val_r, lK2, q1, q2, q3, Int.toNat_natCast, eg, getI_int, d8, e, wd, decide_true, decide_false, beq_self_eq_true, cond_true, cond_false]
  rw [key n (Nat.le_refl _), Nat.min_eq_right (show w ≤ n by omega), Nat.min_eq_right (show s ≤ n by omega)]
  clear key
  -- the two scans
  have tw : (L.map slb).take w = (K.take w).map slb := by rw [hK, List.take_take, Nat.min_eq_left (by omega), List.map_take]
  have ts : (L.map slb).take s = (K.take s).map slb := by rw [hK, List.take_take, Nat.min_eq_left (by omega), List.map_take]
  have lw : (K.take w).length ≤ n := by rw [List.length_take]; omega
  have ls : (K.take s).length ≤ n := by rw [List.length_take]; omega
  have lcut : (recsb (K.take w) ++ r).length < 1000000 := by rw [← htk, List.length_take]; omega
  have lflip : (recsb (K.take s) ++ r').length < 1000000 := by rw [← hst, List.length_set]; omega
  have s1 := Scan_recs (K.take w) r hnr lcut (by omega) fun a ha => hK6 a (List.mem_of_mem_take ha)
  rw [← htk, ← bl_take] at s1
  have hfl : (bl (recsb K)).set (b / 8) (.int .u8 (bitsA .xor .u8 ((k : Nat) : Int) (shlA .u8 1 ((b % 8 : Nat) : Int)))) = bl (recsb (K.take s) ++ r') := by
    rw [shl1 ht8, xor8 k8 (pow_lt8 ht8), ← hst]
    have : AV.int .u8 ((k ^^^ 2 ^ (b % 8) : Nat) : Int) = byte (UInt8.ofNat (k ^^^ 2 ^ (b % 8))) := (byte_ofNat x8).symm
    rw [this]
    simp [bl, List.map_set]
  have gk := bl_getD (recsb K) (b / 8)
  rw [← hk] at gk
  have ss1 := Same_self ((K.take w).map slb) (by rw [List.length_map]; omega)
  have ss2 := Same_self ((K.take s).map slb) (by rw [List.length_map]; omega)
  have la : (L.map slb).length = L.length := by simp
  have gw : ((recsb (K.take w)).length : Int) = ((G w : Nat) : Int) := by rw [hG]
  have gs : ((recsb (K.take s)).length : Int) = ((G s : Nat) : Int) := by rw [hG]
  have hse' : G s ≤ b / 8 := by rw [hG]; exact hse
  rw [gw] at s1
  have q1 : ¬ ((n : Int) < (n : Int)) := by omega
  have q2 : (0 : Int) ≤ c := by omega
  have q3 : (c : Int) ≤ N := by omega
  have q4 : N * 2 < 70368744177664 := by omega
  have q5 : (0 : Int) ≤ ((b / 8 : Nat) : Int) := by omega
  have q6 : ((b / 8 : Nat) : Int) < N := by omega
  have q7 : (0 : Int) ≤ ((b % 8 : Nat) : Int) := by omega
  have q8 : (0 : Int) ≤ (w : Int) := by omega
  have q9 : (w : Int) ≤ L.length := by omega
  have q10 : (0 : Int) ≤ (s : Int) := by omega
  have q11 : (s : Int) ≤ L.length := by omega
  have lfl : (bl (recsb (K.take s) ++ r')).length = N := by rw [← hfl, List.length_set, lN]
  have wg : IntKind.i64.wrap (((b / 8 : Nat) : Int) - ((G s : Nat) : Int)) = ((b / 8 - G s : Nat) : Int) := by
    have := hGN s
    rw [i64_wrap (by omega) (by omega)]; omega
  by_cases h4 : b / 8 - G s < 4
  · have q12 : ((b / 8 - G s : Nat) : Int) < 4 := by omega
    obtain ⟨y, hy⟩ := Scan_any (recsb (K.take s) ++ r') lflip
    exact run_inr (by simp only [M_comptoirlaw23_JournalTorn, Tr.val_c, Tr.val_r, val_opt, lK2, lN, lfl, la, q1, q2, q3, q4, q5, q6, q7, q8, q9, hp8, Int.toNat_natCast, List.drop_zero, s1, d8, m8, gk, getI_int, hfl, hy, tw, ss1, wg, q12, Option.bind_some, decide_true, decide_false, beq_self_eq_true, Bool.true_and, cond_true, cond_false])
  · have q12 : ¬ ((b / 8 - G s : Nat) : Int) < 4 := by omega
    have s2 := Scan_recs (K.take s) r' (hsn (by have : (recsb (K.take s)).length = G s := by rw [hG]
                                                omega)) lflip (by omega) fun a ha => hK6 a (List.mem_of_mem_take ha)
    rw [gs] at s2
    exact run_inr (by simp only [M_comptoirlaw23_JournalTorn, Tr.val_c, Tr.val_r, val_opt, lK2, lN, lfl, la, q1, q2, q3, q4, q5, q6, q7, q8, q9, q10, q11, hp8, Int.toNat_natCast, List.drop_zero, s1, s2, d8, m8, gk, getI_int, hfl, tw, ts, ss1, ss2, wg, q12, Option.bind_some, decide_true, decide_false, beq_self_eq_true, Bool.true_and, cond_true, cond_false])

end Go.Proofs.Ytaejmfmamhdlhaa
