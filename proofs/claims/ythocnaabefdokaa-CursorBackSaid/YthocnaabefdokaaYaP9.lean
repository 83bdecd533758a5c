/- What the printed functions come to, plainly. -/
import Derived.Test.YthocnaabefdokaaYaG9
import Derived.Test.YthocnaabefdokaaCxPl3
namespace Go.Proofs.Ythocnaabefdokaa
open Go.Cx Go.Cx.AV
set_option linter.unusedSimpArgs false
set_option linter.unusedVariables false

/- slices.Concat of two. -/
theorem Grow_eq (n : Int) (h0 : 0 ≤ n) (h : n < 35184372088832) : g_slices_Grow_byte_byte n = some [] := by
  unfold g_slices_Grow_byte_byte
  have w : IntKind.i64.wrap (n - 0) = n := by rw [Int.sub_zero]; exact i64_wrap (by omega) (by omega)
  have hn0 : ¬ (n < 0) := by omega
  have hT : (T_slices_Grow_byte_byte n).val = some (.inl (.inl ())) := by simp only [T_slices_Grow_byte_byte, Tr.val_c, Tr.val_r, hn0]; rfl
  rw [run_inl hT]
  rw [run_inl (s := .inr ())]
  · exact run_inr rfl
  · simp only [M_slices_Grow_byte_byte, Tr.val_c, Tr.val_r, w, List.length_replicate]
    by_cases hn : n > 0
    · have : n.toNat * 2 < 70368744177664 := by omega
      simp [hn, this]
    · simp [hn]

theorem Concat_eq (a b : List AV) (h : a.length + b.length < 17592186044416) : g_slices_Concat_byte_byte [.slice 1 (.int .u8) a .ro, .slice 1 (.int .u8) b .ro] = some (a ++ b) := by
  have e0 : getXs (List.getD [AV.slice 1 (.int .u8) a .ro, .slice 1 (.int .u8) b .ro] (Int.toNat 0) (.slice 1 (.int .u8) [] .ro)) = a := rfl
  have e1 : getXs (List.getD [AV.slice 1 (.int .u8) a .ro, .slice 1 (.int .u8) b .ro] (Int.toNat 1) (.slice 1 (.int .u8) [] .ro)) = b := rfl
  have w0 : IntKind.i64.wrap (0 + (a.length : Int)) = a.length := by rw [Int.zero_add]; exact i64_wrap (by omega) (by omega)
  have w1 : IntKind.i64.wrap ((a.length : Int) + b.length) = ((a.length + b.length : Nat) : Int) := by rw [i64_wrap (by omega) (by omega)]; omega
  have w2 : IntKind.i64.wrap (0 + 1) = 1 := rfl
  have w3 : IntKind.i64.wrap (1 + 1) = 2 := rfl
  have n0 : ¬ ((a.length : Int) < 0) := by omega
  have n1 : ¬ (((a.length + b.length : Nat) : Int) < 0) := by omega
  have l0 : a.length * 2 < 70368744177664 := by omega
  have l1 : (a.length + b.length) * 2 < 70368744177664 := by omega
  have gr := Grow_eq (((a.length + b.length : Nat) : Int)) (by omega) (by omega)
  unfold g_slices_Concat_byte_byte
  rw [run_inl (s := .inl (0, 0)) rfl]
  rw [run_inl (s := .inl ((a.length : Int), 1)) (by simp only [M_slices_Concat_byte_byte, Tr.val_c, Tr.val_r, e0, w0, w2, n0]; rfl)]
  rw [run_inl (s := .inl (((a.length + b.length : Nat) : Int), 2)) (by simp only [M_slices_Concat_byte_byte, Tr.val_c, Tr.val_r, e1, w1, w3, n1]; rfl)]
  rw [run_inl (s := .inr ([], 0)) (by simp only [M_slices_Concat_byte_byte, Tr.val_c, Tr.val_r, gr, opt_some]; rfl)]
  rw [run_inl (s := .inr (a, 1)) (by simp only [M_slices_Concat_byte_byte, Tr.val_c, Tr.val_r, e0, w2, List.nil_append, l0, decide_true, beq_self_eq_true]; rfl)]
  rw [run_inl (s := .inr (a ++ b, 2)) (by simp only [M_slices_Concat_byte_byte, Tr.val_c, Tr.val_r, e1, w3, List.length_append, l1, decide_true, beq_self_eq_true]; rfl)]
  exact run_inr (by simp only [M_slices_Concat_byte_byte, Tr.val_c, Tr.val_r, beq_self_eq_true]; rfl)

/- the cursor -/
theorem shr8 (v : Int) : ∀ i : Nat, i < 8 → IntKind.u8.wrap (shrA .u64 v (8 * (i : Int))) = v / 256 ^ i % 256
  | 0, _ => by rw [u8_mod]; show v.fdiv 1 % 256 = _; rw [Int.fdiv_eq_ediv_of_nonneg _ (by decide)]; rfl
  | 1, _ => by rw [u8_mod]; show v.fdiv 256 % 256 = _; rw [Int.fdiv_eq_ediv_of_nonneg _ (by decide)]; rfl
  | 2, _ => by rw [u8_mod]; show v.fdiv 65536 % 256 = _; rw [Int.fdiv_eq_ediv_of_nonneg _ (by decide)]; rfl
  | 3, _ => by rw [u8_mod]; show v.fdiv 16777216 % 256 = _; rw [Int.fdiv_eq_ediv_of_nonneg _ (by decide)]; rfl
  | 4, _ => by rw [u8_mod]; show v.fdiv 4294967296 % 256 = _; rw [Int.fdiv_eq_ediv_of_nonneg _ (by decide)]; rfl
  | 5, _ => by rw [u8_mod]; show v.fdiv 1099511627776 % 256 = _; rw [Int.fdiv_eq_ediv_of_nonneg _ (by decide)]; rfl
  | 6, _ => by rw [u8_mod]; show v.fdiv 281474976710656 % 256 = _; rw [Int.fdiv_eq_ediv_of_nonneg _ (by decide)]; rfl
  | 7, _ => by rw [u8_mod]; show v.fdiv 72057594037927936 % 256 = _; rw [Int.fdiv_eq_ediv_of_nonneg _ (by decide)]; rfl
  | n + 8, h => by omega

/-- The lowest bytes of a number, the highest first. -/
def bex (v : Int) : Nat → List AV
  | 0 => []
  | i + 1 => .int .u8 (v / 256 ^ i % 256) :: bex v i
@[simp] theorem length_bex (v : Int) (i : Nat) : (bex v i).length = i := by induction i <;> simp [bex, *]

theorem set_last (r : List AV) (x y : AV) (j : Nat) : (List.replicate (j + 1) x ++ r).set j y = List.replicate j x ++ y :: r := by
  induction j with
  | zero => rfl
  | succ j ih => rw [List.replicate_succ (n := j + 1), List.cons_append, List.set_cons_succ, ih]; rfl

theorem Put_eq (x0 : List AV) (v n : Int) (m : Nat) (hx : x0.length < 8796093022208) (hm : m ≤ 8) (hn : (if 8 < (if 0 > n then 0 else n) then 8 else if 0 > n then 0 else n) = (m : Int)) : g_cursor_Put x0 v n = some (x0 ++ bex v m) := by
  unfold g_cursor_Put
  have hr : m * 2 < 70368744177664 := by omega
  have h0 : (0 : Int) ≤ m := by omega
  rw [run_inl (s := ((m : Int), (m : Int), List.replicate m (.int .u8 0), 0))]
  rotate_left
  · simp only [T_cursor_Put, Tr.val_c, Tr.val_r, hn, h0, Int.toNat_natCast, List.length_replicate, hr, decide_true, cond_true, beq_self_eq_true]
  have key : ∀ k i, i + k = m → run (M_cursor_Put x0 v n) (M_cursor_Put x0 v n ((m : Int), (m : Int), List.replicate k (.int .u8 0) ++ bex v i, (i : Int))) = some (x0 ++ bex v m) := by
    intro k
    induction k with
    | zero =>
      intro i hi
      have : i = m := by omega
      subst this
      have hlt : ¬ ((i : Int) < i) := by omega
      have hc := Concat_eq x0 (bex v i) (by simp; omega)
      exact run_inr (by simp only [M_cursor_Put, Tr.val_c, Tr.val_r, hlt, List.replicate_zero, List.nil_append, val_opt, hc, Option.bind_some, decide_false, cond_false, beq_self_eq_true, cond_true])
    | succ k ih =>
      intro i hi
      have q1 : (i : Int) < m := by omega
      have w1 : IntKind.i64.wrap (8 * (i : Int)) = 8 * i := i64_wrap (by omega) (by omega)
      have w2 : IntKind.i64.wrap ((m : Int) - 1) = m - 1 := i64_wrap (by omega) (by omega)
      have w3 : IntKind.i64.wrap ((m : Int) - 1 - i) = (k : Int) := by rw [i64_wrap (by omega) (by omega)]; omega
      have w4 : IntKind.i64.wrap ((i : Int) + 1) = ((i + 1 : Nat) : Int) := by rw [i64_wrap (by omega) (by omega)]; omega
      have q2 : (0 : Int) ≤ 8 * i := by omega
      have q3 : (0 : Int) ≤ k := by omega
      have hl : (List.replicate (k + 1) (AV.int .u8 0) ++ bex v i).length = m := by simp; omega
      have hl2 : (List.replicate k (AV.int .u8 0) ++ AV.int .u8 (v / 256 ^ i % 256) :: bex v i).length = m := by simp; omega
      have q4 : (k : Int) < m := by omega
      have q5 : k < m := by omega
      rw [run_inl (s := ((m : Int), (m : Int), List.replicate k (.int .u8 0) ++ bex v (i + 1), ((i + 1 : Nat) : Int)))]
      · exact ih (i + 1) (by omega)
      · simp only [M_cursor_Put, Tr.val_c, Tr.val_r, q1, w1, w2, w3, w4, q2, q3, q4, q5, hl, Int.toNat_natCast, shr8 v i (by omega), decide_true, cond_true, beq_self_eq_true, set_last, hl2]
        rfl
  have := key m 0 (by omega)
  simpa [bex] using this

theorem take_eq (n : Int) (b : List AV) (k : Nat) (hk : k ≤ b.length) (hb : b.length < 8796093022208) :
    g_cursor_Cursor_take_p0500 n b k = some (if n < 0 then ([], 1, b, (k : Int)) else if n > b.length - k then ([], 3, b, (k : Int)) else ((b.drop k).take n.toNat, 0, b, (k : Int) + n)) := by
  unfold g_cursor_Cursor_take_p0500
  have w0 : IntKind.i64.wrap ((b.length : Int) - k) = b.length - k := i64_wrap (by omega) (by omega)
  by_cases h1 : n < 0
  · simp only [T_cursor_Cursor_take_p0500, Tr.val_c, Tr.val_r, h1, decide_true, cond_true, if_true]
  · by_cases h2 : n > (b.length : Int) - k
    · simp only [T_cursor_Cursor_take_p0500, Tr.val_c, Tr.val_r, h1, h2, w0, decide_true, decide_false, cond_true, cond_false, if_true, if_false]
    · have w1 : IntKind.i64.wrap ((k : Int) + n) = k + n := i64_wrap (by omega) (by omega)
      have w2 : IntKind.i64.wrap ((k : Int) + n - n) = k := by rw [i64_wrap (by omega) (by omega)]; omega
      have q1 : (0 : Int) ≤ k + n := by omega
      have q2 : (k : Int) + n ≤ b.length := by omega
      have q3 : (0 : Int) ≤ k := by omega
      have q4 : (k : Int) ≤ k + n := by omega
      have hd : ((b.take ((k : Int) + n).toNat).drop (k : Int).toNat) = (b.drop k).take n.toNat := by
        rw [List.drop_take]; congr 1; omega
      simp only [T_cursor_Cursor_take_p0500, Tr.val_c, Tr.val_r, h1, h2, w0, w1, w2, q1, q2, q3, q4, hd, decide_true, decide_false, cond_true, cond_false, if_false]

theorem read_eq (n : Int) (b : List AV) (k : Int) : g_cursor_read_ftake_0p500 n b k = g_cursor_Cursor_take_p0500 n b k := by
  conv => lhs; unfold g_cursor_read_ftake_0p500
  simp only [T_cursor_read_ftake_0p500, Tr.val_c, Tr.val_r, val_opt]
  cases g_cursor_Cursor_take_p0500 n b k <;> rfl

theorem Take_eq (n : Int) (b : List AV) (k : Nat) (hk : k ≤ b.length) (hb : b.length < 8796093022208) :
    g_cursor_Cursor_Take_p0500 n b k = some (if n < 0 then ([], 1, b, (k : Int)) else if n > b.length - k then ([], 3, b, (k : Int)) else ((b.drop k).take n.toNat, 0, b, (k : Int) + n)) := by
  have h := take_eq n b k hk hb
  have hl : ∀ m : Nat, ((b.drop k).take m).length * 2 < 70368744177664 := by
    intro m; simp only [List.length_take, List.length_drop]; omega
  unfold g_cursor_Cursor_Take_p0500
  simp only [T_cursor_Cursor_Take_p0500, Tr.val_c, Tr.val_r, val_opt, read_eq, h, Option.bind_some]
  by_cases h1 : n < 0
  · simp [h1]
  · by_cases h2 : n > (b.length : Int) - k
    · simp [h1, h2]
    · simp only [h1, h2, if_false, hl, decide_true, cond_true]

/-- The number that bytes are. -/
def numOf (l : List AV) : Int := l.foldl (fun a x => bitsA .or .u64 (shlA .u64 a 8) (IntKind.u64.wrap (getI x))) 0

theorem Number_eq (n : Int) (b : List AV) (k : Nat) (hk : k ≤ b.length) (hb : b.length < 8796093022208) :
    g_cursor_Cursor_Number_p0500 n b k = some (if n < 1 then (0, 1, b, (k : Int)) else if n > 8 then (0, 1, b, (k : Int)) else if n > b.length - k then (0, 3, b, (k : Int)) else (numOf ((b.drop k).take n.toNat), 0, b, (k : Int) + n)) := by
  unfold g_cursor_Cursor_Number_p0500
  by_cases h1 : n < 1
  · rw [run_inr (x := (0, 1, b, (k : Int))) (by simp only [T_cursor_Cursor_Number_p0500, Tr.val_c, Tr.val_r, h1, decide_true, cond_true])]
    simp [h1]
  by_cases h2 : n > 8
  · rw [run_inr (x := (0, 1, b, (k : Int))) (by simp only [T_cursor_Cursor_Number_p0500, Tr.val_c, Tr.val_r, h1, h2, decide_true, decide_false, cond_true, cond_false])]
    simp [h1, h2]
  have loop : ∀ (e : Int) (l : List AV) (b2 : List AV) (at' : Int), l.length < 8796093022208 → ∀ m i v, i + m = l.length → run (M_cursor_Cursor_Number_p0500 n b k) (M_cursor_Cursor_Number_p0500 n b k (e, l, (l.length : Int), b2, at', v, (i : Int))) =
      some ((l.drop i).foldl (fun a x => bitsA .or .u64 (shlA .u64 a 8) (IntKind.u64.wrap (getI x))) v, e, b2, at') := by
    intro e l b2 at' hl m
    induction m with
    | zero =>
      intro i v hi
      have hlt : ¬ ((i : Int) < l.length) := by omega
      rw [List.drop_of_length_le (by omega)]
      exact run_inr (by simp only [M_cursor_Cursor_Number_p0500, Tr.val_c, Tr.val_r, hlt, decide_false, cond_false]; rfl)
    | succ m ih =>
      intro i v hi
      have q1 : (i : Int) < l.length := by omega
      have q2 : (0 : Int) ≤ i := by omega
      have q3 : i < l.length := by omega
      have w : IntKind.i64.wrap ((i : Int) + 1) = ((i + 1 : Nat) : Int) := by rw [i64_wrap (by omega) (by omega)]; omega
      have hg : l.getD i (.int .u8 0) = l[i] := by simp [List.getD_eq_getElem?_getD, q3]
      rw [run_inl (s := (e, l, (l.length : Int), b2, at', bitsA .or .u64 (shlA .u64 v 8) (IntKind.u64.wrap (getI l[i])), ((i + 1 : Nat) : Int))) (by simp only [M_cursor_Cursor_Number_p0500, Tr.val_c, Tr.val_r, q1, q2, w, hg, Int.toNat_natCast, decide_true, cond_true]), ih (i + 1) _ (by omega), List.drop_eq_getElem_cons q3, List.foldl_cons]
  have ht := take_eq n b k hk hb
  have h0 : ¬ n < 0 := by omega
  by_cases h3 : n > (b.length : Int) - k
  · rw [run_inl (s := (3, [], ((([] : List AV).length : Nat) : Int), b, (k : Int), 0, ((0 : Nat) : Int)))]
    · rw [loop 3 [] b k (by simp) 0 0 0 rfl]
      simp [h1, h2, h3]
    · simp only [T_cursor_Cursor_Number_p0500, Tr.val_c, Tr.val_r, val_opt, h1, h2, h0, h3, read_eq, ht, Option.bind_some, if_true, if_false, decide_false, cond_false]
      rfl
  · rw [run_inl (s := (0, (b.drop k).take n.toNat, ((((b.drop k).take n.toNat).length : Nat) : Int), b, (k : Int) + n, 0, ((0 : Nat) : Int)))]
    · rw [loop 0 _ b _ (by simp only [List.length_take, List.length_drop]; omega) ((b.drop k).take n.toNat).length 0 0 (by omega)]
      simp only [h1, h2, h3, if_false, List.drop_zero, numOf]
    · simp only [T_cursor_Cursor_Number_p0500, Tr.val_c, Tr.val_r, val_opt, h1, h2, h0, h3, read_eq, ht, Option.bind_some, if_true, if_false, decide_false, cond_false]
      rfl

theorem New_eq (b : List AV) (hb : b.length < 8796093022208) : g_cursor_New b = some (b, 0) := by
  have : b.length * 2 < 70368744177664 := by omega
  unfold g_cursor_New
  simp only [T_cursor_New, Tr.val_c, Tr.val_r, this, decide_true, cond_true]

theorem awake01 : g_comptoirlaw01_awake = some true := by
  have a := Number_eq 2 [.int .u8 1, .int .u8 2, .int .u8 3] 0 (by simp) (by simp)
  have p := Put_eq [] 258 2 2 (by simp) (by omega) (by decide)
  have e1 : (if (2 : Int) < 1 then ((0 : Int), (1 : Int), [AV.int .u8 1, .int .u8 2, .int .u8 3], ((0 : Nat) : Int)) else if (2 : Int) > 8 then (0, 1, [.int .u8 1, .int .u8 2, .int .u8 3], ((0 : Nat) : Int)) else if (2 : Int) > (([AV.int .u8 1, .int .u8 2, .int .u8 3].length : Nat) : Int) - ((0 : Nat) : Int) then (0, 3, [.int .u8 1, .int .u8 2, .int .u8 3], ((0 : Nat) : Int)) else (numOf (([AV.int .u8 1, .int .u8 2, .int .u8 3].drop 0).take (2 : Int).toNat), 0, [.int .u8 1, .int .u8 2, .int .u8 3], ((0 : Nat) : Int) + 2)) = (258, 0, [.int .u8 1, .int .u8 2, .int .u8 3], 2) := by kernel_rfl
  rw [e1] at a
  have a : g_cursor_Cursor_Number_p0500 2 [.int .u8 1, .int .u8 2, .int .u8 3] 0 = some (258, 0, [.int .u8 1, .int .u8 2, .int .u8 3], 2) := a
  unfold g_comptoirlaw01_awake
  simp only [T_comptoirlaw01_awake, Tr.val_c, Tr.val_r, val_opt, a, p, Option.bind_some]
  rfl

theorem foldl_bex (v : Nat) : ∀ (i a : Nat), i ≤ 8 → a < 256 ^ (8 - i) → (bex (v : Int) i).foldl (fun a x => bitsA .or .u64 (shlA .u64 a 8) (IntKind.u64.wrap (getI x))) (a : Int) = ((a * 256 ^ i + v % 256 ^ i : Nat) : Int)
  | 0, a, _, _ => by
    show (a : Int) = _
    rw [Nat.pow_zero, Nat.mod_one, Nat.mul_one, Nat.add_zero]
  | i + 1, a, hi, ha => by
    have e8 : 8 - i = (8 - (i + 1)) + 1 := by omega
    have hp : 256 ^ (8 - i) = 256 * 256 ^ (8 - (i + 1)) := by rw [e8, Nat.pow_succ, Nat.mul_comm]
    have h7 : 256 ^ (8 - (i + 1)) ≤ 256 ^ 7 := Nat.pow_le_pow_right (by omega) (by omega)
    have hy : v / 256 ^ i % 256 < 256 := Nat.mod_lt _ (by omega)
    have hb := byte_behind (a := a) (y := v / 256 ^ i % 256) (by omega) hy
    have hc : ((v : Int) / 256 ^ i % 256) = ((v / 256 ^ i % 256 : Nat) : Int) := by rw [Int.natCast_emod, Int.natCast_ediv, Int.natCast_pow]; rfl
    rw [bex, List.foldl_cons, getI_int, hc, hb, foldl_bex v i _ (by omega) (by rw [hp]; omega)]
    congr 1
    rw [Nat.pow_succ, Nat.mod_mul, Nat.add_mul, Nat.mul_assoc, Nat.mul_comm 256 (256 ^ i), Nat.mul_comm (v / 256 ^ i % 256)]
    omega

theorem numOf_bex (v n : Nat) (hn : n ≤ 8) : numOf (bex (v : Int) n) = ((v % 256 ^ n : Nat) : Int) := by
  have := foldl_bex v n 0 hn (Nat.pow_pos (by omega))
  unfold numOf
  rw [Nat.zero_mul, Nat.zero_add] at this
  exact this

/-- What is wanted of a number in so many bytes, if fewer than eight. -/
theorem want_eq (v : Nat) (hv : v < 18446744073709551616) : ∀ n : Nat, 1 ≤ n → n < 8 →
    bitsA .and .u64 (v : Int) (IntKind.u64.wrap (shlA .u64 1 (IntKind.u64.wrap (IntKind.i64.wrap (8 * (n : Int)))) - 1)) = ((v % 256 ^ n : Nat) : Int) := by
  intro n h1 h8
  have key : ∀ m : Nat, m < 2 ^ 64 → ∀ k : Nat, m = 2 ^ k - 1 → 256 ^ n = 2 ^ k → bitsA .and .u64 (v : Int) (m : Int) = ((v % 256 ^ n : Nat) : Int) := by
    intro m hm k hk hp
    rw [and64 (by omega) hm, hk, Nat.and_two_pow_sub_one_eq_mod, hp]
  have : n = 1 ∨ n = 2 ∨ n = 3 ∨ n = 4 ∨ n = 5 ∨ n = 6 ∨ n = 7 := by omega
  rcases this with rfl | rfl | rfl | rfl | rfl | rfl | rfl
  · exact key 255 (by decide) 8 rfl rfl
  · exact key 65535 (by decide) 16 rfl rfl
  · exact key 16777215 (by decide) 24 rfl rfl
  · exact key 4294967295 (by decide) 32 rfl rfl
  · exact key 1099511627775 (by decide) 40 rfl rfl
  · exact key 281474976710655 (by decide) 48 rfl rfl
  · exact key 72057594037927935 (by decide) 56 rfl rfl

def vN (L : List AV) (i : Nat) : Nat := (getI (L.getD i (.int .u64 0))).toNat
def nB (S : List AV) (i : Nat) : Nat := (1 + IntKind.u64.wrap (getI (S.getD i (.int .i64 0))) % 8).toNat
def dat (A L S : List AV) : Nat → List AV
  | 0 => A
  | i + 1 => dat A L S i ++ bex (vN L i : Int) (nB S i)
theorem nB_bounds (S : List AV) (i : Nat) : 1 ≤ nB S i ∧ nB S i ≤ 8 := by
  obtain ⟨c0, c1⟩ := u64_bounds (getI (S.getD i (.int .i64 0)))
  unfold nB; omega
theorem dat_length (A L S : List AV) (hA : A.length ≤ 100) (i : Nat) : (dat A L S i).length ≤ 100 + 8 * i := by
  induction i with
  | zero => simpa [dat] using hA
  | succ i ih => have := nB_bounds S i; simp only [dat, List.length_append, length_bex]; omega
theorem dat_prefix (A L S : List AV) (i : Nat) : ∀ d : Nat, ∃ r, dat A L S (i + d) = dat A L S i ++ r
  | 0 => ⟨[], by simp⟩
  | d + 1 => by
    obtain ⟨r, hr⟩ := dat_prefix A L S i d
    exact ⟨r ++ bex (vN L (i + d) : Int) (nB S (i + d)), by rw [← Nat.add_assoc, dat, hr, List.append_assoc]⟩

set_option maxRecDepth 20000 in
theorem back_eq (A L S : List AV) (hv : ∀ i, 0 ≤ getI (L.getD i (.int .u64 0)) ∧ getI (L.getD i (.int .u64 0)) < 18446744073709551616) (hL : L.length < 9223372036854775808) (hS : S.length < 9223372036854775808) : g_comptoirlaw01_CursorBack A L S = some true := by
  unfold g_comptoirlaw01_CursorBack
  by_cases hbig : (A.length : Int) > 100
  · exact run_inr (by simp only [T_comptoirlaw01_CursorBack, Tr.val_c, Tr.val_r, val_opt, awake01, hbig, Option.bind_some, decide_true, cond_true])
  have lA : A.length ≤ 100 := by omega
  have lA2 : A.length * 2 < 70368744177664 := by omega
  have hvN : ∀ i, getI (L.getD i (.int .u64 0)) = (vN L i : Int) := fun i => by have := hv i; unfold vN; omega
  have hvlt : ∀ i, vN L i < 18446744073709551616 := fun i => by have := hv i; unfold vN; omega
  have hnB : ∀ i, IntKind.i64.wrap (1 + IntKind.i64.wrap (Int.tmod (IntKind.u64.wrap (getI (S.getD i (.int .i64 0)))) 8)) = (nB S i : Int) := fun i => by
    obtain ⟨c0, c1⟩ := u64_bounds (getI (S.getD i (.int .i64 0)))
    rw [tmod_eq c0, i64_wrap (n := _ % 8) (by omega) (by omega), i64_wrap (by omega) (by omega)]
    unfold nB; omega
  have hclamp : ∀ i, (if (8 : Int) < (if (0 : Int) > (nB S i : Int) then 0 else (nB S i : Int)) then 8 else if (0 : Int) > (nB S i : Int) then 0 else (nB S i : Int)) = (nB S i : Int) := fun i => by
    have := nB_bounds S i
    have h0 : ¬ ((0 : Int) > (nB S i : Int)) := by omega
    have h8 : ¬ ((8 : Int) < (nB S i : Int)) := by omega
    rw [if_neg h0, if_neg h8]
  have hput : ∀ i, i ≤ 30 → g_cursor_Put (dat A L S i) (vN L i : Int) (nB S i : Int) = some (dat A L S (i + 1)) := fun i hi => by
    have := dat_length A L S lA i
    exact Put_eq (dat A L S i) (vN L i : Int) (nB S i : Int) (nB S i) (by omega) (nB_bounds S i).2 (hclamp i)
  obtain ⟨K, hK⟩ : ∃ K, K = min (min L.length S.length) 30 := ⟨_, rfl⟩
  have lD : ∀ i, i ≤ 30 → (dat A L S i).length ≤ 340 := fun i hi => by have := dat_length A L S lA i; omega
  have lDK := lD K (by omega)
  -- the last part: all is read
  have fin : run (M_comptoirlaw01_CursorBack A L S) (M_comptoirlaw01_CursorBack A L S ((.inr (.inr (.inr (.inr (.inr (.inr (.inr (.inr (.inr (.inr (.inl (dat A L S K, ((dat A L S K).length : Int))))))))))))))) = some true :=
    run_inr (by
      have w : IntKind.i64.wrap (((dat A L S K).length : Int) - (dat A L S K).length) = 0 := by rw [i64_wrap (by omega) (by omega)]; omega
      simp only [M_comptoirlaw01_CursorBack, Tr.val_c, Tr.val_r, w]
      rfl)
  -- reading
  have rd : ∀ m i, i + m = K → run (M_comptoirlaw01_CursorBack A L S) (M_comptoirlaw01_CursorBack A L S ((.inr (.inr (.inr (.inr (.inr (.inr (.inr (.inr (.inl (dat A L S K, ((dat A L S i).length : Int), (i : Int))))))))))))) = some true := by
    intro m
    induction m with
    | zero =>
      intro i hi
      have hi : i = K := by omega
      subst hi
      rw [run_inl (s := (.inr (.inr (.inr (.inr (.inr (.inr (.inr (.inr (.inr (.inr (.inl (dat A L S i, ((dat A L S i).length : Int)))))))))))))), fin]
      simp only [M_comptoirlaw01_CursorBack, Tr.val_c, Tr.val_r]
      by_cases h1 : (i : Int) < L.length
      · by_cases h2 : (i : Int) < S.length
        · have h3 : ¬ ((i : Int) < 30) := by omega
          simp only [h1, h2, h3, decide_true, decide_false, cond_true, cond_false]
        · simp only [h1, h2, decide_true, decide_false, cond_true, cond_false]
      · simp only [h1, decide_false, cond_false]
    | succ m ih =>
      intro i hi
      have h1 : (i : Int) < L.length := by omega
      have h2 : (i : Int) < S.length := by omega
      have h3 : (i : Int) < 30 := by omega
      have h0 : (0 : Int) ≤ i := by omega
      have hb := nB_bounds S i
      have w4 : IntKind.i64.wrap ((i : Int) + 1) = ((i + 1 : Nat) : Int) := by rw [i64_wrap (by omega) (by omega)]; omega
      obtain ⟨r, hr⟩ := dat_prefix A L S (i + 1) (K - (i + 1))
      rw [show i + 1 + (K - (i + 1)) = K by omega] at hr
      have hdr : dat A L S K = dat A L S i ++ (bex (vN L i : Int) (nB S i) ++ r) := by rw [hr, dat, List.append_assoc]
      have hlen : (dat A L S (i + 1)).length = (dat A L S i).length + nB S i := by simp [dat]
      have hle : (dat A L S (i + 1)).length ≤ (dat A L S K).length := by rw [hr]; simp
      have hn := Number_eq (nB S i : Int) (dat A L S K) (dat A L S i).length (by omega) (by omega)
      rw [if_neg (by omega), if_neg (by omega), if_neg (by omega)] at hn
      have hd : (((dat A L S K).drop (dat A L S i).length).take ((nB S i : Int)).toNat) = bex (vN L i : Int) (nB S i) := by
        rw [hdr, List.drop_left, Int.toNat_natCast, List.take_left' (by simp)]
      rw [hd, numOf_bex _ _ hb.2, show ((dat A L S i).length : Int) + (nB S i : Int) = ((dat A L S (i + 1)).length : Int) by omega] at hn
      rw [run_inl (s := (.inr (.inr (.inr (.inr (.inr (.inr (.inr (.inr (.inr (.inl (dat A L S K, ((dat A L S i).length : Int), (i : Int))))))))))))) (by simp only [M_comptoirlaw01_CursorBack, Tr.val_c, Tr.val_r, h1, h2, h3, decide_true, cond_true])]
      rw [run_inl (s := (.inr (.inr (.inr (.inr (.inr (.inr (.inr (.inr (.inr (.inr (.inr (.inl (((vN L i % 256 ^ nB S i : Nat) : Int), 0, ((vN L i % 256 ^ nB S i : Nat) : Int), dat A L S K, ((dat A L S (i + 1)).length : Int), (i : Int)))))))))))))))]
      · rw [run_inl (s := (.inr (.inr (.inr (.inr (.inr (.inr (.inr (.inr (.inr (.inr (.inr (.inr (dat A L S K, ((dat A L S (i + 1)).length : Int), false, (i : Int))))))))))))))) (by
          simp only [M_comptoirlaw01_CursorBack, Tr.val_c, Tr.val_r, bne_self_eq_false, cond_false])]
        rw [run_inl (s := (.inr (.inr (.inr (.inr (.inr (.inr (.inr (.inr (.inl (dat A L S K, ((dat A L S (i + 1)).length : Int), ((i + 1 : Nat) : Int)))))))))))) (by
          simp only [M_comptoirlaw01_CursorBack, Tr.val_c, Tr.val_r, cond_false, w4])]
        exact ih (i + 1) (by omega)
      · simp only [M_comptoirlaw01_CursorBack, Tr.val_c, Tr.val_r, val_opt, h0, h1, h2, Int.toNat_natCast, hnB, hvN, hn, Option.bind_some, decide_true, cond_true]
        by_cases h8 : (nB S i : Int) < 8
        · have w8 : IntKind.i64.wrap (8 * (nB S i : Int)) = 8 * (nB S i : Int) := i64_wrap (by omega) (by omega)
          have q8 : (0 : Int) ≤ IntKind.u64.wrap (IntKind.i64.wrap (8 * (nB S i : Int))) := (u64_bounds _).1
          simp only [h8, q8, want_eq (vN L i) (hvlt i) (nB S i) hb.1 (by omega), decide_true, cond_true]
        · have e : nB S i = 8 := by omega
          have hm : vN L i % 256 ^ nB S i = vN L i := by rw [e]; exact Nat.mod_eq_of_lt (hvlt i)
          simp only [h8, hm, decide_false, cond_false]
  -- the head is read
  have hd : run (M_comptoirlaw01_CursorBack A L S) (M_comptoirlaw01_CursorBack A L S ((.inr (.inr (.inr (.inr (.inl (dat A L S K, 0, false)))))))) = some true := by
    obtain ⟨r, hr⟩ := dat_prefix A L S 0 K
    rw [Nat.zero_add] at hr
    have hr : dat A L S K = A ++ r := hr
    have hle : A.length ≤ (dat A L S K).length := by rw [hr]; simp
    have ht := Take_eq (A.length : Int) (dat A L S K) 0 (by omega) (by omega)
    rw [if_neg (by omega), if_neg (by omega)] at ht
    have e : ((dat A L S K).drop 0).take ((A.length : Int)).toNat = A := by rw [hr, List.drop_zero, Int.toNat_natCast, List.take_left]
    rw [e] at ht
    have ht : g_cursor_Cursor_Take_p0500 (A.length : Int) (dat A L S K) 0 = some (A, 0, dat A L S K, (A.length : Int)) := by simpa using ht
    rw [run_inl (s := (.inr (.inr (.inr (.inr (.inr (.inr (.inr (.inl (dat A L S K, (A.length : Int), false)))))))))) (by
      simp only [M_comptoirlaw01_CursorBack, Tr.val_c, Tr.val_r, val_opt, ht, Option.bind_some, cond_false, bne_self_eq_false, beq_self_eq_true, Bool.not_true])]
    rw [run_inl (s := (.inr (.inr (.inr (.inr (.inr (.inr (.inr (.inr (.inl (dat A L S K, (A.length : Int), 0))))))))))) (by
      simp only [M_comptoirlaw01_CursorBack, Tr.val_c, Tr.val_r, cond_false])]
    exact rd K 0 (by omega)
  have hnew := New_eq (dat A L S K) (by omega)
  -- writing
  have wr : ∀ m i, i + m = K → run (M_comptoirlaw01_CursorBack A L S) (M_comptoirlaw01_CursorBack A L S ((.inr (.inr (.inr (.inl (dat A L S i, (i : Int)))))))) = some true := by
    intro m
    induction m with
    | zero =>
      intro i hi
      have hi : i = K := by omega
      subst hi
      rw [run_inl (s := (.inr (.inr (.inr (.inr (.inr (.inr (.inl (dat A L S i)))))))))]
      · rw [run_inl (s := (.inr (.inr (.inr (.inr (.inl (dat A L S i, 0, false))))))) (by simp only [M_comptoirlaw01_CursorBack, Tr.val_c, Tr.val_r, val_opt, hnew, awake01, Option.bind_some, Bool.not_true, cond_false])]
        exact hd
      · simp only [M_comptoirlaw01_CursorBack, Tr.val_c, Tr.val_r]
        by_cases h1 : (i : Int) < L.length
        · by_cases h2 : (i : Int) < S.length
          · have h3 : ¬ ((i : Int) < 30) := by omega
            simp only [h1, h2, h3, decide_true, decide_false, cond_true, cond_false]
          · simp only [h1, h2, decide_true, decide_false, cond_true, cond_false]
        · simp only [h1, decide_false, cond_false]
    | succ m ih =>
      intro i hi
      have h1 : (i : Int) < L.length := by omega
      have h2 : (i : Int) < S.length := by omega
      have h3 : (i : Int) < 30 := by omega
      have h0 : (0 : Int) ≤ i := by omega
      have w4 : IntKind.i64.wrap ((i : Int) + 1) = ((i + 1 : Nat) : Int) := by rw [i64_wrap (by omega) (by omega)]; omega
      rw [run_inl (s := (.inr (.inr (.inr (.inr (.inr (.inl (dat A L S i, (i : Int))))))))) (by simp only [M_comptoirlaw01_CursorBack, Tr.val_c, Tr.val_r, h1, h2, h3, decide_true, cond_true])]
      rw [run_inl (s := (.inr (.inr (.inr (.inl (dat A L S (i + 1), ((i + 1 : Nat) : Int))))))) (by
        simp only [M_comptoirlaw01_CursorBack, Tr.val_c, Tr.val_r, val_opt, h0, h1, h2, Int.toNat_natCast, hnB, hvN, hput i (by omega), Option.bind_some, decide_true, cond_true, w4])]
      exact ih (i + 1) (by omega)
  rw [run_inl (s := (.inl ())) (by simp only [T_comptoirlaw01_CursorBack, Tr.val_c, Tr.val_r, hbig, lA2, decide_true, decide_false, cond_true, cond_false])]
  by_cases hK0 : K = 0
  · subst hK0
    rw [run_inl (s := (.inr (.inr (.inl ()))))]
    · have hnew0 : g_cursor_New A = some (A, 0) := New_eq A (by omega)
      rw [run_inl (s := (.inr (.inr (.inr (.inr (.inl (A, 0, false))))))) (by
        simp only [M_comptoirlaw01_CursorBack, Tr.val_c, Tr.val_r, val_opt, hnew0, awake01, Option.bind_some, Bool.not_true, cond_false, Bool.true_and, beq_self_eq_true, cond_true])]
      exact hd
    · simp only [M_comptoirlaw01_CursorBack, Tr.val_c, Tr.val_r]
      by_cases h1 : (0 : Int) < L.length
      · have h2 : ¬ ((0 : Int) < S.length) := by omega
        simp only [h1, h2, decide_true, decide_false, cond_true, cond_false]
      · simp only [h1, decide_false, cond_false]
  · have h1 : (0 : Int) < L.length := by omega
    have h2 : (0 : Int) < S.length := by omega
    have hp : g_cursor_Put A (vN L 0 : Int) (nB S 0 : Int) = some (dat A L S 1) := hput 0 (by omega)
    rw [run_inl (s := (.inr (.inl ()))) (by simp only [M_comptoirlaw01_CursorBack, Tr.val_c, Tr.val_r, h1, h2, decide_true, cond_true])]
    rw [run_inl (s := (.inr (.inr (.inr (.inl (dat A L S 1, 1)))))) (by
      simp only [M_comptoirlaw01_CursorBack, Tr.val_c, Tr.val_r, val_opt, h1, h2, hnB, hvN, hp, Option.bind_some, decide_true, cond_true, Bool.true_and, beq_self_eq_true])]
    exact wr (K - 1) 1 (by omega)

end Go.Proofs.Ythocnaabefdokaa
