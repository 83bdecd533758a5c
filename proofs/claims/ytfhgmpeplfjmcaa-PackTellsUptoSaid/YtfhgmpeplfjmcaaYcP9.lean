/- What the printed functions come to, plainly. -/
import Derived.Test.YtfhgmpeplfjmcaaYcG9
import Derived.Test.YtfhgmpeplfjmcaaCxPl3
import Derived.Test.YtfhgmpeplfjmcaaCxAm
namespace Go.Proofs.Ytfhgmpeplfjmcaa
open Go.Cx Go.Cx.AV
set_option linter.unusedSimpArgs false
set_option linter.unusedVariables false
theorem Grow_eq (n : Int) (h0 : 0 ≤ n) (h : n < 35184372088832) : g_slices_Grow_byte_byte n = some [] := by
  unfold g_slices_Grow_byte_byte
  have w : IntKind.i64.wrap (n - 0) = n := by rw [Int.sub_zero]; exact i64_wrap (by omega) (by omega)
  have hn0 : ¬ (n < 0) := by omega
  have hT : (T_slices_Grow_byte_byte n).val = some (.inl (.inl ())) := by simp only [T_slices_Grow_byte_byte, Tr.val_c, Tr.val_r, hn0]; rfl
  rw [run_inl hT]
  rw [run_inl (s := .inr ())]
  · exact run_inr rfl
  · simp only [M_slices_Grow_byte_byte, Tr.val_c, Tr.val_r, w, List.length_replicate]
    by_cases hn : n > 0
    · have : n.toNat * 2 < 70368744177664 := by omega
      simp [hn, this]
    · simp [hn]
theorem Concat_eq (a b : List AV) (h : a.length + b.length < 17592186044416) : g_slices_Concat_byte_byte [.slice 1 (.int .u8) a .ro, .slice 1 (.int .u8) b .ro] = some (a ++ b) := by
  have e0 : getXs (List.getD [AV.slice 1 (.int .u8) a .ro, .slice 1 (.int .u8) b .ro] (Int.toNat 0) (.slice 1 (.int .u8) [] .ro)) = a := rfl
  have e1 : getXs (List.getD [AV.slice 1 (.int .u8) a .ro, .slice 1 (.int .u8) b .ro] (Int.toNat 1) (.slice 1 (.int .u8) [] .ro)) = b := rfl
  have w0 : IntKind.i64.wrap (0 + (a.length : Int)) = a.length := by rw [Int.zero_add]; exact i64_wrap (by omega) (by omega)
  have w1 : IntKind.i64.wrap ((a.length : Int) + b.length) = ((a.length + b.length : Nat) : Int) := by rw [i64_wrap (by omega) (by omega)]; omega
  have w2 : IntKind.i64.wrap (0 + 1) = 1 := rfl
  have w3 : IntKind.i64.wrap (1 + 1) = 2 := rfl
  have n0 : ¬ ((a.length : Int) < 0) := by omega
  have n1 : ¬ (((a.length + b.length : Nat) : Int) < 0) := by omega
  have l0 : a.length * 2 < 70368744177664 := by omega
  have l1 : (a.length + b.length) * 2 < 70368744177664 := by omega
  have gr := Grow_eq (((a.length + b.length : Nat) : Int)) (by omega) (by omega)
  unfold g_slices_Concat_byte_byte
  rw [run_inl (s := .inl (0, 0)) rfl]
  rw [run_inl (s := .inl ((a.length : Int), 1)) (by simp only [M_slices_Concat_byte_byte, Tr.val_c, Tr.val_r, e0, w0, w2, n0]; rfl)]
  rw [run_inl (s := .inl (((a.length + b.length : Nat) : Int), 2)) (by simp only [M_slices_Concat_byte_byte, Tr.val_c, Tr.val_r, e1, w1, w3, n1]; rfl)]
  rw [run_inl (s := .inr ([], 0)) (by simp only [M_slices_Concat_byte_byte, Tr.val_c, Tr.val_r, gr, opt_some]; rfl)]
  rw [run_inl (s := .inr (a, 1)) (by simp only [M_slices_Concat_byte_byte, Tr.val_c, Tr.val_r, e0, w2, List.nil_append, l0, decide_true, beq_self_eq_true]; rfl)]
  rw [run_inl (s := .inr (a ++ b, 2)) (by simp only [M_slices_Concat_byte_byte, Tr.val_c, Tr.val_r, e1, w3, List.length_append, l1, decide_true, beq_self_eq_true]; rfl)]
  exact run_inr (by simp only [M_slices_Concat_byte_byte, Tr.val_c, Tr.val_r, beq_self_eq_true]; rfl)
theorem shr8 (v : Int) : ∀ i : Nat, i < 8 → IntKind.u8.wrap (shrA .u64 v (8 * (i : Int))) = v / 256 ^ i % 256
  | 0, _ => by rw [u8_mod]; show v.fdiv 1 % 256 = _; rw [Int.fdiv_eq_ediv_of_nonneg _ (by decide)]; rfl
  | 1, _ => by rw [u8_mod]; show v.fdiv 256 % 256 = _; rw [Int.fdiv_eq_ediv_of_nonneg _ (by decide)]; rfl
  | 2, _ => by rw [u8_mod]; show v.fdiv 65536 % 256 = _; rw [Int.fdiv_eq_ediv_of_nonneg _ (by decide)]; rfl
  | 3, _ => by rw [u8_mod]; show v.fdiv 16777216 % 256 = _; rw [Int.fdiv_eq_ediv_of_nonneg _ (by decide)]; rfl
  | 4, _ => by rw [u8_mod]; show v.fdiv 4294967296 % 256 = _; rw [Int.fdiv_eq_ediv_of_nonneg _ (by decide)]; rfl
  | 5, _ => by rw [u8_mod]; show v.fdiv 1099511627776 % 256 = _; rw [Int.fdiv_eq_ediv_of_nonneg _ (by decide)]; rfl
  | 6, _ => by rw [u8_mod]; show v.fdiv 281474976710656 % 256 = _; rw [Int.fdiv_eq_ediv_of_nonneg _ (by decide)]; rfl
  | 7, _ => by rw [u8_mod]; show v.fdiv 72057594037927936 % 256 = _; rw [Int.fdiv_eq_ediv_of_nonneg _ (by decide)]; rfl
  | n + 8, h => by omega
def bex (v : Int) : Nat → List AV
  | 0 => []
  | i + 1 => .int .u8 (v / 256 ^ i % 256) :: bex v i
@[simp] theorem length_bex (v : Int) (i : Nat) : (bex v i).length = i := by induction i <;> simp [bex, *]
theorem set_last (r : List AV) (x y : AV) (j : Nat) : (List.replicate (j + 1) x ++ r).set j y = List.replicate j x ++ y :: r := by
  induction j with
  | zero => rfl
  | succ j ih => rw [List.replicate_succ (n := j + 1), List.cons_append, List.set_cons_succ, ih]; rfl
theorem Put_eq (x0 : List AV) (v n : Int) (m : Nat) (hx : x0.length < 8796093022208) (hm : m ≤ 8) (hn : (if 8 < (if 0 > n then 0 else n) then 8 else if 0 > n then 0 else n) = (m : Int)) : g_cursor_Put x0 v n = some (x0 ++ bex v m) := by
  unfold g_cursor_Put
  have hr : m * 2 < 70368744177664 := by omega
  have h0 : (0 : Int) ≤ m := by omega
  rw [run_inl (s := ((m : Int), (m : Int), List.replicate m (.int .u8 0), 0))]
  rotate_left
  · simp only [T_cursor_Put, Tr.val_c, Tr.val_r, hn, h0, Int.toNat_natCast, List.length_replicate, hr, decide_true, cond_true, beq_self_eq_true]
  have key : ∀ k i, i + k = m → run (M_cursor_Put x0 v n) (M_cursor_Put x0 v n ((m : Int), (m : Int), List.replicate k (.int .u8 0) ++ bex v i, (i : Int))) = some (x0 ++ bex v m) := by
    intro k
    induction k with
    | zero =>
      intro i hi
      have : i = m := by omega
      subst this
      have hlt : ¬ ((i : Int) < i) := by omega
      have hc := Concat_eq x0 (bex v i) (by simp; omega)
      exact run_inr (by simp only [M_cursor_Put, Tr.val_c, Tr.val_r, hlt, List.replicate_zero, List.nil_append, val_opt, hc, Option.bind_some, decide_false, cond_false, beq_self_eq_true, cond_true])
    | succ k ih =>
      intro i hi
      have q1 : (i : Int) < m := by omega
      have w1 : IntKind.i64.wrap (8 * (i : Int)) = 8 * i := i64_wrap (by omega) (by omega)
      have w2 : IntKind.i64.wrap ((m : Int) - 1) = m - 1 := i64_wrap (by omega) (by omega)
      have w3 : IntKind.i64.wrap ((m : Int) - 1 - i) = (k : Int) := by rw [i64_wrap (by omega) (by omega)]; omega
      have w4 : IntKind.i64.wrap ((i : Int) + 1) = ((i + 1 : Nat) : Int) := by rw [i64_wrap (by omega) (by omega)]; omega
      have q2 : (0 : Int) ≤ 8 * i := by omega
      have q3 : (0 : Int) ≤ k := by omega
      have hl : (List.replicate (k + 1) (AV.int .u8 0) ++ bex v i).length = m := by simp; omega
      have hl2 : (List.replicate k (AV.int .u8 0) ++ AV.int .u8 (v / 256 ^ i % 256) :: bex v i).length = m := by simp; omega
      have q4 : (k : Int) < m := by omega
      have q5 : k < m := by omega
      rw [run_inl (s := ((m : Int), (m : Int), List.replicate k (.int .u8 0) ++ bex v (i + 1), ((i + 1 : Nat) : Int)))]
      · exact ih (i + 1) (by omega)
      · simp only [M_cursor_Put, Tr.val_c, Tr.val_r, q1, w1, w2, w3, w4, q2, q3, q4, q5, hl, Int.toNat_natCast, shr8 v i (by omega), decide_true, cond_true, beq_self_eq_true, set_last, hl2]
        rfl
  have := key m 0 (by omega)
  simpa [bex] using this
theorem take_eq (n : Int) (b : List AV) (k : Nat) (hk : k ≤ b.length) (hb : b.length < 8796093022208) :
    g_cursor_Cursor_take_p0500 n b k = some (if n < 0 then ([], 1, b, (k : Int)) else if n > b.length - k then ([], 3, b, (k : Int)) else ((b.drop k).take n.toNat, 0, b, (k : Int) + n)) := by
  unfold g_cursor_Cursor_take_p0500
  have w0 : IntKind.i64.wrap ((b.length : Int) - k) = b.length - k := i64_wrap (by omega) (by omega)
  by_cases h1 : n < 0
  · simp only [T_cursor_Cursor_take_p0500, Tr.val_c, Tr.val_r, h1, decide_true, cond_true, if_true]
  · by_cases h2 : n > (b.length : Int) - k
    · simp only [T_cursor_Cursor_take_p0500, Tr.val_c, Tr.val_r, h1, h2, w0, decide_true, decide_false, cond_true, cond_false, if_true, if_false]
    · have w1 : IntKind.i64.wrap ((k : Int) + n) = k + n := i64_wrap (by omega) (by omega)
      have w2 : IntKind.i64.wrap ((k : Int) + n - n) = k := by rw [i64_wrap (by omega) (by omega)]; omega
      have q1 : (0 : Int) ≤ k + n := by omega
      have q2 : (k : Int) + n ≤ b.length := by omega
      have q3 : (0 : Int) ≤ k := by omega
      have q4 : (k : Int) ≤ k + n := by omega
      have hd : ((b.take ((k : Int) + n).toNat).drop (k : Int).toNat) = (b.drop k).take n.toNat := by
        rw [List.drop_take]; congr 1; omega
      simp only [T_cursor_Cursor_take_p0500, Tr.val_c, Tr.val_r, h1, h2, w0, w1, w2, q1, q2, q3, q4, hd, decide_true, decide_false, cond_true, cond_false, if_false]
theorem read_eq (n : Int) (b : List AV) (k : Int) : g_cursor_read_ftake_0p500 n b k = g_cursor_Cursor_take_p0500 n b k := by
  conv => lhs; unfold g_cursor_read_ftake_0p500
  simp only [T_cursor_read_ftake_0p500, Tr.val_c, Tr.val_r, val_opt]
  cases g_cursor_Cursor_take_p0500 n b k <;> rfl
def numOf (l : List AV) : Int := l.foldl (fun a x => bitsA .or .u64 (shlA .u64 a 8) (IntKind.u64.wrap (getI x))) 0
theorem Number_eq (n : Int) (b : List AV) (k : Nat) (hk : k ≤ b.length) (hb : b.length < 8796093022208) :
    g_cursor_Cursor_Number_p0500 n b k = some (if n < 1 then (0, 1, b, (k : Int)) else if n > 8 then (0, 1, b, (k : Int)) else if n > b.length - k then (0, 3, b, (k : Int)) else (numOf ((b.drop k).take n.toNat), 0, b, (k : Int) + n)) := by
  unfold g_cursor_Cursor_Number_p0500
  by_cases h1 : n < 1
  · rw [run_inr (x := (0, 1, b, (k : Int))) (by simp only [T_cursor_Cursor_Number_p0500, Tr.val_c, Tr.val_r, h1, decide_true, cond_true])]
    simp [h1]
  by_cases h2 : n > 8
  · rw [run_inr (x := (0, 1, b, (k : Int))) (by simp only [T_cursor_Cursor_Number_p0500, Tr.val_c, Tr.val_r, h1, h2, decide_true, decide_false, cond_true, cond_false])]
    simp [h1, h2]
  have loop : ∀ (e : Int) (l : List AV) (b2 : List AV) (at' : Int), l.length < 8796093022208 → ∀ m i v, i + m = l.length → run (M_cursor_Cursor_Number_p0500 n b k) (M_cursor_Cursor_Number_p0500 n b k (e, l, (l.length : Int), b2, at', v, (i : Int))) =
      some ((l.drop i).foldl (fun a x => bitsA .or .u64 (shlA .u64 a 8) (IntKind.u64.wrap (getI x))) v, e, b2, at') := by
    intro e l b2 at' hl m
    induction m with
    | zero =>
      intro i v hi
      have hlt : ¬ ((i : Int) < l.length) := by omega
      rw [List.drop_of_length_le (by omega)]
      exact run_inr (by simp only [M_cursor_Cursor_Number_p0500, Tr.val_c, Tr.val_r, hlt, decide_false, cond_false]; rfl)
    | succ m ih =>
      intro i v hi
      have q1 : (i : Int) < l.length := by omega
      have q2 : (0 : Int) ≤ i := by omega
      have q3 : i < l.length := by omega
      have w : IntKind.i64.wrap ((i : Int) + 1) = ((i + 1 : Nat) : Int) := by rw [i64_wrap (by omega) (by omega)]; omega
      have hg : l.getD i (.int .u8 0) = l[i] := by simp [List.getD_eq_getElem?_getD, q3]
      rw [run_inl (s := (e, l, (l.length : Int), b2, at', bitsA .or .u64 (shlA .u64 v 8) (IntKind.u64.wrap (getI l[i])), ((i + 1 : Nat) : Int))) (by simp only [M_cursor_Cursor_Number_p0500, Tr.val_c, Tr.val_r, q1, q2, w, hg, Int.toNat_natCast, decide_true, cond_true]), ih (i + 1) _ (by omega), List.drop_eq_getElem_cons q3, List.foldl_cons]
  have ht := take_eq n b k hk hb
  have h0 : ¬ n < 0 := by omega
  by_cases h3 : n > (b.length : Int) - k
  · rw [run_inl (s := (3, [], ((([] : List AV).length : Nat) : Int), b, (k : Int), 0, ((0 : Nat) : Int)))]
    · rw [loop 3 [] b k (by simp) 0 0 0 rfl]
      simp [h1, h2, h3]
    · simp only [T_cursor_Cursor_Number_p0500, Tr.val_c, Tr.val_r, val_opt, h1, h2, h0, h3, read_eq, ht, Option.bind_some, if_true, if_false, decide_false, cond_false]
      rfl
  · rw [run_inl (s := (0, (b.drop k).take n.toNat, ((((b.drop k).take n.toNat).length : Nat) : Int), b, (k : Int) + n, 0, ((0 : Nat) : Int)))]
    · rw [loop 0 _ b _ (by simp only [List.length_take, List.length_drop]; omega) ((b.drop k).take n.toNat).length 0 0 (by omega)]
      simp only [h1, h2, h3, if_false, List.drop_zero, numOf]
    · simp only [T_cursor_Cursor_Number_p0500, Tr.val_c, Tr.val_r, val_opt, h1, h2, h0, h3, read_eq, ht, Option.bind_some, if_true, if_false, decide_false, cond_false]
      rfl
theorem New_eq (b : List AV) (hb : b.length < 8796093022208) : g_cursor_New b = some (b, 0) := by
  have : b.length * 2 < 70368744177664 := by omega
  unfold g_cursor_New
  simp only [T_cursor_New, Tr.val_c, Tr.val_r, this, decide_true, cond_true]
theorem Take_eq (n : Int) (b : List AV) (k : Nat) (hk : k ≤ b.length) (hb : b.length < 8796093022208) :
    g_cursor_Cursor_Take_p0500 n b k = some (if n < 0 then ([], 1, b, (k : Int)) else if n > b.length - k then ([], 3, b, (k : Int)) else ((b.drop k).take n.toNat, 0, b, (k : Int) + n)) := by
  have h := take_eq n b k hk hb
  have hl : ∀ m : Nat, ((b.drop k).take m).length * 2 < 70368744177664 := by
    intro m; simp only [List.length_take, List.length_drop]; omega
  unfold g_cursor_Cursor_Take_p0500
  simp only [T_cursor_Cursor_Take_p0500, Tr.val_c, Tr.val_r, val_opt, read_eq, h, Option.bind_some]
  by_cases h1 : n < 0
  · simp [h1]
  · by_cases h2 : n > (b.length : Int) - k
    · simp [h1, h2]
    · simp only [h1, h2, if_false, hl, decide_true, cond_true]
theorem foldl_bex (v : Nat) : ∀ (i a : Nat), i ≤ 8 → a < 256 ^ (8 - i) → (bex (v : Int) i).foldl (fun a x => bitsA .or .u64 (shlA .u64 a 8) (IntKind.u64.wrap (getI x))) (a : Int) = ((a * 256 ^ i + v % 256 ^ i : Nat) : Int)
  | 0, a, _, _ => by
    show (a : Int) = _
    rw [Nat.pow_zero, Nat.mod_one, Nat.mul_one, Nat.add_zero]
  | i + 1, a, hi, ha => by
    have e8 : 8 - i = (8 - (i + 1)) + 1 := by omega
    have hp : 256 ^ (8 - i) = 256 * 256 ^ (8 - (i + 1)) := by rw [e8, Nat.pow_succ, Nat.mul_comm]
    have h7 : 256 ^ (8 - (i + 1)) ≤ 256 ^ 7 := Nat.pow_le_pow_right (by omega) (by omega)
    have hy : v / 256 ^ i % 256 < 256 := Nat.mod_lt _ (by omega)
    have hb := byte_behind (a := a) (y := v / 256 ^ i % 256) (by omega) hy
    have hc : ((v : Int) / 256 ^ i % 256) = ((v / 256 ^ i % 256 : Nat) : Int) := by rw [Int.natCast_emod, Int.natCast_ediv, Int.natCast_pow]; rfl
    rw [bex, List.foldl_cons, getI_int, hc, hb, foldl_bex v i _ (by omega) (by rw [hp]; omega)]
    congr 1
    rw [Nat.pow_succ, Nat.mod_mul, Nat.add_mul, Nat.mul_assoc, Nat.mul_comm 256 (256 ^ i), Nat.mul_comm (v / 256 ^ i % 256)]
    omega
theorem numOf_bex (v n : Nat) (hn : n ≤ 8) : numOf (bex (v : Int) n) = ((v % 256 ^ n : Nat) : Int) := by
  have := foldl_bex v n 0 hn (Nat.pow_pos (by omega))
  unfold numOf
  rw [Nat.zero_mul, Nat.zero_add] at this
  exact this
theorem Plain_self (A : List AV) (hA : A.length < 8796093022208) : g_comptoirhelp_Plain_byte A A = some true := by
  have h : g_comptoirhelp_Same_byte_00fPlainbyte1_ A A = some true := by
    unfold g_comptoirhelp_Same_byte_00fPlainbyte1_
    rw [run_inl (s := (0 : Int)) (by simp only [T_comptoirhelp_Same_byte_00fPlainbyte1_, Tr.val_c, Tr.val_r, bne_self_eq_false, cond_false])]
    exact run_until (f := fun i => (i : Int)) (n := A.length) (fun i hi => by
      have q1 : (i : Int) < A.length := by omega
      have q2 : (0 : Int) ≤ i := by omega
      have w : IntKind.i64.wrap ((i : Int) + 1) = ((i + 1 : Nat) : Int) := by rw [i64_wrap (by omega) (by omega)]; omega
      simp only [M_comptoirhelp_Same_byte_00fPlainbyte1_, Tr.val_c, Tr.val_r, q1, q2, w, decide_true, cond_true, beq_self_eq_true, Bool.not_true, cond_false]) (by
      have q1 : ¬ ((A.length : Int) < A.length) := by omega
      simp only [M_comptoirhelp_Same_byte_00fPlainbyte1_, Tr.val_c, Tr.val_r, q1, decide_false, cond_false])
  unfold g_comptoirhelp_Plain_byte
  simp only [T_comptoirhelp_Plain_byte, Tr.val_c, Tr.val_r, val_opt, h, Option.bind_some]
theorem Kept_self (A : List AV) (x : Int) (hA : A.length < 8796093022208) : g_comptoirhelp_Kept_byte A [.int .u8 x, .int .u8 x, .int .u8 x] A x = some true := by
  have w : IntKind.i64.wrap ((A.length : Int) + 3) = ((A.length + 3 : Nat) : Int) := by rw [i64_wrap (by omega) (by omega)]; omega
  have l3 : (A ++ [AV.int .u8 x, .int .u8 x, .int .u8 x]).length = A.length + 3 := by simp
  have q1 : ¬ (((A.length + 3 : Nat) : Int) < ((A.length + 3 : Nat) : Int)) := by omega
  have q2 : (0 : Int) ≤ ((A.length + 3 : Nat) : Int) := by omega
  have q3 : ((A.length + 3 : Nat) : Int) ≤ ((A.length + 3 : Nat) : Int) := by omega
  have lx : [AV.int .u8 x, .int .u8 x, .int .u8 x].length = 3 := rfl
  have ht : List.take (A.length + 3) (A ++ [AV.int .u8 x, .int .u8 x, .int .u8 x]) = A ++ [AV.int .u8 x, .int .u8 x, .int .u8 x] := List.take_of_length_le (by rw [l3]; omega)
  have hd : List.drop (A.length + 3) (A ++ [AV.int .u8 x, .int .u8 x, .int .u8 x]) = [] := List.drop_of_length_le (by rw [l3]; omega)
  unfold g_comptoirhelp_Kept_byte
  rw [run_inl (s := (A ++ [AV.int .u8 x, .int .u8 x, .int .u8 x], [], (A.length : Int)))]
  · have step : ∀ j : Nat, j < 3 → (M_comptoirhelp_Kept_byte A [.int .u8 x, .int .u8 x, .int .u8 x] A x (A ++ [AV.int .u8 x, .int .u8 x, .int .u8 x], [], ((A.length + j : Nat) : Int))).val = some (.inl (A ++ [AV.int .u8 x, .int .u8 x, .int .u8 x], [], ((A.length + (j + 1) : Nat) : Int))) := by
      intro j hj
      have p1 : ((A.length + j : Nat) : Int) < ((A.length + 3 : Nat) : Int) := by omega
      have p2 : (0 : Int) ≤ ((A.length + j : Nat) : Int) := by omega
      have w1 : IntKind.i64.wrap (((A.length + j : Nat) : Int) + 1) = ((A.length + (j + 1) : Nat) : Int) := by rw [i64_wrap (by omega) (by omega)]; omega
      have hg : getI ((A ++ [AV.int .u8 x, .int .u8 x, .int .u8 x]).getD (A.length + j) (.int .u8 0)) = x := by
        rw [List.getD_eq_getElem?_getD, List.getElem?_append_right (by omega), Nat.add_sub_cancel_left]
        rcases (show j = 0 ∨ j = 1 ∨ j = 2 by omega) with rfl | rfl | rfl <;> rfl
      simp only [M_comptoirhelp_Kept_byte, Tr.val_c, Tr.val_r, l3, p1, p2, w1, Int.toNat_natCast, hg, decide_true, cond_true, bne_self_eq_false, cond_false]
    have e : (A.length : Int) = ((A.length + 0 : Nat) : Int) := rfl
    rw [e, run_inl (step 0 (by omega)), run_inl (step 1 (by omega)), run_inl (step 2 (by omega))]
    exact run_inr (by
      have p1 : ¬ (((A.length + (2 + 1) : Nat) : Int) < ((A.length + 3 : Nat) : Int)) := by omega
      simp only [M_comptoirhelp_Kept_byte, Tr.val_c, Tr.val_r, l3, p1, decide_false, cond_false])
  · simp only [T_comptoirhelp_Kept_byte, Tr.val_c, Tr.val_r, val_opt, Plain_self A hA, Option.bind_some, Bool.not_true, cond_false, w, lx, l3, q1, q2, q3, decide_true, decide_false, cond_true, Int.toNat_natCast, List.drop_zero, ht, hd]
theorem refPut_eq (x0 : List AV) (v n : Int) (m : Nat) (hx : x0.length < 8796093022208) (hm : m ≤ 8) (hn : (if (if 8 < n then 8 else n) > 0 then (if 8 < n then 8 else n) else 0) = (m : Int)) : g_comptoirref01_Put x0 v n = some (x0 ++ bex v m) := by
  unfold g_comptoirref01_Put
  have l0 : x0.length * 2 < 70368744177664 := by omega
  have w0 : IntKind.i64.wrap ((m : Int) - 1) = (m : Int) - 1 := i64_wrap (by omega) (by omega)
  rw [run_inl (s := ((m : Int) - 1, x0)) (by simp only [T_comptoirref01_Put, Tr.val_c, Tr.val_r, l0, hn, w0, decide_true, cond_true])]
  have key : ∀ (i : Nat) (l : List AV), i ≤ 8 → l ++ bex v i = x0 ++ bex v m → run (M_comptoirref01_Put x0 v n) (M_comptoirref01_Put x0 v n ((i : Int) - 1, l)) = some (x0 ++ bex v m) := by
    intro i
    induction i with
    | zero =>
      intro l _ hl
      have : ¬ (((0 : Nat) : Int) - 1 ≥ 0) := by omega
      rw [← hl, bex, List.append_nil]
      exact run_inr (by simp only [M_comptoirref01_Put, Tr.val_c, Tr.val_r, this, decide_false, cond_false, beq_self_eq_true, cond_true])
    | succ i ih =>
      intro l hi hl
      have e : ((i + 1 : Nat) : Int) - 1 = (i : Int) := by omega
      have q1 : (i : Int) ≥ 0 := by omega
      have w1 : IntKind.u64.wrap (IntKind.i64.wrap (8 * (i : Int))) = 8 * (i : Int) := by rw [i64_wrap (by omega) (by omega), u64_wrap (by omega) (by omega)]
      have w2 : IntKind.i64.wrap ((i : Int) - 1) = (i : Int) - 1 := i64_wrap (by omega) (by omega)
      have q2 : (0 : Int) ≤ 8 * (i : Int) := by omega
      have hlen : l.length ≤ x0.length + 8 := by
        have := congrArg List.length hl
        simp at this; omega
      have l1 : (l ++ [AV.int .u8 (v / 256 ^ i % 256)]).length * 2 < 70368744177664 := by simp; omega
      rw [e, run_inl (s := ((i : Int) - 1, l ++ [.int .u8 (v / 256 ^ i % 256)])) (by
        simp only [M_comptoirref01_Put, Tr.val_c, Tr.val_r, q1, w1, w2, q2, shr8 v i (by omega), l1, decide_true, cond_true, beq_self_eq_true])]
      exact ih _ (by omega) (by rw [List.append_assoc]; exact hl)
  exact key m x0 hm rfl
theorem refNum_eq (l : List AV) (s : Nat) (n : Nat) (hl : l.length < 8796093022208) (hn : s + n ≤ l.length) : g_comptoirref01_Num l (s : Int) (n : Int) = some (numOf ((l.drop s).take n)) := by
  have loop : ∀ (m i : Nat) (v : Int), i + m = n → run (M_comptoirref01_Num l (s : Int) (n : Int)) (M_comptoirref01_Num l (s : Int) (n : Int) (v, (i : Int))) =
      some ((((l.drop s).take n).drop i).foldl (fun a x => bitsA .or .u64 (shlA .u64 a 8) (IntKind.u64.wrap (getI x))) v) := by
    have ll : ((l.drop s).take n).length = n := by simp only [List.length_take, List.length_drop]; omega
    intro m
    induction m with
    | zero =>
      intro i v hi
      have hlt : ¬ ((i : Int) < n) := by omega
      rw [List.drop_of_length_le (by omega)]
      exact run_inr (by simp only [M_comptoirref01_Num, Tr.val_c, Tr.val_r, hlt, decide_false, cond_false]; rfl)
    | succ m ih =>
      intro i v hi
      have q1 : (i : Int) < n := by omega
      have q2 : (0 : Int) ≤ ((s + i : Nat) : Int) := by omega
      have q4 : ((s + i : Nat) : Int) < l.length := by omega
      have q3 : i < ((l.drop s).take n).length := by omega
      have w0 : IntKind.i64.wrap ((s : Int) + (i : Int)) = ((s + i : Nat) : Int) := by rw [i64_wrap (by omega) (by omega)]; omega
      have w : IntKind.i64.wrap ((i : Int) + 1) = ((i + 1 : Nat) : Int) := by rw [i64_wrap (by omega) (by omega)]; omega
      have hg : l.getD (s + i) (.int .u8 0) = ((l.drop s).take n)[i] := by
        rw [List.getD_eq_getElem?_getD, List.getElem?_eq_getElem (by omega)]; simp
      rw [run_inl (s := (bitsA .or .u64 (shlA .u64 v 8) (IntKind.u64.wrap (getI ((l.drop s).take n)[i])), ((i + 1 : Nat) : Int))) (by simp only [M_comptoirref01_Num, Tr.val_c, Tr.val_r, q1, q2, q4, w, w0, hg, Int.toNat_natCast, decide_true, cond_true]), ih (i + 1) _ (by omega), List.drop_eq_getElem_cons q3, List.foldl_cons]
  unfold g_comptoirref01_Num
  rw [run_inl (s := (0, ((0 : Nat) : Int))) rfl, loop n 0 0 (by omega)]
  rfl
def CAP : Nat := 1099511627776
theorem number_eq (v : Int) (m : Nat) (hm : m = 4 ∨ m = 8) (A : List AV) (hA : A.length < CAP) : g_pack_writer_number_p0050 v (m : Int) A = some (A ++ bex v m) := by
  unfold CAP at hA
  have p : g_cursor_Put A v (m : Int) = some (A ++ bex v m) := by
    rcases hm with rfl | rfl
    · exact Put_eq A v 4 4 (by omega) (by omega) (by decide)
    · exact Put_eq A v 8 8 (by omega) (by omega) (by decide)
  unfold g_pack_writer_number_p0050
  simp only [T_pack_writer_number_p0050, Tr.val_c, Tr.val_r, val_opt, p, Option.bind_some, beq_self_eq_true, Bool.true_and, cond_true]
theorem number4 (v : Int) (A : List AV) (hA : A.length < CAP) : g_pack_writer_number_p0050 v 4 A = some (A ++ bex v 4) := number_eq v 4 (.inl rfl) A hA
theorem number8 (v : Int) (A : List AV) (hA : A.length < CAP) : g_pack_writer_number_p0050 v 8 A = some (A ++ bex v 8) := number_eq v 8 (.inr rfl) A hA
theorem flat_take (W : AV → List AV) (xs : List AV) (d : AV) {i : Nat} (hi : i < xs.length) : (xs.take (i + 1)).flatMap W = (xs.take i).flatMap W ++ W (xs.getD i d) := by
  rw [List.take_succ_eq_append_getElem hi, List.flatMap_append, List.getD_eq_getElem?_getD, List.getElem?_eq_getElem hi]
  simp
theorem flat_take_len (W : AV → List AV) (xs : List AV) (i : Nat) : ((xs.take i).flatMap W).length ≤ (xs.flatMap W).length := by
  have : xs.flatMap W = (xs.take i).flatMap W ++ (xs.drop i).flatMap W := by rw [← List.flatMap_append, List.take_append_drop]
  rw [this, List.length_append]; omega
theorem flat_take_all (W : AV → List AV) (xs : List AV) : (xs.take xs.length).flatMap W = xs.flatMap W := by rw [List.take_length]
def intW (x : AV) : List AV := bex (IntKind.u64.wrap (getI x)) 8
def textW (x : AV) : List AV := bex (IntKind.u64.wrap ((getS x).length : Int)) 4 ++ (getS x).map byte
theorem ints_eq (xs A : List AV) (h : A.length + (xs.flatMap intW).length < CAP) (hx : xs.length < CAP) : g_pack_writer_ints_p050 xs A = some (A ++ xs.flatMap intW) := by
  have hc := h
  unfold CAP at h hx
  unfold g_pack_writer_ints_p050
  rw [run_inl (s := (((0 : Nat) : Int), A ++ (xs.take 0).flatMap intW)) (by simp [T_pack_writer_ints_p050, Tr.val_r])]
  rw [run_count (step := M_pack_writer_ints_p050 xs A) (f := fun i => ((i : Int), A ++ (xs.take i).flatMap intW)) (n := xs.length) (fun i hi => by
    have q : (i : Int) < xs.length := by omega
    have q0 : (0 : Int) ≤ i := by omega
    have w : IntKind.i64.wrap ((i : Int) + 1) = ((i + 1 : Nat) : Int) := by rw [i64_wrap (by omega) (by omega)]; omega
    have l := flat_take_len intW xs i
    have p := number8 (IntKind.u64.wrap (getI (xs.getD i (.int .i64 0)))) (A ++ (xs.take i).flatMap intW) (by rw [List.length_append]; unfold CAP; omega)
    have e : A ++ (xs.take (i + 1)).flatMap intW = A ++ (xs.take i).flatMap intW ++ bex (IntKind.u64.wrap (getI (xs.getD i (.int .i64 0)))) 8 := by
      rw [flat_take intW xs (.int .i64 0) hi, ← List.append_assoc]; rfl
    simp only [M_pack_writer_ints_p050, Tr.val_c, Tr.val_r, val_opt, q, q0, w, p, e, Int.toNat_natCast, Option.bind_some, decide_true, beq_self_eq_true, cond_true])]
  have q : ¬ ((xs.length : Int) < xs.length) := by omega
  exact run_inr (by simp only [M_pack_writer_ints_p050, Tr.val_c, Tr.val_r, q, flat_take_all, decide_false, beq_self_eq_true, cond_true, cond_false])
theorem texts_eq (xs A : List AV) (h : A.length + (xs.flatMap textW).length < CAP) (hx : xs.length < CAP) : g_pack_writer_texts_p050 xs A = some (A ++ xs.flatMap textW) := by
  have hc := h
  unfold CAP at h hx
  unfold g_pack_writer_texts_p050
  rw [run_inl (s := (((0 : Nat) : Int), A ++ (xs.take 0).flatMap textW)) (by simp [T_pack_writer_texts_p050, Tr.val_r])]
  rw [run_count (step := M_pack_writer_texts_p050 xs A) (f := fun i => ((i : Int), A ++ (xs.take i).flatMap textW)) (n := xs.length) (fun i hi => by
    have q : (i : Int) < xs.length := by omega
    have q0 : (0 : Int) ≤ i := by omega
    have w : IntKind.i64.wrap ((i : Int) + 1) = ((i + 1 : Nat) : Int) := by rw [i64_wrap (by omega) (by omega)]; omega
    have l := flat_take_len textW xs i
    have p := number4 (IntKind.u64.wrap ((getS (xs.getD i (.str []))).length : Int)) (A ++ (xs.take i).flatMap textW) (by rw [List.length_append]; unfold CAP; omega)
    have e : A ++ (xs.take (i + 1)).flatMap textW = (A ++ (xs.take i).flatMap textW ++ bex (IntKind.u64.wrap ((getS (xs.getD i (.str []))).length : Int)) 4) ++ (getS (xs.getD i (.str []))).map byte := by
      rw [flat_take textW xs (.str []) hi]; simp only [textW, List.append_assoc]
    have l2 : (A ++ (xs.take (i + 1)).flatMap textW).length * 2 < 70368744177664 := by
      have := flat_take_len textW xs (i + 1)
      rw [List.length_append]; omega
    rw [e] at l2
    simp only [M_pack_writer_texts_p050, Tr.val_c, Tr.val_r, val_opt, q, q0, w, p, e, l2, Int.toNat_natCast, Option.bind_some, decide_true, beq_self_eq_true, cond_true])]
  have q : ¬ ((xs.length : Int) < xs.length) := by omega
  exact run_inr (by simp only [M_pack_writer_texts_p050, Tr.val_c, Tr.val_r, q, flat_take_all, decide_false, beq_self_eq_true, cond_true, cond_false])
def ints (l : List AV) : List AV := l.flatMap intW
def texts (l : List AV) : List AV := l.flatMap textW
theorem ints_eq' (xs A : List AV) (h : A.length + (ints xs).length < CAP) (hx : xs.length < 10) : g_pack_writer_ints_p050 xs A = some (A ++ ints xs) := ints_eq xs A h (by unfold CAP; omega)
theorem texts_eq' (xs A : List AV) (h : A.length + (texts xs).length < CAP) (hx : xs.length < 10) : g_pack_writer_texts_p050 xs A = some (A ++ texts xs) := texts_eq xs A h (by unfold CAP; omega)
def tagW (x : AV) : List AV := ints [.int .i64 (getI (getF x 0))] ++ texts [.str (bytesOf (getXs (getF x 1)))]
def pairW (x : AV) : List AV := texts [.str (getS (getF x 0)), .str (getS (getF x 1))]
def listW (W : AV → List AV) (l : List AV) : List AV := bex (IntKind.u64.wrap (l.length : Int)) 4 ++ l.flatMap W
theorem tag_eq (x : AV) (A : List AV) (h : A.length + (tagW x).length < CAP) : g_pack_writer_tag_p050 (getI (getF x 0)) (getXs (getF x 1)) A = some (A ++ tagW x) := by
  unfold tagW at h ⊢
  rw [List.length_append] at h
  have a := ints_eq' [.int .i64 (getI (getF x 0))] A (by omega) (by simp)
  have b := texts_eq' [.str (bytesOf (getXs (getF x 1)))] (A ++ ints [.int .i64 (getI (getF x 0))]) (by rw [List.length_append]; omega) (by simp)
  unfold g_pack_writer_tag_p050
  simp only [T_pack_writer_tag_p050, Tr.val_c, Tr.val_r, val_opt, a, b, Option.bind_some, beq_self_eq_true, cond_true, List.append_assoc]
theorem element_eq (x : AV) (A : List AV) (h : A.length + (tagW x).length < CAP) : g_pack_writer_element_p050 (getI (getF x 0)) (getXs (getF x 1)) A = some (A ++ tagW x) := by
  unfold tagW at h ⊢
  rw [List.length_append] at h
  have a := ints_eq' [.int .i64 (getI (getF x 0))] A (by omega) (by simp)
  have b := texts_eq' [.str (bytesOf (getXs (getF x 1)))] (A ++ ints [.int .i64 (getI (getF x 0))]) (by rw [List.length_append]; omega) (by simp)
  unfold g_pack_writer_element_p050
  simp only [T_pack_writer_element_p050, Tr.val_c, Tr.val_r, val_opt, a, b, Option.bind_some, beq_self_eq_true, cond_true, List.append_assoc]
theorem pair_eq (x : AV) (A : List AV) (h : A.length + (pairW x).length < CAP) : g_pack_writer_pair_p050 (getS (getF x 0)) (getS (getF x 1)) A = some (A ++ pairW x) := by
  unfold pairW at h ⊢
  have b := texts_eq' [.str (getS (getF x 0)), .str (getS (getF x 1))] A h (by simp)
  unfold g_pack_writer_pair_p050
  simp only [T_pack_writer_pair_p050, Tr.val_c, Tr.val_r, val_opt, b, Option.bind_some, beq_self_eq_true, cond_true]
theorem listTag_eq (xs A : List AV) (h : A.length + (listW tagW xs).length < CAP) (hx : xs.length < CAP) : g_pack_list_api_Tag_p0ftag_50p50 xs A = some (A ++ listW tagW xs) := by
  have hc := h
  unfold listW at hc ⊢
  rw [List.length_append] at hc
  unfold CAP at hc hx
  have p0 := number4 (IntKind.u64.wrap (xs.length : Int)) A (by unfold CAP; omega)
  generalize hH : bex (IntKind.u64.wrap (xs.length : Int)) 4 = H at *
  unfold g_pack_list_api_Tag_p0ftag_50p50
  rw [run_inl (s := (A ++ H ++ (xs.take 0).flatMap tagW, ((0 : Nat) : Int))) (by simp [T_pack_list_api_Tag_p0ftag_50p50, Tr.val_c, Tr.val_r, val_opt, p0])]
  rw [run_count (step := M_pack_list_api_Tag_p0ftag_50p50 xs A) (f := fun i => (A ++ H ++ (xs.take i).flatMap tagW, (i : Int))) (n := xs.length) (fun i hi => by
    have q : (i : Int) < xs.length := by omega
    have q0 : (0 : Int) ≤ i := by omega
    have w : IntKind.i64.wrap ((i : Int) + 1) = ((i + 1 : Nat) : Int) := by rw [i64_wrap (by omega) (by omega)]; omega
    have e := flat_take tagW xs (.agg [.int .i64 0, .slice 1 (.int .u8) [] .ro]) hi
    have l := flat_take_len tagW xs (i + 1)
    rw [e, List.length_append] at l
    rw [e, ← List.append_assoc (A ++ H)]
    have p := tag_eq (xs.getD i (.agg [.int .i64 0, .slice 1 (.int .u8) [] .ro])) (A ++ H ++ (xs.take i).flatMap tagW) (by rw [List.length_append, List.length_append]; unfold CAP; omega)
    simp only [M_pack_list_api_Tag_p0ftag_50p50, Tr.val_c, Tr.val_r, val_opt, q, q0, w, p, Int.toNat_natCast, Option.bind_some, decide_true, beq_self_eq_true, cond_true])]
  have q : ¬ ((xs.length : Int) < xs.length) := by omega
  exact run_inr (by simp only [M_pack_list_api_Tag_p0ftag_50p50, Tr.val_c, Tr.val_r, q, flat_take_all, decide_false, beq_self_eq_true, cond_true, cond_false, List.append_assoc])
theorem listElement_eq (xs A : List AV) (h : A.length + (listW tagW xs).length < CAP) (hx : xs.length < CAP) : g_pack_list_api_Element_p0felement_50p50 xs A = some (A ++ listW tagW xs) := by
  have hc := h
  unfold listW at hc ⊢
  rw [List.length_append] at hc
  unfold CAP at hc hx
  have p0 := number4 (IntKind.u64.wrap (xs.length : Int)) A (by unfold CAP; omega)
  generalize hH : bex (IntKind.u64.wrap (xs.length : Int)) 4 = H at *
  unfold g_pack_list_api_Element_p0felement_50p50
  rw [run_inl (s := (A ++ H ++ (xs.take 0).flatMap tagW, ((0 : Nat) : Int))) (by simp [T_pack_list_api_Element_p0felement_50p50, Tr.val_c, Tr.val_r, val_opt, p0])]
  rw [run_count (step := M_pack_list_api_Element_p0felement_50p50 xs A) (f := fun i => (A ++ H ++ (xs.take i).flatMap tagW, (i : Int))) (n := xs.length) (fun i hi => by
    have q : (i : Int) < xs.length := by omega
    have q0 : (0 : Int) ≤ i := by omega
    have w : IntKind.i64.wrap ((i : Int) + 1) = ((i + 1 : Nat) : Int) := by rw [i64_wrap (by omega) (by omega)]; omega
    have e := flat_take tagW xs (.agg [.int .i64 0, .slice 1 (.int .u8) [] .ro]) hi
    have l := flat_take_len tagW xs (i + 1)
    rw [e, List.length_append] at l
    rw [e, ← List.append_assoc (A ++ H)]
    have p := element_eq (xs.getD i (.agg [.int .i64 0, .slice 1 (.int .u8) [] .ro])) (A ++ H ++ (xs.take i).flatMap tagW) (by rw [List.length_append, List.length_append]; unfold CAP; omega)
    simp only [M_pack_list_api_Element_p0felement_50p50, Tr.val_c, Tr.val_r, val_opt, q, q0, w, p, Int.toNat_natCast, Option.bind_some, decide_true, beq_self_eq_true, cond_true])]
  have q : ¬ ((xs.length : Int) < xs.length) := by omega
  exact run_inr (by simp only [M_pack_list_api_Element_p0felement_50p50, Tr.val_c, Tr.val_r, q, flat_take_all, decide_false, beq_self_eq_true, cond_true, cond_false, List.append_assoc])
theorem listPair_eq (xs A : List AV) (h : A.length + (listW pairW xs).length < CAP) (hx : xs.length < CAP) : g_pack_list_api_Pair_p0fpair_50p50 xs A = some (A ++ listW pairW xs) := by
  have hc := h
  unfold listW at hc ⊢
  rw [List.length_append] at hc
  unfold CAP at hc hx
  have p0 := number4 (IntKind.u64.wrap (xs.length : Int)) A (by unfold CAP; omega)
  generalize hH : bex (IntKind.u64.wrap (xs.length : Int)) 4 = H at *
  unfold g_pack_list_api_Pair_p0fpair_50p50
  rw [run_inl (s := (A ++ H ++ (xs.take 0).flatMap pairW, ((0 : Nat) : Int))) (by simp [T_pack_list_api_Pair_p0fpair_50p50, Tr.val_c, Tr.val_r, val_opt, p0])]
  rw [run_count (step := M_pack_list_api_Pair_p0fpair_50p50 xs A) (f := fun i => (A ++ H ++ (xs.take i).flatMap pairW, (i : Int))) (n := xs.length) (fun i hi => by
    have q : (i : Int) < xs.length := by omega
    have q0 : (0 : Int) ≤ i := by omega
    have w : IntKind.i64.wrap ((i : Int) + 1) = ((i + 1 : Nat) : Int) := by rw [i64_wrap (by omega) (by omega)]; omega
    have e := flat_take pairW xs (.agg [.str [], .str []]) hi
    have l := flat_take_len pairW xs (i + 1)
    rw [e, List.length_append] at l
    rw [e, ← List.append_assoc (A ++ H)]
    have p := pair_eq (xs.getD i (.agg [.str [], .str []])) (A ++ H ++ (xs.take i).flatMap pairW) (by rw [List.length_append, List.length_append]; unfold CAP; omega)
    simp only [M_pack_list_api_Pair_p0fpair_50p50, Tr.val_c, Tr.val_r, val_opt, q, q0, w, p, Int.toNat_natCast, Option.bind_some, decide_true, beq_self_eq_true, cond_true])]
  have q : ¬ ((xs.length : Int) < xs.length) := by omega
  exact run_inr (by simp only [M_pack_list_api_Pair_p0fpair_50p50, Tr.val_c, Tr.val_r, q, flat_take_all, decide_false, beq_self_eq_true, cond_true, cond_false, List.append_assoc])
def msgW (x0 : Int) (x1 : Int) (x2 : List UInt8) (x3 : List UInt8) (x4 : List UInt8) (x5 : List UInt8) (x6 : Int) (x7 : List UInt8) (x8 : List UInt8) (x9 : List UInt8) (x10 : List UInt8) (x11 : Int) (x12 : List UInt8) (x13 : List UInt8) (x14 : Int) (x15 : List UInt8) (x16 : List AV) (x17 : List UInt8) (x18 : List UInt8) (x19 : List AV) (x20 : List AV) : List AV := (ints [.int .i64 x0, .int .i64 x1]) ++ ((texts [.str x2, .str x3, .str x4, .str x5]) ++ ((bex x6 8) ++ ((texts [.str x7, .str x8, .str x9, .str x10]) ++ ((ints [.int .i64 x11]) ++ ((texts [.str x12, .str x13]) ++ ((ints [.int .i64 x14]) ++ ((texts [.str x15]) ++ ((listW tagW x16) ++ ((texts [.str x17, .str x18]) ++ ((listW pairW x19) ++ ((listW tagW x20))))))))))))
theorem msgW_eq (x0 : Int) (x1 : Int) (x2 : List UInt8) (x3 : List UInt8) (x4 : List UInt8) (x5 : List UInt8) (x6 : Int) (x7 : List UInt8) (x8 : List UInt8) (x9 : List UInt8) (x10 : List UInt8) (x11 : Int) (x12 : List UInt8) (x13 : List UInt8) (x14 : Int) (x15 : List UInt8) (x16 : List AV) (x17 : List UInt8) (x18 : List UInt8) (x19 : List AV) (x20 : List AV) (A : List AV) (h16 : x16.length < CAP) (h19 : x19.length < CAP) (h20 : x20.length < CAP) (h : A.length + (msgW x0 x1 x2 x3 x4 x5 x6 x7 x8 x9 x10 x11 x12 x13 x14 x15 x16 x17 x18 x19 x20).length < CAP) : g_pack_writer_message_p050 x0 x1 x2 x3 x4 x5 x6 x7 x8 x9 x10 x11 x12 x13 x14 x15 x16 x17 x18 x19 x20 A = some (A ++ msgW x0 x1 x2 x3 x4 x5 x6 x7 x8 x9 x10 x11 x12 x13 x14 x15 x16 x17 x18 x19 x20) := by
  unfold msgW at h ⊢
  simp only [List.length_append] at h
  have e0 := ints_eq' [.int .i64 x0, .int .i64 x1] (A) (by first | omega | (simp only [List.length_append]; omega)) (by simp)
  have e1 := texts_eq' [.str x2, .str x3, .str x4, .str x5] (A ++ (ints [.int .i64 x0, .int .i64 x1])) (by first | omega | (simp only [List.length_append]; omega)) (by simp)
  have e2 := number8 x6 ((A ++ (ints [.int .i64 x0, .int .i64 x1])) ++ (texts [.str x2, .str x3, .str x4, .str x5])) (by first | omega | (simp only [List.length_append]; omega))
  have e3 := texts_eq' [.str x7, .str x8, .str x9, .str x10] (((A ++ (ints [.int .i64 x0, .int .i64 x1])) ++ (texts [.str x2, .str x3, .str x4, .str x5])) ++ (bex x6 8)) (by first | omega | (simp only [List.length_append]; omega)) (by simp)
  have e4 := ints_eq' [.int .i64 x11] ((((A ++ (ints [.int .i64 x0, .int .i64 x1])) ++ (texts [.str x2, .str x3, .str x4, .str x5])) ++ (bex x6 8)) ++ (texts [.str x7, .str x8, .str x9, .str x10])) (by first | omega | (simp only [List.length_append]; omega)) (by simp)
  have e5 := texts_eq' [.str x12, .str x13] (((((A ++ (ints [.int .i64 x0, .int .i64 x1])) ++ (texts [.str x2, .str x3, .str x4, .str x5])) ++ (bex x6 8)) ++ (texts [.str x7, .str x8, .str x9, .str x10])) ++ (ints [.int .i64 x11])) (by first | omega | (simp only [List.length_append]; omega)) (by simp)
  have e6 := ints_eq' [.int .i64 x14] ((((((A ++ (ints [.int .i64 x0, .int .i64 x1])) ++ (texts [.str x2, .str x3, .str x4, .str x5])) ++ (bex x6 8)) ++ (texts [.str x7, .str x8, .str x9, .str x10])) ++ (ints [.int .i64 x11])) ++ (texts [.str x12, .str x13])) (by first | omega | (simp only [List.length_append]; omega)) (by simp)
  have e7 := texts_eq' [.str x15] (((((((A ++ (ints [.int .i64 x0, .int .i64 x1])) ++ (texts [.str x2, .str x3, .str x4, .str x5])) ++ (bex x6 8)) ++ (texts [.str x7, .str x8, .str x9, .str x10])) ++ (ints [.int .i64 x11])) ++ (texts [.str x12, .str x13])) ++ (ints [.int .i64 x14])) (by first | omega | (simp only [List.length_append]; omega)) (by simp)
  have e8 := listTag_eq x16 ((((((((A ++ (ints [.int .i64 x0, .int .i64 x1])) ++ (texts [.str x2, .str x3, .str x4, .str x5])) ++ (bex x6 8)) ++ (texts [.str x7, .str x8, .str x9, .str x10])) ++ (ints [.int .i64 x11])) ++ (texts [.str x12, .str x13])) ++ (ints [.int .i64 x14])) ++ (texts [.str x15])) (by first | omega | (simp only [List.length_append]; omega)) h16
  have e9 := texts_eq' [.str x17, .str x18] (((((((((A ++ (ints [.int .i64 x0, .int .i64 x1])) ++ (texts [.str x2, .str x3, .str x4, .str x5])) ++ (bex x6 8)) ++ (texts [.str x7, .str x8, .str x9, .str x10])) ++ (ints [.int .i64 x11])) ++ (texts [.str x12, .str x13])) ++ (ints [.int .i64 x14])) ++ (texts [.str x15])) ++ (listW tagW x16)) (by first | omega | (simp only [List.length_append]; omega)) (by simp)
  have e10 := listPair_eq x19 ((((((((((A ++ (ints [.int .i64 x0, .int .i64 x1])) ++ (texts [.str x2, .str x3, .str x4, .str x5])) ++ (bex x6 8)) ++ (texts [.str x7, .str x8, .str x9, .str x10])) ++ (ints [.int .i64 x11])) ++ (texts [.str x12, .str x13])) ++ (ints [.int .i64 x14])) ++ (texts [.str x15])) ++ (listW tagW x16)) ++ (texts [.str x17, .str x18])) (by first | omega | (simp only [List.length_append]; omega)) h19
  have e11 := listElement_eq x20 (((((((((((A ++ (ints [.int .i64 x0, .int .i64 x1])) ++ (texts [.str x2, .str x3, .str x4, .str x5])) ++ (bex x6 8)) ++ (texts [.str x7, .str x8, .str x9, .str x10])) ++ (ints [.int .i64 x11])) ++ (texts [.str x12, .str x13])) ++ (ints [.int .i64 x14])) ++ (texts [.str x15])) ++ (listW tagW x16)) ++ (texts [.str x17, .str x18])) ++ (listW pairW x19)) (by first | omega | (simp only [List.length_append]; omega)) h20
  unfold g_pack_writer_message_p050
  simp only [T_pack_writer_message_p050, Tr.val_c, Tr.val_r, val_opt, e0, e1, e2, e3, e4, e5, e6, e7, e8, e9, e10, e11, Option.bind_some, beq_self_eq_true, cond_true]
  simp only [List.append_assoc]
def resW (x0 : List UInt8) (x1 : List UInt8) (x2 : List UInt8) (x3 : List AV) (x4 : List AV) : List AV := (texts [.str x0, .str x1, .str x2]) ++ ((listW pairW x3) ++ ((listW tagW x4)))
theorem resW_eq (x0 : List UInt8) (x1 : List UInt8) (x2 : List UInt8) (x3 : List AV) (x4 : List AV) (A : List AV) (h3 : x3.length < CAP) (h4 : x4.length < CAP) (h : A.length + (resW x0 x1 x2 x3 x4).length < CAP) : g_pack_writer_residue_p050 x0 x1 x2 x3 x4 A = some (A ++ resW x0 x1 x2 x3 x4) := by
  unfold resW at h ⊢
  simp only [List.length_append] at h
  have e0 := texts_eq' [.str x0, .str x1, .str x2] (A) (by first | omega | (simp only [List.length_append]; omega)) (by simp)
  have e1 := listPair_eq x3 (A ++ (texts [.str x0, .str x1, .str x2])) (by first | omega | (simp only [List.length_append]; omega)) h3
  have e2 := listElement_eq x4 ((A ++ (texts [.str x0, .str x1, .str x2])) ++ (listW pairW x3)) (by first | omega | (simp only [List.length_append]; omega)) h4
  unfold g_pack_writer_residue_p050
  simp only [T_pack_writer_residue_p050, Tr.val_c, Tr.val_r, val_opt, e0, e1, e2, Option.bind_some, beq_self_eq_true, cond_true]
  simp only [List.append_assoc]
def deedP (x0 : Int) (x1 : Int) (x2 : Int) (x3 : Int) (x4 : Int) (x5 : Int) (x6 : Int) (x7 : Int) (x8 : Int) (x9 : Int) (x10 : Int) (x11 : Int) (x12 : List UInt8) (x13 : List UInt8) (x14 : List UInt8) (x15 : List UInt8) (x16 : Int) (x17 : List UInt8) (x18 : List UInt8) (x19 : List UInt8) (x20 : List UInt8) (x21 : Int) (x22 : List UInt8) (x23 : List UInt8) (x24 : Int) (x25 : List UInt8) (x26 : List AV) (x27 : List UInt8) (x28 : List UInt8) (x29 : List AV) (x30 : List AV) (x31 : Int) (x32 : Int) (x33 : List UInt8) (x34 : List UInt8) (x35 : List UInt8) (x36 : List AV) (x37 : List AV) : List AV := .int .u8 (IntKind.u8.wrap x0) :: (if x0 = 1 then bex x1 8 else if x0 = 2 then ints [.int .i64 x2, .int .i64 x3] else if x0 = 3 then ints [.int .i64 x4, .int .i64 x5, .int .i64 x6, .int .i64 x7, .int .i64 x8] ++ (bex x9 8 ++ msgW x10 x11 x12 x13 x14 x15 x16 x17 x18 x19 x20 x21 x22 x23 x24 x25 x26 x27 x28 x29 x30)
  else if x0 = 4 ∨ x0 = 6 then ints [.int .i64 x2] else if x0 = 5 then ints [.int .i64 x31] ++ (bex x32 8 ++ resW x33 x34 x35 x36 x37) else [])
theorem deedP_eq (x0 : Int) (x1 : Int) (x2 : Int) (x3 : Int) (x4 : Int) (x5 : Int) (x6 : Int) (x7 : Int) (x8 : Int) (x9 : Int) (x10 : Int) (x11 : Int) (x12 : List UInt8) (x13 : List UInt8) (x14 : List UInt8) (x15 : List UInt8) (x16 : Int) (x17 : List UInt8) (x18 : List UInt8) (x19 : List UInt8) (x20 : List UInt8) (x21 : Int) (x22 : List UInt8) (x23 : List UInt8) (x24 : Int) (x25 : List UInt8) (x26 : List AV) (x27 : List UInt8) (x28 : List UInt8) (x29 : List AV) (x30 : List AV) (x31 : Int) (x32 : Int) (x33 : List UInt8) (x34 : List UInt8) (x35 : List UInt8) (x36 : List AV) (x37 : List AV) (A : List AV) (h26 : x26.length < CAP) (h29 : x29.length < CAP) (h30 : x30.length < CAP) (h36 : x36.length < CAP) (h37 : x37.length < CAP) (h : A.length + (deedP x0 x1 x2 x3 x4 x5 x6 x7 x8 x9 x10 x11 x12 x13 x14 x15 x16 x17 x18 x19 x20 x21 x22 x23 x24 x25 x26 x27 x28 x29 x30 x31 x32 x33 x34 x35 x36 x37).length < CAP) : g_pack_writer_deed_p050 x0 x1 x2 x3 x4 x5 x6 x7 x8 x9 x10 x11 x12 x13 x14 x15 x16 x17 x18 x19 x20 x21 x22 x23 x24 x25 x26 x27 x28 x29 x30 x31 x32 x33 x34 x35 x36 x37 A = some (A ++ deedP x0 x1 x2 x3 x4 x5 x6 x7 x8 x9 x10 x11 x12 x13 x14 x15 x16 x17 x18 x19 x20 x21 x22 x23 x24 x25 x26 x27 x28 x29 x30 x31 x32 x33 x34 x35 x36 x37) := by
  unfold deedP at h ⊢
  have hA : ((A ++ [AV.int .u8 (IntKind.u8.wrap x0)]).length * 2 < 70368744177664) := by
    simp only [List.length_append, List.length_cons, List.length_nil] at h ⊢; unfold CAP at h; omega
  have e : ∀ X : List AV, A ++ (AV.int .u8 (IntKind.u8.wrap x0) :: X) = (A ++ [AV.int .u8 (IntKind.u8.wrap x0)]) ++ X := fun X => by simp
  rw [e]
  have h' : ∀ X : List AV, A.length + (AV.int .u8 (IntKind.u8.wrap x0) :: X).length < CAP → (A ++ [AV.int .u8 (IntKind.u8.wrap x0)]).length + X.length < CAP := fun X hX => by
    simp only [List.length_append, List.length_cons, List.length_nil] at hX ⊢; omega
  replace h := h' _ h
  generalize hZ : A ++ [AV.int .u8 (IntKind.u8.wrap x0)] = Z at *
  unfold g_pack_writer_deed_p050
  by_cases k1 : x0 = 1
  · have b1 : (x0 == 1) = true := by rw [beq_iff_eq]; exact k1
    rw [if_pos k1] at h ⊢
    have a := number8 x1 Z (by omega)
    simp only [T_pack_writer_deed_p050, Tr.val_c, Tr.val_r, val_opt, hZ, hA, b1, a, Option.bind_some, decide_true, beq_self_eq_true, cond_true]
  have b1 : (x0 == 1) = false := by rw [beq_eq_false_iff_ne]; exact k1
  rw [if_neg k1] at h ⊢
  by_cases k2 : x0 = 2
  · have b2 : (x0 == 2) = true := by rw [beq_iff_eq]; exact k2
    rw [if_pos k2] at h ⊢
    have a := ints_eq' [.int .i64 x2, .int .i64 x3] Z h (by simp)
    simp only [T_pack_writer_deed_p050, Tr.val_c, Tr.val_r, val_opt, hZ, hA, b1, b2, a, Option.bind_some, decide_true, beq_self_eq_true, cond_true, cond_false]
  have b2 : (x0 == 2) = false := by rw [beq_eq_false_iff_ne]; exact k2
  rw [if_neg k2] at h ⊢
  by_cases k3 : x0 = 3
  · have b3 : (x0 == 3) = true := by rw [beq_iff_eq]; exact k3
    rw [if_pos k3] at h ⊢
    simp only [List.length_append] at h
    have a := ints_eq' [.int .i64 x4, .int .i64 x5, .int .i64 x6, .int .i64 x7, .int .i64 x8] Z (by omega) (by simp)
    have b := number8 x9 (Z ++ ints [.int .i64 x4, .int .i64 x5, .int .i64 x6, .int .i64 x7, .int .i64 x8]) (by simp only [List.length_append]; omega)
    have c := msgW_eq x10 x11 x12 x13 x14 x15 x16 x17 x18 x19 x20 x21 x22 x23 x24 x25 x26 x27 x28 x29 x30 ((Z ++ ints [.int .i64 x4, .int .i64 x5, .int .i64 x6, .int .i64 x7, .int .i64 x8]) ++ bex x9 8) h26 h29 h30 (by simp only [List.length_append]; omega)
    simp only [T_pack_writer_deed_p050, Tr.val_c, Tr.val_r, val_opt, hZ, hA, b1, b2, b3, a, b, c, Option.bind_some, decide_true, beq_self_eq_true, cond_true, cond_false]
    simp only [List.append_assoc]
  have b3 : (x0 == 3) = false := by rw [beq_eq_false_iff_ne]; exact k3
  rw [if_neg k3] at h ⊢
  by_cases k4 : x0 = 4
  · have b4 : (x0 == 4) = true := by rw [beq_iff_eq]; exact k4
    rw [if_pos (.inl k4)] at h ⊢
    have a := ints_eq' [.int .i64 x2] Z h (by simp)
    simp only [T_pack_writer_deed_p050, Tr.val_c, Tr.val_r, val_opt, hZ, hA, b1, b2, b3, b4, a, Option.bind_some, decide_true, beq_self_eq_true, cond_true, cond_false]
  have b4 : (x0 == 4) = false := by rw [beq_eq_false_iff_ne]; exact k4
  by_cases k6 : x0 = 6
  · have b6 : (x0 == 6) = true := by rw [beq_iff_eq]; exact k6
    rw [if_pos (.inr k6)] at h ⊢
    have a := ints_eq' [.int .i64 x2] Z h (by simp)
    simp only [T_pack_writer_deed_p050, Tr.val_c, Tr.val_r, val_opt, hZ, hA, b1, b2, b3, b4, b6, a, Option.bind_some, decide_true, beq_self_eq_true, cond_true, cond_false]
  have b6 : (x0 == 6) = false := by rw [beq_eq_false_iff_ne]; exact k6
  rw [if_neg (by rintro (hh | hh); exact k4 hh; exact k6 hh)] at h ⊢
  by_cases k5 : x0 = 5
  · have b5 : (x0 == 5) = true := by rw [beq_iff_eq]; exact k5
    rw [if_pos k5] at h ⊢
    simp only [List.length_append] at h
    have a := ints_eq' [.int .i64 x31] Z (by omega) (by simp)
    have b := number8 x32 (Z ++ ints [.int .i64 x31]) (by simp only [List.length_append]; omega)
    have c := resW_eq x33 x34 x35 x36 x37 ((Z ++ ints [.int .i64 x31]) ++ bex x32 8) h36 h37 (by simp only [List.length_append]; omega)
    simp only [T_pack_writer_deed_p050, Tr.val_c, Tr.val_r, val_opt, hZ, hA, b1, b2, b3, b4, b5, b6, a, b, c, Option.bind_some, decide_true, beq_self_eq_true, cond_true, cond_false]
    simp only [List.append_assoc]
  have b5 : (x0 == 5) = false := by rw [beq_eq_false_iff_ne]; exact k5
  rw [if_neg k5] at h ⊢
  simp only [T_pack_writer_deed_p050, Tr.val_c, Tr.val_r, val_opt, hZ, hA, b1, b2, b3, b4, b5, b6, Option.bind_some, decide_true, beq_self_eq_true, cond_true, cond_false, List.append_nil]
def deedW (x : AV) : List AV := deedP (getI (getF x 0)) (getI (getF x 1)) (getI (getF x 2)) (getI (getF x 3)) (getI (getF x 4)) (getI (getF x 5)) (getI (getF x 6)) (getI (getF x 7)) (getI (getF x 8)) (getI (getF x 9)) (getI (getF x 10)) (getI (getF x 11)) (getS (getF x 12)) (getS (getF x 13)) (getS (getF x 14)) (getS (getF x 15)) (getI (getF x 16)) (getS (getF x 17)) (getS (getF x 18)) (getS (getF x 19)) (getS (getF x 20)) (getI (getF x 21)) (getS (getF x 22)) (getS (getF x 23)) (getI (getF x 24)) (getS (getF x 25)) (getXs (getF x 26)) (getS (getF x 27)) (getS (getF x 28)) (getXs (getF x 29)) (getXs (getF x 30)) (getI (getF x 31)) (getI (getF x 32)) (getS (getF x 33)) (getS (getF x 34)) (getS (getF x 35)) (getXs (getF x 36)) (getXs (getF x 37))
def noDeed : AV := .agg [.int .i64 0, .int .u64 0, .int .i64 0, .int .i64 0, .int .i64 0, .int .i64 0, .int .i64 0, .int .i64 0, .int .i64 0, .int .u64 0, .int .i64 0, .int .i64 0, .str [], .str [], .str [], .str [], .int .u64 0, .str [], .str [], .str [], .str [], .int .i64 0, .str [], .str [], .int .i64 0, .str [], .slice 2 (.agg [.int .i64, .slice 1 (.int .u8)]) [] .ro, .str [], .str [], .slice 2 (.agg [.str, .str]) [] .ro, .slice 2 (.agg [.int .i64, .slice 1 (.int .u8)]) [] .ro, .int .i64 0, .int .u64 0, .str [], .str [], .str [], .slice 2 (.agg [.str, .str]) [] .ro, .slice 2 (.agg [.int .i64, .slice 1 (.int .u8)]) [] .ro]
theorem Deeds_eq (L : List AV) (hL : L.length < CAP) (hf : ∀ x ∈ L, (getXs (getF x 26)).length < CAP ∧ (getXs (getF x 29)).length < CAP ∧ (getXs (getF x 30)).length < CAP ∧ (getXs (getF x 36)).length < CAP ∧ (getXs (getF x 37)).length < CAP) (h : (L.flatMap deedW).length < CAP) : g_pack_Deeds L = some (L.flatMap deedW) := by
  unfold g_pack_Deeds
  rw [run_inl (s := (((0 : Nat) : Int), (L.take 0).flatMap deedW)) (by simp [T_pack_Deeds, Tr.val_r])]
  have hL2 : L.length < 1099511627776 := hL
  rw [run_count (step := M_pack_Deeds L) (f := fun i => ((i : Int), (L.take i).flatMap deedW)) (n := L.length) (fun i hi => by
    have q : (i : Int) < L.length := by omega
    have q0 : (0 : Int) ≤ i := by omega
    have w : IntKind.i64.wrap ((i : Int) + 1) = ((i + 1 : Nat) : Int) := by rw [i64_wrap (by omega) (by omega)]; omega
    have e := flat_take deedW L noDeed hi
    have l := flat_take_len deedW L (i + 1)
    rw [e, List.length_append] at l
    have hm : L.getD i noDeed ∈ L := by rw [List.getD_eq_getElem?_getD, List.getElem?_eq_getElem hi]; exact List.getElem_mem hi
    obtain ⟨f1, f2, f3, f4, f5⟩ := hf _ hm
    have p : ∀ x, L.getD i noDeed = x → g_pack_writer_deed_p050 (getI (getF x 0)) (getI (getF x 1)) (getI (getF x 2)) (getI (getF x 3)) (getI (getF x 4)) (getI (getF x 5)) (getI (getF x 6)) (getI (getF x 7)) (getI (getF x 8)) (getI (getF x 9)) (getI (getF x 10)) (getI (getF x 11)) (getS (getF x 12)) (getS (getF x 13)) (getS (getF x 14)) (getS (getF x 15)) (getI (getF x 16)) (getS (getF x 17)) (getS (getF x 18)) (getS (getF x 19)) (getS (getF x 20)) (getI (getF x 21)) (getS (getF x 22)) (getS (getF x 23)) (getI (getF x 24)) (getS (getF x 25)) (getXs (getF x 26)) (getS (getF x 27)) (getS (getF x 28)) (getXs (getF x 29)) (getXs (getF x 30)) (getI (getF x 31)) (getI (getF x 32)) (getS (getF x 33)) (getS (getF x 34)) (getS (getF x 35)) (getXs (getF x 36)) (getXs (getF x 37)) ((L.take i).flatMap deedW) = some ((L.take i).flatMap deedW ++ deedW x) := fun x hx => by
      subst hx
      exact deedP_eq _ _ _ _ _ _ _ _ _ _ _ _ _ _ _ _ _ _ _ _ _ _ _ _ _ _ _ _ _ _ _ _ _ _ _ _ _ _ _ f1 f2 f3 f4 f5 (by unfold deedW at l h ⊢; omega)
    have p := p _ rfl
    rw [e]
    simp only [M_pack_Deeds, Tr.val_c, Tr.val_r, val_opt, q, q0, w, Int.toNat_natCast, decide_true, beq_self_eq_true, cond_true]
    erw [p]
    rfl)]
  have q : ¬ ((L.length : Int) < L.length) := by omega
  have cl : (L.flatMap deedW).length * 2 < 70368744177664 := by unfold CAP at h; omega
  exact run_inr (by simp only [M_pack_Deeds, Tr.val_c, Tr.val_r, q, cl, flat_take_all, decide_true, decide_false, beq_self_eq_true, Bool.and_self, Bool.true_and, cond_true, cond_false])
theorem rnum (n : Int) (A : List AV) (k : Nat) (h1 : 1 ≤ n) (h8 : n ≤ 8) (hk : (k : Int) + n ≤ A.length) (hA : A.length < CAP) : g_pack_reader_number_p05p0 n 0 A k = some (numOf ((A.drop k).take n.toNat), 0, A, (k : Int) + n) := by
  unfold CAP at hA
  have p := Number_eq n A k (by omega) (by omega)
  rw [if_neg (by omega), if_neg (by omega), if_neg (by omega)] at p
  unfold g_pack_reader_number_p05p0
  simp only [T_pack_reader_number_p05p0, Tr.val_c, Tr.val_r, val_opt, p, bne_self_eq_false, Option.bind_some, cond_false]
def oneDeed : AV := .agg [.int .i64 1, .int .u64 5, .int .i64 0, .int .i64 0, .int .i64 0, .int .i64 0, .int .i64 0, .int .i64 0, .int .i64 0, .int .u64 0, .int .i64 0, .int .i64 0, .str [], .str [], .str [], .str [], .int .u64 0, .str [], .str [], .str [], .str [], .int .i64 0, .str [], .str [], .int .i64 0, .str [], .slice 2 (.agg [.int .i64, .slice 1 (.int .u8)]) [] .ro, .str [], .str [], .slice 2 (.agg [.str, .str]) [] .ro, .slice 2 (.agg [.int .i64, .slice 1 (.int .u8)]) [] .ro, .int .i64 0, .int .u64 0, .str [], .str [], .str [], .slice 2 (.agg [.str, .str]) [] .ro, .slice 2 (.agg [.int .i64, .slice 1 (.int .u8)]) [] .ro]
def oneB : List AV := [.int .u8 1, .int .u8 0, .int .u8 0, .int .u8 0, .int .u8 0, .int .u8 0, .int .u8 0, .int .u8 0, .int .u8 5]
theorem awake21 : g_comptoirlaw21_awake = some true := by
  have e : [oneDeed].flatMap deedW = oneB := by kernel_rfl
  have d := Deeds_eq [oneDeed] (by unfold CAP; simp) (fun x hx => by
    simp only [List.mem_singleton] at hx
    subst hx
    have : (getXs (getF oneDeed 26)) = [] ∧ (getXs (getF oneDeed 29)) = [] ∧ (getXs (getF oneDeed 30)) = [] ∧ (getXs (getF oneDeed 36)) = [] ∧ (getXs (getF oneDeed 37)) = [] := ⟨rfl, rfl, rfl, rfl, rfl⟩
    obtain ⟨a, b, c, d, f⟩ := this
    rw [a, b, c, d, f]
    unfold CAP; simp) (by rw [e]; unfold CAP oneB; simp)
  rw [e] at d
  have d' : g_pack_Deeds [oneDeed] = some oneB := d
  have nw := New_eq oneB (by unfold oneB; simp)
  have n1 := rnum 1 oneB 0 (by omega) (by omega) (by unfold oneB; simp) (by unfold oneB CAP; simp)
  have n8 := rnum 8 oneB 1 (by omega) (by omega) (by unfold oneB; simp) (by unfold oneB CAP; simp)
  have v1 : numOf ((oneB.drop 0).take (1 : Int).toNat) = 1 := by kernel_rfl
  have v8 : numOf ((oneB.drop 1).take (8 : Int).toNat) = 5 := by kernel_rfl
  rw [v1] at n1
  rw [v8] at n8
  have n1' : g_pack_reader_number_p05p0 1 0 oneB 0 = some (1, 0, oneB, 1) := n1
  have n8' : g_pack_reader_number_p05p0 8 0 oneB 1 = some (5, 0, oneB, 9) := n8
  have w1 : IntKind.i64.wrap 1 = 1 := by kernel_rfl
  have b1 : ((1 : Int) == 1) = true := rfl
  obtain ⟨D, hD⟩ : ∃ D, D = g_pack_reader_deed_p5p0 0 oneB 0 := ⟨_, rfl⟩
  have hD2 := hD
  unfold g_pack_reader_deed_p5p0 at hD2
  simp only [T_pack_reader_deed_p5p0, Tr.val_c, Tr.val_r, val_opt, n1', n8', w1, b1, Option.bind_some, cond_true] at hD2
  have hlen : (oneB.length : Int) = 9 := rfl
  have g9 : IntKind.i64.wrap ((9 : Int) - 0) > 0 := by
    have : IntKind.i64.wrap ((9 : Int) - 0) = 9 := by kernel_rfl
    rw [this]; omega
  have g0 : ¬ (IntKind.i64.wrap ((9 : Int) - 9) > 0) := by
    have : IntKind.i64.wrap ((9 : Int) - 9) = 0 := by kernel_rfl
    rw [this]; omega
  have pr : g_pack_Parse oneB = some ([oneDeed], 0) := by
    unfold g_pack_Parse
    rw [run_inl (s := (oneB, 0, 0, [])) (by simp only [T_pack_Parse, Tr.val_r, val_opt, nw, Option.bind_some])]
    rw [run_inl (s := (oneB, 9, 0, [oneDeed])) (by
      simp only [M_pack_Parse, Tr.val_c, Tr.val_r, val_opt, hlen, g9, ← hD, hD2, Option.bind_some, decide_true, cond_true]
      rfl)]
    exact run_inr (by simp only [M_pack_Parse, Tr.val_c, Tr.val_r, hlen, g0, decide_false, beq_self_eq_true, cond_true, cond_false])
  unfold g_comptoirlaw21_awake
  have l1 : ((([oneDeed] : List AV).length : Int) == 1) = true := rfl
  simp only [T_comptoirlaw21_awake, Tr.val_c, Tr.val_r, val_opt]
  erw [d']
  simp only [Option.bind_some, pr]
  rfl
theorem smallA (x0 : Int) (x1 : Int) (x2 : List UInt8) (x3 : List UInt8) (x4 : List UInt8) (x5 : List UInt8) (x6 : Int) (x7 : List UInt8) (x8 : List UInt8) (x9 : List UInt8) (x10 : List UInt8) (x11 : Int) (x12 : List UInt8) (x13 : List UInt8) (x14 : Int) (x15 : List UInt8) (x16 : List AV) (x17 : List UInt8) (x18 : List UInt8) (x19 : List AV) (x20 : List AV) (h : x16.length < CAP) : ∀ (m i : Nat) (n : Int), i + m = x16.length → ∃ n', run (M_comptoirplay_Small x0 x1 x2 x3 x4 x5 x6 x7 x8 x9 x10 x11 x12 x13 x14 x15 x16 x17 x18 x19 x20) (M_comptoirplay_Small x0 x1 x2 x3 x4 x5 x6 x7 x8 x9 x10 x11 x12 x13 x14 x15 x16 x17 x18 x19 x20 (.inl (n, (i : Int)))) = run (M_comptoirplay_Small x0 x1 x2 x3 x4 x5 x6 x7 x8 x9 x10 x11 x12 x13 x14 x15 x16 x17 x18 x19 x20) (M_comptoirplay_Small x0 x1 x2 x3 x4 x5 x6 x7 x8 x9 x10 x11 x12 x13 x14 x15 x16 x17 x18 x19 x20 (.inl (n', (x16.length : Int))))
  | 0, i, n, hi => ⟨n, by rw [show i = x16.length by omega]⟩
  | m + 1, i, n, hi => by
    have q : (i : Int) < x16.length := by omega
    have q0 : (0 : Int) ≤ i := by omega
    have w : IntKind.i64.wrap ((i : Int) + 1) = ((i + 1 : Nat) : Int) := by unfold CAP at h; rw [i64_wrap (by omega) (by omega)]; omega
    have s : ∃ n1, (M_comptoirplay_Small x0 x1 x2 x3 x4 x5 x6 x7 x8 x9 x10 x11 x12 x13 x14 x15 x16 x17 x18 x19 x20 (.inl (n, (i : Int)))).val = some (.inl (.inl (n1, ((i + 1 : Nat) : Int)))) := by
      simp only [M_comptoirplay_Small, Tr.val_c, Tr.val_r, q, q0, w, decide_true, cond_true]
      exact ⟨_, rfl⟩
    obtain ⟨n1, s⟩ := s
    obtain ⟨n', hn⟩ := smallA x0 x1 x2 x3 x4 x5 x6 x7 x8 x9 x10 x11 x12 x13 x14 x15 x16 x17 x18 x19 x20 h m (i + 1) n1 (by omega)
    exact ⟨n', by rw [run_inl s]; exact hn⟩
theorem smallB (x0 : Int) (x1 : Int) (x2 : List UInt8) (x3 : List UInt8) (x4 : List UInt8) (x5 : List UInt8) (x6 : Int) (x7 : List UInt8) (x8 : List UInt8) (x9 : List UInt8) (x10 : List UInt8) (x11 : Int) (x12 : List UInt8) (x13 : List UInt8) (x14 : Int) (x15 : List UInt8) (x16 : List AV) (x17 : List UInt8) (x18 : List UInt8) (x19 : List AV) (x20 : List AV) (h : x19.length < CAP) : ∀ (m i : Nat) (n : Int), i + m = x19.length → ∃ n', run (M_comptoirplay_Small x0 x1 x2 x3 x4 x5 x6 x7 x8 x9 x10 x11 x12 x13 x14 x15 x16 x17 x18 x19 x20) (M_comptoirplay_Small x0 x1 x2 x3 x4 x5 x6 x7 x8 x9 x10 x11 x12 x13 x14 x15 x16 x17 x18 x19 x20 (.inr (.inl (n, (i : Int))))) = run (M_comptoirplay_Small x0 x1 x2 x3 x4 x5 x6 x7 x8 x9 x10 x11 x12 x13 x14 x15 x16 x17 x18 x19 x20) (M_comptoirplay_Small x0 x1 x2 x3 x4 x5 x6 x7 x8 x9 x10 x11 x12 x13 x14 x15 x16 x17 x18 x19 x20 (.inr (.inl (n', (x19.length : Int)))))
  | 0, i, n, hi => ⟨n, by rw [show i = x19.length by omega]⟩
  | m + 1, i, n, hi => by
    have q : (i : Int) < x19.length := by omega
    have q0 : (0 : Int) ≤ i := by omega
    have w : IntKind.i64.wrap ((i : Int) + 1) = ((i + 1 : Nat) : Int) := by unfold CAP at h; rw [i64_wrap (by omega) (by omega)]; omega
    have s : ∃ n1, (M_comptoirplay_Small x0 x1 x2 x3 x4 x5 x6 x7 x8 x9 x10 x11 x12 x13 x14 x15 x16 x17 x18 x19 x20 (.inr (.inl (n, (i : Int))))).val = some (.inl (.inr (.inl (n1, ((i + 1 : Nat) : Int))))) := by
      simp only [M_comptoirplay_Small, Tr.val_c, Tr.val_r, q, q0, w, decide_true, cond_true]
      exact ⟨_, rfl⟩
    obtain ⟨n1, s⟩ := s
    obtain ⟨n', hn⟩ := smallB x0 x1 x2 x3 x4 x5 x6 x7 x8 x9 x10 x11 x12 x13 x14 x15 x16 x17 x18 x19 x20 h m (i + 1) n1 (by omega)
    exact ⟨n', by rw [run_inl s]; exact hn⟩
theorem smallC (x0 : Int) (x1 : Int) (x2 : List UInt8) (x3 : List UInt8) (x4 : List UInt8) (x5 : List UInt8) (x6 : Int) (x7 : List UInt8) (x8 : List UInt8) (x9 : List UInt8) (x10 : List UInt8) (x11 : Int) (x12 : List UInt8) (x13 : List UInt8) (x14 : Int) (x15 : List UInt8) (x16 : List AV) (x17 : List UInt8) (x18 : List UInt8) (x19 : List AV) (x20 : List AV) (h : x20.length < CAP) : ∀ (m i : Nat) (n : Int), i + m = x20.length → ∃ n', run (M_comptoirplay_Small x0 x1 x2 x3 x4 x5 x6 x7 x8 x9 x10 x11 x12 x13 x14 x15 x16 x17 x18 x19 x20) (M_comptoirplay_Small x0 x1 x2 x3 x4 x5 x6 x7 x8 x9 x10 x11 x12 x13 x14 x15 x16 x17 x18 x19 x20 (.inr (.inr (n, (i : Int))))) = run (M_comptoirplay_Small x0 x1 x2 x3 x4 x5 x6 x7 x8 x9 x10 x11 x12 x13 x14 x15 x16 x17 x18 x19 x20) (M_comptoirplay_Small x0 x1 x2 x3 x4 x5 x6 x7 x8 x9 x10 x11 x12 x13 x14 x15 x16 x17 x18 x19 x20 (.inr (.inr (n', (x20.length : Int)))))
  | 0, i, n, hi => ⟨n, by rw [show i = x20.length by omega]⟩
  | m + 1, i, n, hi => by
    have q : (i : Int) < x20.length := by omega
    have q0 : (0 : Int) ≤ i := by omega
    have w : IntKind.i64.wrap ((i : Int) + 1) = ((i + 1 : Nat) : Int) := by unfold CAP at h; rw [i64_wrap (by omega) (by omega)]; omega
    have s : ∃ n1, (M_comptoirplay_Small x0 x1 x2 x3 x4 x5 x6 x7 x8 x9 x10 x11 x12 x13 x14 x15 x16 x17 x18 x19 x20 (.inr (.inr (n, (i : Int))))).val = some (.inl (.inr (.inr (n1, ((i + 1 : Nat) : Int))))) := by
      simp only [M_comptoirplay_Small, Tr.val_c, Tr.val_r, q, q0, w, decide_true, cond_true]
      exact ⟨_, rfl⟩
    obtain ⟨n1, s⟩ := s
    obtain ⟨n', hn⟩ := smallC x0 x1 x2 x3 x4 x5 x6 x7 x8 x9 x10 x11 x12 x13 x14 x15 x16 x17 x18 x19 x20 h m (i + 1) n1 (by omega)
    exact ⟨n', by rw [run_inl s]; exact hn⟩
theorem small_total (x0 : Int) (x1 : Int) (x2 : List UInt8) (x3 : List UInt8) (x4 : List UInt8) (x5 : List UInt8) (x6 : Int) (x7 : List UInt8) (x8 : List UInt8) (x9 : List UInt8) (x10 : List UInt8) (x11 : Int) (x12 : List UInt8) (x13 : List UInt8) (x14 : Int) (x15 : List UInt8) (x16 : List AV) (x17 : List UInt8) (x18 : List UInt8) (x19 : List AV) (x20 : List AV) (h1 : x16.length < CAP) (h2 : x19.length < CAP) (h3 : x20.length < CAP) : ∃ b, g_comptoirplay_Small x0 x1 x2 x3 x4 x5 x6 x7 x8 x9 x10 x11 x12 x13 x14 x15 x16 x17 x18 x19 x20 = some b := by
  have e1 : ∃ n, (T_comptoirplay_Small x0 x1 x2 x3 x4 x5 x6 x7 x8 x9 x10 x11 x12 x13 x14 x15 x16 x17 x18 x19 x20).val = some (.inl (.inl (n, ((0 : Nat) : Int)))) := ⟨_, rfl⟩
  obtain ⟨n, e1⟩ := e1
  obtain ⟨n1, a⟩ := smallA x0 x1 x2 x3 x4 x5 x6 x7 x8 x9 x10 x11 x12 x13 x14 x15 x16 x17 x18 x19 x20 h1 x16.length 0 n (by omega)
  have q1 : ¬ ((x16.length : Int) < x16.length) := by omega
  have e2 : (M_comptoirplay_Small x0 x1 x2 x3 x4 x5 x6 x7 x8 x9 x10 x11 x12 x13 x14 x15 x16 x17 x18 x19 x20 (.inl (n1, (x16.length : Int)))).val = some (.inl (.inr (.inl (n1, ((0 : Nat) : Int))))) := by
    simp only [M_comptoirplay_Small, Tr.val_c, Tr.val_r, q1, decide_false, cond_false]; rfl
  obtain ⟨n2, b⟩ := smallB x0 x1 x2 x3 x4 x5 x6 x7 x8 x9 x10 x11 x12 x13 x14 x15 x16 x17 x18 x19 x20 h2 x19.length 0 n1 (by omega)
  have q2 : ¬ ((x19.length : Int) < x19.length) := by omega
  have e3 : (M_comptoirplay_Small x0 x1 x2 x3 x4 x5 x6 x7 x8 x9 x10 x11 x12 x13 x14 x15 x16 x17 x18 x19 x20 (.inr (.inl (n2, (x19.length : Int))))).val = some (.inl (.inr (.inr (n2, ((0 : Nat) : Int))))) := by
    simp only [M_comptoirplay_Small, Tr.val_c, Tr.val_r, q2, decide_false, cond_false]; rfl
  obtain ⟨n3, c⟩ := smallC x0 x1 x2 x3 x4 x5 x6 x7 x8 x9 x10 x11 x12 x13 x14 x15 x16 x17 x18 x19 x20 h3 x20.length 0 n2 (by omega)
  have q3 : ¬ ((x20.length : Int) < x20.length) := by omega
  refine ⟨decide (n3 ≤ 4000), ?_⟩
  unfold g_comptoirplay_Small
  rw [run_inl e1, a, run_inl e2, b, run_inl e3, c]
  exact run_inr (by simp only [M_comptoirplay_Small, Tr.val_c, Tr.val_r, q3, decide_false, cond_false])
def Fit (x : AV) : Prop := (getXs (getF x 26)).length < CAP ∧ (getXs (getF x 29)).length < CAP ∧ (getXs (getF x 30)).length < CAP ∧ (getXs (getF x 36)).length < CAP ∧ (getXs (getF x 37)).length < CAP
theorem few_total (L : List AV) (hL : L.length < CAP) (hf : ∀ x ∈ L, Fit x) : ∃ b, g_comptoirlaw21_few L = some b := by
  have key : ∀ (m i : Nat), i + m = L.length → ∃ b, run (M_comptoirlaw21_few L) (M_comptoirlaw21_few L (i : Int)) = some b := by
    intro m
    induction m with
    | zero =>
      intro i hi
      have q : ¬ ((i : Int) < L.length) := by omega
      exact ⟨_, run_inr (by simp only [M_comptoirlaw21_few, Tr.val_c, Tr.val_r, q, decide_false, cond_false]; rfl)⟩
    | succ m ih =>
      intro i hi
      have hi' : i < L.length := by omega
      have q : (i : Int) < L.length := by omega
      have q0 : (0 : Int) ≤ i := by omega
      have w : IntKind.i64.wrap ((i : Int) + 1) = ((i + 1 : Nat) : Int) := by unfold CAP at hL; rw [i64_wrap (by omega) (by omega)]; omega
      have hm : L.getD i noDeed ∈ L := by rw [List.getD_eq_getElem?_getD, List.getElem?_eq_getElem hi']; exact List.getElem_mem hi'
      obtain ⟨f1, f2, f3, f4, f5⟩ := hf _ hm
      obtain ⟨b, hb⟩ := ih (i + 1) (by omega)
      unfold noDeed at f1 f2 f3 f4 f5
      obtain ⟨s1, hs1⟩ := small_total (getI (getF (L.getD i noDeed) 10)) (getI (getF (L.getD i noDeed) 11)) (getS (getF (L.getD i noDeed) 12)) (getS (getF (L.getD i noDeed) 13)) (getS (getF (L.getD i noDeed) 14)) (getS (getF (L.getD i noDeed) 15)) (getI (getF (L.getD i noDeed) 16)) (getS (getF (L.getD i noDeed) 17)) (getS (getF (L.getD i noDeed) 18)) (getS (getF (L.getD i noDeed) 19)) (getS (getF (L.getD i noDeed) 20)) (getI (getF (L.getD i noDeed) 21)) (getS (getF (L.getD i noDeed) 22)) (getS (getF (L.getD i noDeed) 23)) (getI (getF (L.getD i noDeed) 24)) (getS (getF (L.getD i noDeed) 25)) (getXs (getF (L.getD i noDeed) 26)) (getS (getF (L.getD i noDeed) 27)) (getS (getF (L.getD i noDeed) 28)) (getXs (getF (L.getD i noDeed) 29)) (getXs (getF (L.getD i noDeed) 30)) f1 f2 f3
      obtain ⟨s2, hs2⟩ := small_total 0 0 [] [] [] [] 0 [] (getS (getF (L.getD i noDeed) 34)) (getS (getF (L.getD i noDeed) 35)) [] 0 [] [] 0 [] [] [] (getS (getF (L.getD i noDeed) 33)) (getXs (getF (L.getD i noDeed) 36)) (getXs (getF (L.getD i noDeed) 37)) (by unfold CAP; simp) f4 f5
      unfold noDeed at hs1 hs2
      cases s1 with
      | false => exact ⟨false, run_inr (by simp only [M_comptoirlaw21_few, Tr.val_c, Tr.val_r, val_opt, q, q0, Int.toNat_natCast, hs1, Option.bind_some, Bool.not_false, decide_true, cond_true])⟩
      | true =>
        cases s2 with
        | false => exact ⟨false, run_inr (by simp only [M_comptoirlaw21_few, Tr.val_c, Tr.val_r, val_opt, q, q0, Int.toNat_natCast, hs1, hs2, Option.bind_some, Bool.not_true, Bool.not_false, decide_true, cond_true, cond_false])⟩
        | true => exact ⟨b, by
            rw [run_inl (s := ((i + 1 : Nat) : Int)) (by simp only [M_comptoirlaw21_few, Tr.val_c, Tr.val_r, val_opt, q, q0, w, Int.toNat_natCast, hs1, hs2, Option.bind_some, Bool.not_true, decide_true, cond_true, cond_false])]
            exact hb⟩
  obtain ⟨b, hb⟩ := key L.length 0 (by omega)
  refine ⟨b, ?_⟩
  unfold g_comptoirlaw21_few
  rw [run_inl (s := ((0 : Nat) : Int)) (by simp only [T_comptoirlaw21_few, Tr.val_r]; rfl)]
  exact hb
theorem getXs_bulk (y : AV) : bulkL (getXs y) ≤ bulkV y := by
  cases y <;> simp [getXs, bulkL, bulkV]
theorem getS_bulk (y : AV) : (getS y).length ≤ bulkV y := by
  cases y <;> simp [getS, bulkV]
theorem getF_bulk (y : AV) (i : Nat) : bulkV (getF y i) ≤ bulkV y + 1 := by
  unfold getF
  rw [List.getD_eq_getElem?_getD]
  cases h : (getCs y)[i]? with
  | none => simp [bulkV]
  | some z =>
    have hz : z ∈ getCs y := List.mem_of_getElem? h
    have : bulkL (getCs y) ≤ bulkV y := by cases y <;> simp [getCs, bulkL, bulkV]
    have := bulkV_mem hz
    simp only [Option.getD_some]; omega
theorem fs_len (x : AV) (i : Nat) : (getS (getF x i)).length ≤ bulkV x + 1 := Nat.le_trans (getS_bulk _) (getF_bulk x i)
theorem fx_bulk (x : AV) (i : Nat) : bulkL (getXs (getF x i)) ≤ bulkV x + 1 := Nat.le_trans (getXs_bulk _) (getF_bulk x i)
theorem fx_len (x : AV) (i : Nat) : (getXs (getF x i)).length ≤ bulkV x + 1 := Nat.le_trans (bulkL_len _) (fx_bulk x i)
theorem fit_of {L : List AV} (h : bulkL L ≤ 1048576) : ∀ x ∈ L, Fit x := fun x hx => by
  have := bulkV_mem hx
  have f := fun i => fx_len x i
  have f1 := f 26
  have f2 := f 29
  have f3 := f 30
  have f4 := f 36
  have f5 := f 37
  refine ⟨?_, ?_, ?_, ?_, ?_⟩ <;> (unfold CAP; omega)
theorem flat_bulk (W : AV → List AV) (c : Nat) (h : ∀ y, (W y).length ≤ c * bulkV y) : ∀ l : List AV, (l.flatMap W).length ≤ c * bulkL l
  | [] => by simp [bulkL]
  | y :: l => by
    rw [List.flatMap_cons, List.length_append, bulkL, Nat.mul_add]
    have := h y
    have := flat_bulk W c h l
    omega
theorem len_ints (l : List AV) : (ints l).length = 8 * l.length := by
  induction l with
  | nil => rfl
  | cons x l ih => unfold ints at ih ⊢; rw [List.flatMap_cons, List.length_append, ih]; simp [intW]; omega
theorem len_text (s : List UInt8) (l : List AV) : (texts (.str s :: l)).length = 4 + s.length + (texts l).length := by
  unfold texts; rw [List.flatMap_cons, List.length_append]; simp [textW, getS]
theorem len_text0 : (texts []).length = 0 := rfl
theorem len_tag (y : AV) : (tagW y).length ≤ 14 * bulkV y := by
  have h1 := fx_len y 1
  have h2 := bulkV_pos y
  unfold tagW
  rw [List.length_append, len_ints, len_text, len_text0]
  have : (bytesOf (getXs (getF y 1))).length = (getXs (getF y 1)).length := by simp [bytesOf]
  rw [this]; simp; omega
theorem len_pair (y : AV) : (pairW y).length ≤ 14 * bulkV y := by
  have h1 := fs_len y 0
  have h2 := fs_len y 1
  have h3 := bulkV_pos y
  unfold pairW
  rw [len_text, len_text, len_text0]; omega
theorem len_list (W : AV → List AV) (h : ∀ y, (W y).length ≤ 14 * bulkV y) (x : AV) (i : Nat) : (listW W (getXs (getF x i))).length ≤ 4 + 14 * (bulkV x + 1) := by
  unfold listW
  rw [List.length_append, length_bex]
  have := flat_bulk W 14 h (getXs (getF x i))
  have := fx_bulk x i
  have : 14 * bulkL (getXs (getF x i)) ≤ 14 * (bulkV x + 1) := Nat.mul_le_mul_left _ this
  omega
set_option maxRecDepth 100000 in
theorem len_deed (x : AV) : (deedW x).length ≤ 1000 * bulkV x := by
  have h0 := bulkV_pos x
  have f12 := fs_len x 12
  have f13 := fs_len x 13
  have f14 := fs_len x 14
  have f15 := fs_len x 15
  have f17 := fs_len x 17
  have f18 := fs_len x 18
  have f19 := fs_len x 19
  have f20 := fs_len x 20
  have f22 := fs_len x 22
  have f23 := fs_len x 23
  have f25 := fs_len x 25
  have f27 := fs_len x 27
  have f28 := fs_len x 28
  have f33 := fs_len x 33
  have f34 := fs_len x 34
  have f35 := fs_len x 35
  have f26 := len_list tagW len_tag x 26
  have f29 := len_list pairW len_pair x 29
  have f30 := len_list tagW len_tag x 30
  have f36 := len_list pairW len_pair x 36
  have f37 := len_list tagW len_tag x 37
  unfold deedW deedP
  rw [List.length_cons]
  split
  · rw [length_bex]; omega
  split
  · rw [len_ints]; simp; omega
  split
  · unfold msgW
    simp only [List.length_append, len_ints, len_text, len_text0, length_bex, List.length_cons, List.length_nil]; omega
  split
  · rw [len_ints]; simp; omega
  split
  · unfold resW
    simp only [List.length_append, len_ints, len_text, len_text0, length_bex, List.length_cons, List.length_nil]; omega
  · simp; omega
theorem deeds_all (L : List AV) (h : bulkL L ≤ 1048576) : g_pack_Deeds L = some (L.flatMap deedW) ∧ (L.flatMap deedW).length ≤ 1048576000 := by
  have l := flat_bulk deedW 1000 len_deed L
  have : 1000 * bulkL L ≤ 1000 * 1048576 := Nat.mul_le_mul_left _ h
  have n := bulkL_len L
  exact ⟨Deeds_eq L (by unfold CAP; omega) (fit_of h) (by unfold CAP; omega), by omega⟩
theorem few_all (L : List AV) (h : bulkL L ≤ 1048576) : ∃ b, g_comptoirlaw21_few L = some b := by
  have n := bulkL_len L
  exact few_total L (by unfold CAP; omega) (fit_of h)
theorem rput (A : List AV) (v : Int) (m : Nat) (hm : m = 4 ∨ m = 8) (hA : A.length < CAP) : g_comptoirref01_Put A v (m : Int) = some (A ++ bex v m) := by
  unfold CAP at hA
  rcases hm with rfl | rfl
  · exact refPut_eq A v 4 4 (by omega) (by omega) (by decide)
  · exact refPut_eq A v 8 8 (by omega) (by omega) (by decide)
theorem rput8 (A : List AV) (v : Int) (hA : A.length < CAP) : g_comptoirref01_Put A v 8 = some (A ++ bex v 8) := rput A v 8 (.inr rfl) hA
theorem rput4 (A : List AV) (v : Int) (hA : A.length < CAP) : g_comptoirref01_Put A v 4 = some (A ++ bex v 4) := rput A v 4 (.inl rfl) hA
theorem rnum_eq (A : List AV) (v : Int) (hA : A.length < CAP) : g_comptoirref21_num A v = some (A ++ bex (IntKind.u64.wrap v) 8) := by
  unfold g_comptoirref21_num
  simp only [T_comptoirref21_num, Tr.val_c, Tr.val_r, val_opt, rput8 A _ hA, Option.bind_some, beq_self_eq_true, cond_true]
theorem rstr_eq (A : List AV) (s : List UInt8) (hA : A.length + (textW (.str s)).length < CAP) : g_comptoirref21_str A s = some (A ++ textW (.str s)) := by
  have e : textW (.str s) = bex (IntKind.u64.wrap (s.length : Int)) 4 ++ s.map byte := rfl
  rw [e, List.length_append] at hA
  have p := rput4 A (IntKind.u64.wrap (s.length : Int)) (by omega)
  have l : ((A ++ bex (IntKind.u64.wrap (s.length : Int)) 4) ++ s.map byte).length * 2 < 70368744177664 := by rw [List.length_append, List.length_append]; unfold CAP at hA; omega
  unfold g_comptoirref21_str
  simp only [T_comptoirref21_str, Tr.val_c, Tr.val_r, val_opt, p, l, Option.bind_some, beq_self_eq_true, decide_true, cond_true]
  rw [e, List.append_assoc]
theorem len_step {A W R : List AV} (h : A.length + (W ++ R).length < CAP) : A.length + W.length < CAP ∧ (A ++ W).length + R.length < CAP := by
  simp only [List.length_append] at h ⊢; omega
theorem opt_step {α β : Type} [Inhabited α] {r : Option α} {F : α → Tr β} {b : α} (h : r = some b) : (opt r F).val = (F b).val := by rw [val_opt, h]; rfl
theorem c_step {β : Type} {t e : Tr β} {n : Nat} : (Tr.c (true && n == n) t e).val = t.val := by rw [beq_self_eq_true]; rfl
theorem c_step1 {β : Type} {t e : Tr β} {n : Nat} : (Tr.c (n == n) t e).val = t.val := by rw [beq_self_eq_true]; rfl
theorem wstep {A W R : List AV} {r : Option (List AV)} (h : A.length + (W ++ R).length < CAP) (p : A.length + W.length < CAP → r = some (A ++ W)) : ∃ B, r = some B ∧ B = A ++ W ∧ B.length + R.length < CAP :=
  ⟨_, p (len_step h).1, rfl, (len_step h).2⟩
theorem rput8' (A : List AV) (v : Int) (h : A.length + (bex v 8).length < CAP) : g_comptoirref01_Put A v 8 = some (A ++ bex v 8) := rput8 A v (by omega)
theorem rnum_eq' (A : List AV) (v : Int) (h : A.length + (bex (IntKind.u64.wrap v) 8).length < CAP) : g_comptoirref21_num A v = some (A ++ bex (IntKind.u64.wrap v) 8) := rnum_eq A v (by omega)
theorem ints_cons (v : Int) (l : List AV) : ints (.int .i64 v :: l) = bex (IntKind.u64.wrap v) 8 ++ ints l := by simp [ints, intW, getI]
theorem ints_nil : ints [] = [] := rfl
theorem texts_cons (s : List UInt8) (l : List AV) : texts (.str s :: l) = textW (.str s) ++ texts l := by simp [texts]
theorem texts_nil : texts [] = [] := rfl
theorem rtags_eq (xs A : List AV) (h : A.length + (listW tagW xs).length < CAP) (hx : xs.length < CAP) : g_comptoirref21_tags A xs = some (A ++ listW tagW xs) := by
  have hc := h
  unfold listW at hc ⊢
  rw [List.length_append] at hc
  unfold CAP at hc hx
  have p0 := rput4 A (IntKind.u64.wrap (xs.length : Int)) (by unfold CAP; omega)
  generalize hH : bex (IntKind.u64.wrap (xs.length : Int)) 4 = H at *
  unfold g_comptoirref21_tags
  rw [run_inl (s := (A ++ H ++ (xs.take 0).flatMap tagW, ((0 : Nat) : Int))) (by simp [T_comptoirref21_tags, Tr.val_c, Tr.val_r, val_opt, p0])]
  rw [run_count (step := M_comptoirref21_tags A xs) (f := fun i => (A ++ H ++ (xs.take i).flatMap tagW, (i : Int))) (n := xs.length) (fun i hi => by
    have q : (i : Int) < xs.length := by omega
    have q0 : (0 : Int) ≤ i := by omega
    have w : IntKind.i64.wrap ((i : Int) + 1) = ((i + 1 : Nat) : Int) := by rw [i64_wrap (by omega) (by omega)]; omega
    have e := flat_take tagW xs (.agg [.int .i64 0, .slice 1 (.int .u8) [] .ro]) hi
    have l := flat_take_len tagW xs (i + 1)
    rw [e, List.length_append] at l
    rw [e, ← List.append_assoc (A ++ H)]
    generalize hX : xs.getD i (.agg [.int .i64 0, .slice 1 (.int .u8) [] .ro]) = x at *
    have b : tagW x = bex (IntKind.u64.wrap (getI (getF x 0))) 8 ++ textW (.str (bytesOf (getXs (getF x 1)))) := by simp [tagW, ints_cons, ints_nil, texts_cons, texts_nil]
    rw [b, List.length_append] at l
    have p1 := rnum_eq (A ++ H ++ (xs.take i).flatMap tagW) (getI (getF x 0)) (by rw [List.length_append, List.length_append]; unfold CAP; omega)
    have p2 := rstr_eq (A ++ H ++ (xs.take i).flatMap tagW ++ bex (IntKind.u64.wrap (getI (getF x 0))) 8) _ (show _ + (textW (.str (bytesOf (getXs (getF x 1))))).length < CAP by rw [List.length_append, List.length_append, List.length_append]; unfold CAP; omega)
    rw [b]
    simp only [M_comptoirref21_tags, Tr.val_c, Tr.val_r, val_opt, q, q0, w, hX, p1, p2, Int.toNat_natCast, Option.bind_some, decide_true, beq_self_eq_true, Bool.and_self, Bool.true_and, cond_true, ← List.append_assoc])]
  have q : ¬ ((xs.length : Int) < xs.length) := by omega
  exact run_inr (by simp only [M_comptoirref21_tags, Tr.val_c, Tr.val_r, q, flat_take_all, decide_false, beq_self_eq_true, cond_true, cond_false, List.append_assoc])
theorem rothers_eq (xs A : List AV) (h : A.length + (listW tagW xs).length < CAP) (hx : xs.length < CAP) : g_comptoirref21_others A xs = some (A ++ listW tagW xs) := by
  have hc := h
  unfold listW at hc ⊢
  rw [List.length_append] at hc
  unfold CAP at hc hx
  have p0 := rput4 A (IntKind.u64.wrap (xs.length : Int)) (by unfold CAP; omega)
  generalize hH : bex (IntKind.u64.wrap (xs.length : Int)) 4 = H at *
  unfold g_comptoirref21_others
  rw [run_inl (s := (A ++ H ++ (xs.take 0).flatMap tagW, ((0 : Nat) : Int))) (by simp [T_comptoirref21_others, Tr.val_c, Tr.val_r, val_opt, p0])]
  rw [run_count (step := M_comptoirref21_others A xs) (f := fun i => (A ++ H ++ (xs.take i).flatMap tagW, (i : Int))) (n := xs.length) (fun i hi => by
    have q : (i : Int) < xs.length := by omega
    have q0 : (0 : Int) ≤ i := by omega
    have w : IntKind.i64.wrap ((i : Int) + 1) = ((i + 1 : Nat) : Int) := by rw [i64_wrap (by omega) (by omega)]; omega
    have e := flat_take tagW xs (.agg [.int .i64 0, .slice 1 (.int .u8) [] .ro]) hi
    have l := flat_take_len tagW xs (i + 1)
    rw [e, List.length_append] at l
    rw [e, ← List.append_assoc (A ++ H)]
    generalize hX : xs.getD i (.agg [.int .i64 0, .slice 1 (.int .u8) [] .ro]) = x at *
    have b : tagW x = bex (IntKind.u64.wrap (getI (getF x 0))) 8 ++ textW (.str (bytesOf (getXs (getF x 1)))) := by simp [tagW, ints_cons, ints_nil, texts_cons, texts_nil]
    rw [b, List.length_append] at l
    have p1 := rnum_eq (A ++ H ++ (xs.take i).flatMap tagW) (getI (getF x 0)) (by rw [List.length_append, List.length_append]; unfold CAP; omega)
    have p2 := rstr_eq (A ++ H ++ (xs.take i).flatMap tagW ++ bex (IntKind.u64.wrap (getI (getF x 0))) 8) _ (show _ + (textW (.str (bytesOf (getXs (getF x 1))))).length < CAP by rw [List.length_append, List.length_append, List.length_append]; unfold CAP; omega)
    rw [b]
    simp only [M_comptoirref21_others, Tr.val_c, Tr.val_r, val_opt, q, q0, w, hX, p1, p2, Int.toNat_natCast, Option.bind_some, decide_true, beq_self_eq_true, Bool.and_self, Bool.true_and, cond_true, ← List.append_assoc])]
  have q : ¬ ((xs.length : Int) < xs.length) := by omega
  exact run_inr (by simp only [M_comptoirref21_others, Tr.val_c, Tr.val_r, q, flat_take_all, decide_false, beq_self_eq_true, cond_true, cond_false, List.append_assoc])
theorem rpairs_eq (xs A : List AV) (h : A.length + (listW pairW xs).length < CAP) (hx : xs.length < CAP) : g_comptoirref21_pairs A xs = some (A ++ listW pairW xs) := by
  have hc := h
  unfold listW at hc ⊢
  rw [List.length_append] at hc
  unfold CAP at hc hx
  have p0 := rput4 A (IntKind.u64.wrap (xs.length : Int)) (by unfold CAP; omega)
  generalize hH : bex (IntKind.u64.wrap (xs.length : Int)) 4 = H at *
  unfold g_comptoirref21_pairs
  rw [run_inl (s := (A ++ H ++ (xs.take 0).flatMap pairW, ((0 : Nat) : Int))) (by simp [T_comptoirref21_pairs, Tr.val_c, Tr.val_r, val_opt, p0])]
  rw [run_count (step := M_comptoirref21_pairs A xs) (f := fun i => (A ++ H ++ (xs.take i).flatMap pairW, (i : Int))) (n := xs.length) (fun i hi => by
    have q : (i : Int) < xs.length := by omega
    have q0 : (0 : Int) ≤ i := by omega
    have w : IntKind.i64.wrap ((i : Int) + 1) = ((i + 1 : Nat) : Int) := by rw [i64_wrap (by omega) (by omega)]; omega
    have e := flat_take pairW xs (.agg [.str [], .str []]) hi
    have l := flat_take_len pairW xs (i + 1)
    rw [e, List.length_append] at l
    rw [e, ← List.append_assoc (A ++ H)]
    generalize hX : xs.getD i (.agg [.str [], .str []]) = x at *
    have b : pairW x = textW (.str (getS (getF x 0))) ++ textW (.str (getS (getF x 1))) := by simp [pairW, ints_cons, ints_nil, texts_cons, texts_nil]
    rw [b, List.length_append] at l
    have p1 := rstr_eq (A ++ H ++ (xs.take i).flatMap pairW) (getS (getF x 0)) (by rw [List.length_append, List.length_append]; unfold CAP; omega)
    have p2 := rstr_eq (A ++ H ++ (xs.take i).flatMap pairW ++ textW (.str (getS (getF x 0)))) _ (show _ + (textW (.str (getS (getF x 1)))).length < CAP by rw [List.length_append, List.length_append, List.length_append]; unfold CAP; omega)
    rw [b]
    simp only [M_comptoirref21_pairs, Tr.val_c, Tr.val_r, val_opt, q, q0, w, hX, p1, p2, Int.toNat_natCast, Option.bind_some, decide_true, beq_self_eq_true, Bool.and_self, Bool.true_and, cond_true, ← List.append_assoc])]
  have q : ¬ ((xs.length : Int) < xs.length) := by omega
  exact run_inr (by simp only [M_comptoirref21_pairs, Tr.val_c, Tr.val_r, q, flat_take_all, decide_false, beq_self_eq_true, cond_true, cond_false, List.append_assoc])
set_option maxHeartbeats 4000000 in
set_option maxRecDepth 100000 in
theorem rmessage_w (A : List AV) (x0 : Int) (x1 : Int) (x2 : List UInt8) (x3 : List UInt8) (x4 : List UInt8) (x5 : List UInt8) (x6 : Int) (x7 : List UInt8) (x8 : List UInt8) (x9 : List UInt8) (x10 : List UInt8) (x11 : Int) (x12 : List UInt8) (x13 : List UInt8) (x14 : Int) (x15 : List UInt8) (x16 : List AV) (x17 : List UInt8) (x18 : List UInt8) (x19 : List AV) (x20 : List AV) (h16 : x16.length < CAP) (h19 : x19.length < CAP) (h20 : x20.length < CAP) (h : A.length + (msgW x0 x1 x2 x3 x4 x5 x6 x7 x8 x9 x10 x11 x12 x13 x14 x15 x16 x17 x18 x19 x20).length < CAP) : g_comptoirref21_message A x0 x1 x2 x3 x4 x5 x6 x7 x8 x9 x10 x11 x12 x13 x14 x15 x16 x17 x18 x19 x20 = some (A ++ msgW x0 x1 x2 x3 x4 x5 x6 x7 x8 x9 x10 x11 x12 x13 x14 x15 x16 x17 x18 x19 x20) := by
  have e : msgW x0 x1 x2 x3 x4 x5 x6 x7 x8 x9 x10 x11 x12 x13 x14 x15 x16 x17 x18 x19 x20 = bex (IntKind.u64.wrap x0) 8 ++ (bex (IntKind.u64.wrap x1) 8 ++ (textW (.str x2) ++ (textW (.str x3) ++ (textW (.str x4) ++ (textW (.str x5) ++ (bex x6 8 ++ (textW (.str x7) ++ (textW (.str x8) ++ (textW (.str x9) ++ (textW (.str x10) ++ (bex (IntKind.u64.wrap x11) 8 ++ (textW (.str x12) ++ (textW (.str x13) ++ (bex (IntKind.u64.wrap x14) 8 ++ (textW (.str x15) ++ (listW tagW x16 ++ (textW (.str x17) ++ (textW (.str x18) ++ (listW pairW x19 ++ (listW tagW x20)))))))))))))))))))) := by
    simp only [msgW, ints_cons, ints_nil, texts_cons, texts_nil, List.append_assoc, List.nil_append, List.append_nil]
  rw [e] at h ⊢
  obtain ⟨B0, p0, e0, h⟩ := wstep h (rnum_eq' (A) x0)
  obtain ⟨B1, p1, e1, h⟩ := wstep h (rnum_eq' (B0) x1)
  obtain ⟨B2, p2, e2, h⟩ := wstep h (rstr_eq (B1) x2)
  obtain ⟨B3, p3, e3, h⟩ := wstep h (rstr_eq (B2) x3)
  obtain ⟨B4, p4, e4, h⟩ := wstep h (rstr_eq (B3) x4)
  obtain ⟨B5, p5, e5, h⟩ := wstep h (rstr_eq (B4) x5)
  obtain ⟨B6, p6, e6, h⟩ := wstep h (rput8' (B5) x6)
  obtain ⟨B7, p7, e7, h⟩ := wstep h (rstr_eq (B6) x7)
  obtain ⟨B8, p8, e8, h⟩ := wstep h (rstr_eq (B7) x8)
  obtain ⟨B9, p9, e9, h⟩ := wstep h (rstr_eq (B8) x9)
  obtain ⟨B10, p10, e10, h⟩ := wstep h (rstr_eq (B9) x10)
  obtain ⟨B11, p11, e11, h⟩ := wstep h (rnum_eq' (B10) x11)
  obtain ⟨B12, p12, e12, h⟩ := wstep h (rstr_eq (B11) x12)
  obtain ⟨B13, p13, e13, h⟩ := wstep h (rstr_eq (B12) x13)
  obtain ⟨B14, p14, e14, h⟩ := wstep h (rnum_eq' (B13) x14)
  obtain ⟨B15, p15, e15, h⟩ := wstep h (rstr_eq (B14) x15)
  obtain ⟨B16, p16, e16, h⟩ := wstep h (fun hq => rtags_eq x16 (B15) hq h16)
  obtain ⟨B17, p17, e17, h⟩ := wstep h (rstr_eq (B16) x17)
  obtain ⟨B18, p18, e18, h⟩ := wstep h (rstr_eq (B17) x18)
  obtain ⟨B19, p19, e19, h⟩ := wstep h (fun hq => rpairs_eq x19 (B18) hq h19)
  have p20 := (fun hq => rothers_eq x20 (B19) hq h20) h
  unfold g_comptoirref21_message
  unfold T_comptoirref21_message
  refine (opt_step p0).trans ?_
  refine c_step.trans ?_
  refine (opt_step p1).trans ?_
  refine c_step.trans ?_
  refine (opt_step p2).trans ?_
  refine c_step.trans ?_
  refine (opt_step p3).trans ?_
  refine c_step.trans ?_
  refine (opt_step p4).trans ?_
  refine c_step.trans ?_
  refine (opt_step p5).trans ?_
  refine c_step.trans ?_
  refine (opt_step p6).trans ?_
  refine c_step.trans ?_
  refine (opt_step p7).trans ?_
  refine c_step.trans ?_
  refine (opt_step p8).trans ?_
  refine c_step.trans ?_
  refine (opt_step p9).trans ?_
  refine c_step.trans ?_
  refine (opt_step p10).trans ?_
  refine c_step.trans ?_
  refine (opt_step p11).trans ?_
  refine c_step.trans ?_
  refine (opt_step p12).trans ?_
  refine c_step.trans ?_
  refine (opt_step p13).trans ?_
  refine c_step.trans ?_
  refine (opt_step p14).trans ?_
  refine c_step.trans ?_
  refine (opt_step p15).trans ?_
  refine c_step.trans ?_
  refine (opt_step p16).trans ?_
  refine c_step.trans ?_
  refine (opt_step p17).trans ?_
  refine c_step.trans ?_
  refine (opt_step p18).trans ?_
  refine c_step.trans ?_
  refine (opt_step p19).trans ?_
  refine c_step.trans ?_
  refine (opt_step p20).trans ?_
  refine c_step1.trans ?_
  show some _ = some _
  simp only [e19, e18, e17, e16, e15, e14, e13, e12, e11, e10, e9, e8, e7, e6, e5, e4, e3, e2, e1, e0, List.append_assoc]
set_option maxHeartbeats 4000000 in
set_option maxRecDepth 100000 in
theorem rresidue_w (A : List AV) (x0 : List UInt8) (x1 : List UInt8) (x2 : List UInt8) (x3 : List AV) (x4 : List AV) (h3 : x3.length < CAP) (h4 : x4.length < CAP) (h : A.length + (resW x0 x1 x2 x3 x4).length < CAP) : g_comptoirref21_residue A x0 x1 x2 x3 x4 = some (A ++ resW x0 x1 x2 x3 x4) := by
  have e : resW x0 x1 x2 x3 x4 = textW (.str x0) ++ (textW (.str x1) ++ (textW (.str x2) ++ (listW pairW x3 ++ (listW tagW x4)))) := by
    simp only [resW, ints_cons, ints_nil, texts_cons, texts_nil, List.append_assoc, List.nil_append, List.append_nil]
  rw [e] at h ⊢
  obtain ⟨B0, p0, e0, h⟩ := wstep h (rstr_eq (A) x0)
  obtain ⟨B1, p1, e1, h⟩ := wstep h (rstr_eq (B0) x1)
  obtain ⟨B2, p2, e2, h⟩ := wstep h (rstr_eq (B1) x2)
  obtain ⟨B3, p3, e3, h⟩ := wstep h (fun hq => rpairs_eq x3 (B2) hq h3)
  have p4 := (fun hq => rothers_eq x4 (B3) hq h4) h
  unfold g_comptoirref21_residue
  unfold T_comptoirref21_residue
  refine (opt_step p0).trans ?_
  refine c_step.trans ?_
  refine (opt_step p1).trans ?_
  refine c_step.trans ?_
  refine (opt_step p2).trans ?_
  refine c_step.trans ?_
  refine (opt_step p3).trans ?_
  refine c_step.trans ?_
  refine (opt_step p4).trans ?_
  refine c_step1.trans ?_
  show some _ = some _
  simp only [e3, e2, e1, e0, List.append_assoc]
theorem deedW_eq (x : AV) : deedW x = .int .u8 (IntKind.u8.wrap (getI (getF x 0))) :: (if getI (getF x 0) = 1 then bex (getI (getF x 1)) 8 else if getI (getF x 0) = 2 then bex (IntKind.u64.wrap (getI (getF x 2))) 8 ++ bex (IntKind.u64.wrap (getI (getF x 3))) 8 else if getI (getF x 0) = 3 then bex (IntKind.u64.wrap (getI (getF x 4))) 8 ++ (bex (IntKind.u64.wrap (getI (getF x 5))) 8 ++ (bex (IntKind.u64.wrap (getI (getF x 6))) 8 ++ (bex (IntKind.u64.wrap (getI (getF x 7))) 8 ++ (bex (IntKind.u64.wrap (getI (getF x 8))) 8 ++ (bex (getI (getF x 9)) 8 ++ msgW (getI (getF x 10)) (getI (getF x 11)) (getS (getF x 12)) (getS (getF x 13)) (getS (getF x 14)) (getS (getF x 15)) (getI (getF x 16)) (getS (getF x 17)) (getS (getF x 18)) (getS (getF x 19)) (getS (getF x 20)) (getI (getF x 21)) (getS (getF x 22)) (getS (getF x 23)) (getI (getF x 24)) (getS (getF x 25)) (getXs (getF x 26)) (getS (getF x 27)) (getS (getF x 28)) (getXs (getF x 29)) (getXs (getF x 30))))))) else if getI (getF x 0) = 4 ∨ getI (getF x 0) = 6 then bex (IntKind.u64.wrap (getI (getF x 2))) 8 else if getI (getF x 0) = 5 then bex (IntKind.u64.wrap (getI (getF x 31))) 8 ++ (bex (getI (getF x 32)) 8 ++ resW (getS (getF x 33)) (getS (getF x 34)) (getS (getF x 35)) (getXs (getF x 36)) (getXs (getF x 37))) else []) := by
  unfold deedW deedP
  simp only [ints_cons, ints_nil, List.append_assoc, List.nil_append, List.append_nil]
set_option maxRecDepth 100000 in
theorem Pack_eq (L : List AV) (hL : L.length < CAP) (hf : ∀ x ∈ L, Fit x) (h : (L.flatMap deedW).length < CAP) : g_comptoirref21_Pack L = some (L.flatMap deedW) := by
  have hL2 : L.length < 1099511627776 := hL
  unfold g_comptoirref21_Pack
  rw [run_inl (s := (((0 : Nat) : Int), (L.take 0).flatMap deedW)) (by simp [T_comptoirref21_Pack, Tr.val_r])]
  rw [run_count (step := M_comptoirref21_Pack L) (f := fun i => ((i : Int), (L.take i).flatMap deedW)) (n := L.length) (fun i hi => by
    have q : (i : Int) < L.length := by omega
    have q0 : (0 : Int) ≤ i := by omega
    have w : IntKind.i64.wrap ((i : Int) + 1) = ((i + 1 : Nat) : Int) := by rw [i64_wrap (by omega) (by omega)]; omega
    have e := flat_take deedW L noDeed hi
    have l := flat_take_len deedW L (i + 1)
    rw [e, List.length_append] at l
    have eD : ∀ d, L.getD i d = L[i] := fun d => by simp [List.getD_eq_getElem?_getD, hi]
    obtain ⟨f1, f2, f3, f4, f5⟩ := hf _ (List.getElem_mem hi)
    rw [eD] at l e
    rw [e]
    generalize L[i] = x at *
    rw [deedW_eq] at l ⊢
    generalize (L.take i).flatMap deedW = A at *
    simp only [List.length_cons] at l
    have l2 : (A ++ [AV.int .u8 (IntKind.u8.wrap (getI (getF x 0)))]).length * 2 < 70368744177664 := by rw [List.length_append]; unfold CAP at h; simp; omega
    have la : (A ++ [AV.int .u8 (IntKind.u8.wrap (getI (getF x 0)))]).length = A.length + 1 := by simp
    generalize hB : A ++ [AV.int .u8 (IntKind.u8.wrap (getI (getF x 0)))] = B at *
    have cons : ∀ V : List AV, A ++ (AV.int .u8 (IntKind.u8.wrap (getI (getF x 0))) :: V) = B ++ V := fun V => by rw [← hB]; simp
    rw [cons]
    have base : A.length + 1 < CAP := by omega
    by_cases k1 : getI (getF x 0) = 1
    · rw [if_pos k1] at l ⊢
      have b1 : (getI (getF x 0) == 1) = true := by rw [k1]; rfl
      have p := rput8 B (getI (getF x 1)) (by omega)
      simp only [M_comptoirref21_Pack, Tr.val_c, Tr.val_r, val_opt, q, q0, w, eD, hB, l2, b1, p, Int.toNat_natCast, Option.bind_some, decide_true, beq_self_eq_true, Bool.and_self, Bool.true_and, cond_true]
    by_cases k2 : getI (getF x 0) = 2
    · rw [if_neg k1, if_pos k2] at l ⊢
      simp only [List.length_append, length_bex] at l
      have b1 : (getI (getF x 0) == 1) = false := by rw [k2]; rfl
      have b2 : (getI (getF x 0) == 2) = true := by rw [k2]; rfl
      have b3 : (getI (getF x 0) == 3) = false := by rw [k2]; rfl
      have b4 : (getI (getF x 0) == 4) = false := by rw [k2]; rfl
      have b5 : (getI (getF x 0) == 5) = false := by rw [k2]; rfl
      have b6 : (getI (getF x 0) == 6) = false := by rw [k2]; rfl
      have p0 := rnum_eq (B) (getI (getF x 2)) (by first | omega | (simp only [List.length_append, length_bex]; omega))
      have p1 := rnum_eq (B ++ bex (IntKind.u64.wrap (getI (getF x 2))) 8) (getI (getF x 3)) (by first | omega | (simp only [List.length_append, length_bex]; omega))
      simp only [M_comptoirref21_Pack, Tr.val_c, Tr.val_r, val_opt, q, q0, w, eD, hB, l2, b1, b2, b3, b4, b5, b6, p0, p1, Int.toNat_natCast, Option.bind_some, decide_true, beq_self_eq_true, Bool.and_self, Bool.true_and, cond_true, cond_false]
      try simp only [List.append_assoc]
    by_cases k3 : getI (getF x 0) = 3
    · rw [if_neg k1, if_neg k2, if_pos k3] at l ⊢
      simp only [List.length_append, length_bex] at l
      have b1 : (getI (getF x 0) == 1) = false := by rw [k3]; rfl
      have b2 : (getI (getF x 0) == 2) = false := by rw [k3]; rfl
      have b3 : (getI (getF x 0) == 3) = true := by rw [k3]; rfl
      have b4 : (getI (getF x 0) == 4) = false := by rw [k3]; rfl
      have b5 : (getI (getF x 0) == 5) = false := by rw [k3]; rfl
      have b6 : (getI (getF x 0) == 6) = false := by rw [k3]; rfl
      have p0 := rnum_eq (B) (getI (getF x 4)) (by first | omega | (simp only [List.length_append, length_bex]; omega))
      have p1 := rnum_eq (B ++ bex (IntKind.u64.wrap (getI (getF x 4))) 8) (getI (getF x 5)) (by first | omega | (simp only [List.length_append, length_bex]; omega))
      have p2 := rnum_eq (B ++ bex (IntKind.u64.wrap (getI (getF x 4))) 8 ++ bex (IntKind.u64.wrap (getI (getF x 5))) 8) (getI (getF x 6)) (by first | omega | (simp only [List.length_append, length_bex]; omega))
      have p3 := rnum_eq (B ++ bex (IntKind.u64.wrap (getI (getF x 4))) 8 ++ bex (IntKind.u64.wrap (getI (getF x 5))) 8 ++ bex (IntKind.u64.wrap (getI (getF x 6))) 8) (getI (getF x 7)) (by first | omega | (simp only [List.length_append, length_bex]; omega))
      have p4 := rnum_eq (B ++ bex (IntKind.u64.wrap (getI (getF x 4))) 8 ++ bex (IntKind.u64.wrap (getI (getF x 5))) 8 ++ bex (IntKind.u64.wrap (getI (getF x 6))) 8 ++ bex (IntKind.u64.wrap (getI (getF x 7))) 8) (getI (getF x 8)) (by first | omega | (simp only [List.length_append, length_bex]; omega))
      have p5 := rput8 (B ++ bex (IntKind.u64.wrap (getI (getF x 4))) 8 ++ bex (IntKind.u64.wrap (getI (getF x 5))) 8 ++ bex (IntKind.u64.wrap (getI (getF x 6))) 8 ++ bex (IntKind.u64.wrap (getI (getF x 7))) 8 ++ bex (IntKind.u64.wrap (getI (getF x 8))) 8) (getI (getF x 9)) (by first | omega | (simp only [List.length_append, length_bex]; omega))
      have p6 := rmessage_w (B ++ bex (IntKind.u64.wrap (getI (getF x 4))) 8 ++ bex (IntKind.u64.wrap (getI (getF x 5))) 8 ++ bex (IntKind.u64.wrap (getI (getF x 6))) 8 ++ bex (IntKind.u64.wrap (getI (getF x 7))) 8 ++ bex (IntKind.u64.wrap (getI (getF x 8))) 8 ++ bex (getI (getF x 9)) 8) (getI (getF x 10)) (getI (getF x 11)) (getS (getF x 12)) (getS (getF x 13)) (getS (getF x 14)) (getS (getF x 15)) (getI (getF x 16)) (getS (getF x 17)) (getS (getF x 18)) (getS (getF x 19)) (getS (getF x 20)) (getI (getF x 21)) (getS (getF x 22)) (getS (getF x 23)) (getI (getF x 24)) (getS (getF x 25)) (getXs (getF x 26)) (getS (getF x 27)) (getS (getF x 28)) (getXs (getF x 29)) (getXs (getF x 30)) f1 f2 f3 (by first | omega | (simp only [List.length_append, length_bex]; omega))
      simp only [M_comptoirref21_Pack, Tr.val_c, Tr.val_r, val_opt, q, q0, w, eD, hB, l2, b1, b2, b3, b4, b5, b6, p0, p1, p2, p3, p4, p5, p6, Int.toNat_natCast, Option.bind_some, decide_true, beq_self_eq_true, Bool.and_self, Bool.true_and, cond_true, cond_false]
      try simp only [List.append_assoc]
    by_cases k4 : getI (getF x 0) = 4
    · rw [if_neg k1, if_neg k2, if_neg k3, if_pos (.inl k4)] at l ⊢
      simp only [List.length_append, length_bex] at l
      have b1 : (getI (getF x 0) == 1) = false := by rw [k4]; rfl
      have b2 : (getI (getF x 0) == 2) = false := by rw [k4]; rfl
      have b3 : (getI (getF x 0) == 3) = false := by rw [k4]; rfl
      have b4 : (getI (getF x 0) == 4) = true := by rw [k4]; rfl
      have b5 : (getI (getF x 0) == 5) = false := by rw [k4]; rfl
      have b6 : (getI (getF x 0) == 6) = false := by rw [k4]; rfl
      have p0 := rnum_eq (B) (getI (getF x 2)) (by first | omega | (simp only [List.length_append, length_bex]; omega))
      simp only [M_comptoirref21_Pack, Tr.val_c, Tr.val_r, val_opt, q, q0, w, eD, hB, l2, b1, b2, b3, b4, b5, b6, p0, Int.toNat_natCast, Option.bind_some, decide_true, beq_self_eq_true, Bool.and_self, Bool.true_and, cond_true, cond_false]
      try simp only [List.append_assoc]
    by_cases k6 : getI (getF x 0) = 6
    · rw [if_neg k1, if_neg k2, if_neg k3, if_pos (.inr k6)] at l ⊢
      simp only [List.length_append, length_bex] at l
      have b1 : (getI (getF x 0) == 1) = false := by rw [k6]; rfl
      have b2 : (getI (getF x 0) == 2) = false := by rw [k6]; rfl
      have b3 : (getI (getF x 0) == 3) = false := by rw [k6]; rfl
      have b4 : (getI (getF x 0) == 4) = false := by rw [k6]; rfl
      have b5 : (getI (getF x 0) == 5) = false := by rw [k6]; rfl
      have b6 : (getI (getF x 0) == 6) = true := by rw [k6]; rfl
      have p0 := rnum_eq (B) (getI (getF x 2)) (by first | omega | (simp only [List.length_append, length_bex]; omega))
      simp only [M_comptoirref21_Pack, Tr.val_c, Tr.val_r, val_opt, q, q0, w, eD, hB, l2, b1, b2, b3, b4, b5, b6, p0, Int.toNat_natCast, Option.bind_some, decide_true, beq_self_eq_true, Bool.and_self, Bool.true_and, cond_true, cond_false]
      try simp only [List.append_assoc]
    by_cases k5 : getI (getF x 0) = 5
    · rw [if_neg k1, if_neg k2, if_neg k3, if_neg (fun h => h.elim k4 k6), if_pos k5] at l ⊢
      simp only [List.length_append, length_bex] at l
      have b1 : (getI (getF x 0) == 1) = false := by rw [k5]; rfl
      have b2 : (getI (getF x 0) == 2) = false := by rw [k5]; rfl
      have b3 : (getI (getF x 0) == 3) = false := by rw [k5]; rfl
      have b4 : (getI (getF x 0) == 4) = false := by rw [k5]; rfl
      have b5 : (getI (getF x 0) == 5) = true := by rw [k5]; rfl
      have b6 : (getI (getF x 0) == 6) = false := by rw [k5]; rfl
      have p0 := rnum_eq (B) (getI (getF x 31)) (by first | omega | (simp only [List.length_append, length_bex]; omega))
      have p1 := rput8 (B ++ bex (IntKind.u64.wrap (getI (getF x 31))) 8) (getI (getF x 32)) (by first | omega | (simp only [List.length_append, length_bex]; omega))
      have p2 := rresidue_w (B ++ bex (IntKind.u64.wrap (getI (getF x 31))) 8 ++ bex (getI (getF x 32)) 8) (getS (getF x 33)) (getS (getF x 34)) (getS (getF x 35)) (getXs (getF x 36)) (getXs (getF x 37)) f4 f5 (by first | omega | (simp only [List.length_append, length_bex]; omega))
      simp only [M_comptoirref21_Pack, Tr.val_c, Tr.val_r, val_opt, q, q0, w, eD, hB, l2, b1, b2, b3, b4, b5, b6, p0, p1, p2, Int.toNat_natCast, Option.bind_some, decide_true, beq_self_eq_true, Bool.and_self, Bool.true_and, cond_true, cond_false]
      try simp only [List.append_assoc]
    rw [if_neg k1, if_neg k2, if_neg k3, if_neg (fun h => h.elim k4 k6), if_neg k5]
    have b1 : (getI (getF x 0) == 1) = false := by rw [beq_eq_false_iff_ne]; exact k1
    have b2 : (getI (getF x 0) == 2) = false := by rw [beq_eq_false_iff_ne]; exact k2
    have b3 : (getI (getF x 0) == 3) = false := by rw [beq_eq_false_iff_ne]; exact k3
    have b4 : (getI (getF x 0) == 4) = false := by rw [beq_eq_false_iff_ne]; exact k4
    have b5 : (getI (getF x 0) == 5) = false := by rw [beq_eq_false_iff_ne]; exact k5
    have b6 : (getI (getF x 0) == 6) = false := by rw [beq_eq_false_iff_ne]; exact k6
    simp only [M_comptoirref21_Pack, Tr.val_c, Tr.val_r, val_opt, q, q0, w, eD, hB, l2, b1, b2, b3, b4, b5, b6, Int.toNat_natCast, Option.bind_some, decide_true, beq_self_eq_true, Bool.and_self, Bool.true_and, cond_true, cond_false, List.append_nil])]
  have q : ¬ ((L.length : Int) < L.length) := by omega
  have cl : (L.flatMap deedW).length * 2 < 70368744177664 := by unfold CAP at h; omega
  exact run_inr (by simp only [M_comptoirref21_Pack, Tr.val_c, Tr.val_r, q, cl, flat_take_all, decide_true, decide_false, beq_self_eq_true, Bool.and_self, Bool.true_and, cond_true, cond_false])
theorem num_bound : ∀ (b : List UInt8) (n a : Nat), b.length + n ≤ 8 → a < 256 ^ n → ∃ v : Nat, (b.map byte).foldl (fun a x => bitsA .or .u64 (shlA .u64 a 8) (IntKind.u64.wrap (getI x))) (a : Int) = (v : Int) ∧ v < 256 ^ (n + b.length)
  | [], n, a, _, ha => ⟨a, rfl, by simpa using ha⟩
  | x :: b, n, a, hl, ha => by
    have hx : x.toNat < 256 := x.toNat_lt
    simp only [List.length_cons] at hl ⊢
    have ha2 : a < 72057594037927936 := by
      have : 256 ^ n ≤ 256 ^ 7 := Nat.pow_le_pow_right (by omega) (by omega)
      omega
    have hb := byte_behind (a := a) (y := x.toNat) (by omega) hx
    simp only [List.map_cons, List.foldl_cons, byte, getI]
    rw [hb]
    have := num_bound b (n + 1) (a * 256 + x.toNat) (by omega) (by rw [Nat.pow_succ]; omega)
    rwa [show n + (b.length + 1) = n + 1 + b.length by omega]
theorem numOf_lt (b : List UInt8) (hb : b.length ≤ 8) : ∃ v : Nat, numOf (b.map byte) = (v : Int) ∧ v < 256 ^ b.length := by
  have := num_bound b 0 0 (by omega) (by simp)
  simpa [numOf] using this
theorem u64_nat (v : Int) : ∃ n : Nat, IntKind.u64.wrap v = (n : Int) ∧ n < 18446744073709551616 := by
  obtain ⟨h0, h1⟩ := u64_bounds v
  exact ⟨(IntKind.u64.wrap v).toNat, by omega, by omega⟩
theorem i64_of_u64 {v : Int} (h0 : -9223372036854775808 ≤ v) (h1 : v < 9223372036854775808) : IntKind.i64.wrap (IntKind.u64.wrap v) = v := by
  simp [IntKind.wrap, IntKind.signed, IntKind.bits]; omega
abbrev Rdr (α : Type) := List AV → Option (α × Nat)
def rU : Rdr Unit := fun _ => some ((), 0)
def rF : Rdr Unit := fun _ => none
def rN (n : Nat) : Rdr Int := fun s => if n ≤ s.length then some (numOf (s.take n), n) else none
def Rdr.mp {α β : Type} (f : α → β) (r : Rdr α) : Rdr β := fun s => (r s).map fun p => (f p.1, p.2)
def Rdr.an {α β : Type} (r : Rdr β) (r' : Rdr α) : Rdr (β × α) := fun s => (r s).bind fun p => (r' (s.drop p.2)).map fun q => ((p.1, q.1), p.2 + q.2)
def rI : Rdr Int := (rU.an (rN 8)).mp fun p => IntKind.i64.wrap p.2
def rTk (n : Nat) : Rdr (List AV) := fun s => if n ≤ s.length then some (s.take n, n) else none
def rB : Rdr (List AV) := fun s => (rN 4 s).bind fun p => (rTk p.1.toNat (s.drop 4)).map fun q => (q.1, 4 + q.2)
def rT : Rdr (List UInt8) := (rU.an rB).mp fun p => bytesOf p.2
def repR (r : Rdr AV) : Nat → Rdr (List AV)
  | 0 => fun _ => some ([], 0)
  | n + 1 => fun s => (r s).bind fun p => (repR r n (s.drop p.2)).map fun q => (p.1 :: q.1, p.2 + q.2)
def rL (r : Rdr AV) : Rdr (List AV) := fun s => (rN 4 s).bind fun p => (repR r p.1.toNat (s.drop 4)).map fun q => (q.1, 4 + q.2)
def Bys (A : List AV) : Prop := A.length < CAP ∧ ∃ b, A = List.map byte b
theorem Bys.cut {A : List AV} (h : Bys A) (k n : Nat) : ∃ b : List UInt8, (A.drop k).take n = b.map byte ∧ b.length ≤ n := by
  obtain ⟨-, b, rfl⟩ := h
  refine ⟨(b.drop k).take n, by simp, ?_⟩
  rw [List.length_take]; omega
theorem Bys.num {A : List AV} (h : Bys A) (k n : Nat) (hn : n ≤ 8) : ∃ v : Nat, numOf ((A.drop k).take n) = (v : Int) ∧ v < 256 ^ n := by
  obtain ⟨b, e, hl⟩ := h.cut k n
  obtain ⟨v, h1, h2⟩ := numOf_lt b (by omega)
  exact ⟨v, by rw [e, h1], Nat.lt_of_lt_of_le h2 (Nat.pow_le_pow_right (by omega) hl)⟩
section
variable {α β γ ρ ε : Type}
def Sim (ok bad : ε) (A : List AV) (k0 : Nat) (r : Rdr β) (b : β) (e : ε) (k : Int) : Prop :=
  ∃ k' : Nat, k = (k' : Int) ∧ k' ≤ A.length ∧ match r (A.drop k0) with
    | some (b', n) => b = b' ∧ e = ok ∧ k' = k0 + n
    | none => e = bad
def Rds (ok bad : ε) (f : ε → List AV → Int → Option ρ) (mk : α → ε → List AV → Int → ρ) (r : Rdr α) : Prop :=
  ∀ A, Bys A → ∀ k : Nat, k ≤ A.length →
    (match r (A.drop k) with
      | some (x, n) => k + n ≤ A.length ∧ f ok A (k : Int) = some (mk x ok A ((k + n : Nat) : Int))
      | none => ∃ x, ∃ k' : Nat, k' ≤ A.length ∧ f ok A (k : Int) = some (mk x bad A (k' : Int))) ∧
    ∃ x, ∃ k' : Nat, k' ≤ A.length ∧ f bad A (k : Int) = some (mk x bad A (k' : Int))
variable {ok bad : ε} {f : ε → List AV → Int → Option ρ} {mk : α → ε → List AV → Int → ρ} {r : Rdr α}
theorem Rds.step (H : Rds ok bad f mk r) {A : List AV} (hA : Bys A) {k0 : Nat} {r0 : Rdr β} {b : β} {e : ε} {k : Int} (S : Sim ok bad A k0 r0 b e k) :
    ∃ x e' k', f e A k = some (mk x e' A k') ∧ Sim ok bad A k0 (r0.an r) (b, x) e' k' := by
  obtain ⟨k', rfl, hk, S⟩ := S
  obtain ⟨h1, x2, k2, hk2, h2⟩ := H A hA k' hk
  cases h0 : r0 (A.drop k0) with
  | none =>
    rw [h0] at S
    subst S
    exact ⟨x2, _, _, h2, k2, rfl, hk2, by simp [Rdr.an, h0]⟩
  | some p =>
    obtain ⟨b', n⟩ := p
    rw [h0] at S
    obtain ⟨rfl, rfl, rfl⟩ := S
    cases h3 : r (A.drop (k0 + n)) with
    | none =>
      rw [h3] at h1
      obtain ⟨x, k3, hk3, h1⟩ := h1
      exact ⟨x, _, _, h1, k3, rfl, hk3, by simp [Rdr.an, h0, h3]⟩
    | some q =>
      obtain ⟨x, m⟩ := q
      rw [h3] at h1
      exact ⟨x, _, _, h1.2, k0 + n + m, rfl, h1.1, by simp [Rdr.an, h0, h3]; omega⟩
theorem Sim.ok0 {A : List AV} {k : Nat} (hk : k ≤ A.length) : Sim ok bad A k rU () ok (k : Int) := ⟨k, rfl, hk, by simp [rU]⟩
theorem Sim.bad0 {A : List AV} {k : Nat} (hk : k ≤ A.length) : Sim ok bad A k rF () bad (k : Int) := ⟨k, rfl, hk, by simp [rF]⟩
theorem Rds.of {C : Rdr Unit → Rdr γ} {g : γ → α} (hf : ∀ s, C rF s = none) (h : ∀ A, Bys A → ∀ (k0 : Nat) (r0 : Rdr Unit) (e : ε) (k : Int), Sim ok bad A k0 r0 () e k → ∃ x e' k', f e A k = some (mk (g x) e' A k') ∧ Sim ok bad A k0 (C r0) x e' k') :
    Rds ok bad f mk ((C rU).mp g) := by
  intro A hA k hk
  refine ⟨?_, ?_⟩
  · obtain ⟨x, e', k', h1, k2, rfl, hk2, h2⟩ := h A hA k rU ok k (Sim.ok0 hk)
    cases h3 : C rU (A.drop k) with
    | none =>
      rw [h3] at h2
      subst h2
      simp only [Rdr.mp, h3, Option.map_none]
      exact ⟨_, _, hk2, h1⟩
    | some p =>
      obtain ⟨b, n⟩ := p
      rw [h3] at h2
      obtain ⟨rfl, rfl, rfl⟩ := h2
      simp only [Rdr.mp, h3, Option.map_some]
      exact ⟨hk2, h1⟩
  · obtain ⟨x, e', k', h1, k2, rfl, hk2, h2⟩ := h A hA k rF bad k (Sim.bad0 hk)
    rw [hf] at h2
    subst h2
    exact ⟨_, _, hk2, h1⟩
end
theorem mp_id {α : Type} (r : Rdr α) : (r.mp fun p => p) = r := by
  funext s
  unfold Rdr.mp
  cases r s <;> rfl
theorem Rds.of' {γ ρ ε : Type} {ok bad : ε} {f : ε → List AV → Int → Option ρ} {mk : γ → ε → List AV → Int → ρ} {C : Rdr Unit → Rdr γ} (hf : ∀ s, C rF s = none) (h : ∀ A, Bys A → ∀ (k0 : Nat) (r0 : Rdr Unit) (e : ε) (k : Int), Sim ok bad A k0 r0 () e k → ∃ x e' k', f e A k = some (mk x e' A k') ∧ Sim ok bad A k0 (C r0) x e' k') :
    Rds ok bad f mk (C rU) := by
  have := Rds.of (g := fun p => p) (mk := mk) hf h
  rwa [mp_id] at this
def RT {α : Type} (r : Rdr α) (W : List AV) (x : α) : Prop := (∀ R, r (W ++ R) = some (x, W.length)) ∧ ∀ j, j < W.length → r (W.take j) = none
theorem RT.u : RT rU [] () := ⟨fun R => rfl, fun j h => by simp at h⟩
theorem RT.an {α β : Type} {r : Rdr β} {r' : Rdr α} {W W' : List AV} {b : β} {x : α} (h : RT r W b) (h' : RT r' W' x) : RT (r.an r') (W ++ W') (b, x) := by
  refine ⟨fun R => ?_, fun j hj => ?_⟩
  · rw [List.append_assoc]
    simp [Rdr.an, h.1, h'.1]
  · rw [List.length_append] at hj
    rw [List.take_append]
    by_cases hjw : j < W.length
    · rw [show j - W.length = 0 by omega]
      simp [Rdr.an, h.2 j hjw]
    · rw [List.take_of_length_le (by omega)]
      simp only [Rdr.an, h.1, Option.bind_some, List.drop_left, h'.2 _ (show j - W.length < W'.length by omega), Option.map_none]
theorem RT.mp {α β : Type} {r : Rdr α} {W : List AV} {x : α} (f : α → β) (h : RT r W x) : RT (r.mp f) W (f x) :=
  ⟨fun R => by simp [Rdr.mp, h.1], fun j hj => by simp [Rdr.mp, h.2 j hj]⟩
theorem RT.n (v n : Nat) (hn : n ≤ 8) (hv : v < 256 ^ n) : RT (rN n) (bex (v : Int) n) (v : Int) := by
  refine ⟨fun R => ?_, fun j hj => ?_⟩
  · simp only [rN, List.length_append, length_bex]
    rw [if_pos (by omega), List.take_left' (length_bex _ _), numOf_bex v n hn, Nat.mod_eq_of_lt hv]
  · rw [length_bex] at hj
    simp only [rN, List.length_take, length_bex]
    rw [if_neg (by omega)]
theorem RT.i {v : Int} (h0 : -9223372036854775808 ≤ v) (h1 : v < 9223372036854775808) : RT rI (bex (IntKind.u64.wrap v) 8) v := by
  obtain ⟨n, hn, hl⟩ := u64_nat v
  have := (RT.u.an (RT.n n 8 (by omega) hl)).mp fun p : Unit × Int => IntKind.i64.wrap p.2
  simp only [← hn, i64_of_u64 h0 h1, List.nil_append] at this
  exact this
theorem RT.n8 {v : Int} (h0 : 0 ≤ v) (h1 : v < 18446744073709551616) : RT (rN 8) (bex v 8) v := by
  have := RT.n v.toNat 8 (by omega) (by omega)
  rwa [Int.toNat_of_nonneg h0] at this
theorem RT.b (D : List AV) (hD : D.length < 4294967296) : RT rB (bex (IntKind.u64.wrap (D.length : Int)) 4 ++ D) D := by
  rw [u64_wrap (by omega) (by omega)]
  have k := RT.n D.length 4 (by omega) (by omega)
  refine ⟨fun R => ?_, fun j hj => ?_⟩
  · rw [List.append_assoc]
    simp only [rB, k.1, Option.bind_some, Int.toNat_natCast]
    rw [List.drop_left' (length_bex _ _)]
    simp only [rTk, List.length_append]
    rw [if_pos (by omega), List.take_left' rfl]
    simp [length_bex]
  · rw [List.length_append, length_bex] at hj
    rw [List.take_append, length_bex]
    by_cases hj4 : j < 4
    · rw [show j - 4 = 0 by omega]
      simp [rB, k.2 j (by rw [length_bex]; exact hj4)]
    · rw [List.take_of_length_le (by rw [length_bex]; omega)]
      simp only [rB, k.1, Option.bind_some, Int.toNat_natCast]
      rw [List.drop_left' (length_bex _ _)]
      simp only [rTk, List.length_take]
      rw [if_neg (by omega)]
      rfl
theorem bytesOf_byte (s : List UInt8) : bytesOf (s.map byte) = s := bytesOf_bl s
theorem RT.t (s : List UInt8) (hs : s.length < 4294967296) : RT rT (textW (.str s)) s := by
  have := (RT.u.an (RT.b (s.map byte) (by rw [List.length_map]; exact hs))).mp fun p : Unit × List AV => bytesOf p.2
  simp only [List.length_map, bytesOf_byte, List.nil_append] at this
  exact this
theorem RT.rep {r : Rdr AV} {W N : AV → _} : ∀ (l : List AV), (∀ x ∈ l, RT r (W x) (N x)) → RT (repR r l.length) (l.flatMap W) (l.map N)
  | [], _ => ⟨fun R => rfl, fun j h => by simp at h⟩
  | x :: l, h => by
    have h1 := h x List.mem_cons_self
    have h2 := RT.rep (r := r) (W := W) (N := N) l fun y hy => h y (List.mem_cons_of_mem _ hy)
    have k := (h1.an h2).mp fun p : AV × List AV => p.1 :: p.2
    refine ⟨fun R => ?_, fun j hj => ?_⟩
    · have := k.1 R
      simp only [Rdr.mp, Rdr.an, Option.map_bind] at this
      simp only [List.length_cons, repR, List.flatMap_cons, List.map_cons]
      rw [← this]
      congr 1
      funext p
      simp [Function.comp_def]
    · have := k.2 j hj
      simp only [Rdr.mp, Rdr.an, Option.map_bind] at this
      simp only [List.length_cons, repR, List.flatMap_cons]
      rw [← this]
      congr 1
      funext p
      simp [Function.comp_def]
theorem RT.l {r : Rdr AV} {W N : AV → _} (l : List AV) (hl : l.length < 4294967296) (h : ∀ x ∈ l, RT r (W x) (N x)) : RT (rL r) (listW W l) (l.map N) := by
  have k := (RT.n l.length 4 (by omega) (by omega)).an (RT.rep l h)
  unfold listW
  rw [u64_wrap (by omega) (by omega)]
  refine ⟨fun R => ?_, fun j hj => ?_⟩
  · simp only [rL, List.append_assoc, (RT.n l.length 4 (by omega) (by omega)).1, Option.bind_some, Int.toNat_natCast]
    rw [List.drop_left' (length_bex _ _), (RT.rep l h).1]
    simp [length_bex]
  · rw [List.length_append, length_bex] at hj
    rw [List.take_append, length_bex]
    by_cases hj4 : j < 4
    · rw [show j - 4 = 0 by omega]
      simp [rL, (RT.n l.length 4 (by omega) (by omega)).2 j (by rw [length_bex]; exact hj4)]
    · rw [List.take_of_length_le (by rw [length_bex]; omega)]
      simp only [rL, (RT.n l.length 4 (by omega) (by omega)).1, Option.bind_some, Int.toNat_natCast]
      rw [List.drop_left' (length_bex _ _), (RT.rep l h).2 _ (by omega)]
      rfl
def rTagP : Rdr ((Unit × Int) × List AV) := (rU.an rI).an rB
def tagV (x : (Unit × Int) × List AV) : AV := .agg [.int .i64 x.1.2, .slice 1 (.int .u8) x.2 .ro]
def rTag : Rdr AV := rTagP.mp tagV
def rPairP : Rdr ((Unit × List UInt8) × List UInt8) := (rU.an rT).an rT
def pairV (x : (Unit × List UInt8) × List UInt8) : AV := .agg [.str x.1.2, .str x.2]
def rPair : Rdr AV := rPairP.mp pairV
theorem rN_pos {n : Nat} (h0 : 1 ≤ n) {s : List AV} {x : Int} {m : Nat} (h : rN n s = some (x, m)) : 1 ≤ m := by
  unfold rN at h
  split at h <;> simp at h
  omega
theorem rB_pos {s : List AV} {x : List AV} {m : Nat} (h : rB s = some (x, m)) : 1 ≤ m := by
  unfold rB at h
  simp only [Option.bind_eq_some_iff, Option.map_eq_some_iff, Prod.mk.injEq] at h
  obtain ⟨_, _, _, _, _, h⟩ := h
  omega
theorem an_pos {α β : Type} {r : Rdr β} {r' : Rdr α} (hr : ∀ {s x m}, r' s = some (x, m) → 1 ≤ m) {s : List AV} {x : β × α} {m : Nat} (h : r.an r' s = some (x, m)) : 1 ≤ m := by
  unfold Rdr.an at h
  simp only [Option.bind_eq_some_iff, Option.map_eq_some_iff, Prod.mk.injEq] at h
  obtain ⟨_, _, _, h1, _, h⟩ := h
  have := hr h1
  omega
theorem mp_pos {α β : Type} {r : Rdr α} {f : α → β} (hr : ∀ {s x m}, r s = some (x, m) → 1 ≤ m) {s : List AV} {x : β} {m : Nat} (h : r.mp f s = some (x, m)) : 1 ≤ m := by
  unfold Rdr.mp at h
  simp only [Option.map_eq_some_iff, Prod.mk.injEq] at h
  obtain ⟨_, h1, _, rfl⟩ := h
  exact hr h1
theorem rTagP_pos {s x m} (h : rTagP s = some (x, m)) : 1 ≤ m := an_pos rB_pos h
theorem rPairP_pos {s x m} (h : rPairP s = some (x, m)) : 1 ≤ m := an_pos (mp_pos (an_pos rB_pos)) h
def rMsg := (((((((((((((((((((((rU.an rI).an rI).an rT).an rT).an rT).an rT).an (rN 8)).an rT).an rT).an rT).an rT).an rI).an rT).an rT).an rI).an rT).an (rL rTag)).an rT).an rT).an (rL rPair)).an (rL rTag))
def rRes := (((((rU.an rT).an rT).an rT).an (rL rPair)).an (rL rTag))
theorem pnum_rds (n : Nat) (h1 : 1 ≤ n) (h8 : n ≤ 8) : Rds (0 : Int) 3 (fun e A k => g_pack_reader_number_p05p0 (n : Int) e A k) (fun x e A k => (x, e, A, k)) (rN n) := by
  intro A hA k hk
  have hl := hA.1
  unfold CAP at hl
  have p := Number_eq (n : Int) A k hk (by omega)
  rw [if_neg (by omega), if_neg (by omega)] at p
  refine ⟨?_, 0, k, hk, ?_⟩
  · simp only [rN, List.length_drop]
    by_cases h : n ≤ A.length - k
    · rw [if_neg (by omega), Int.toNat_natCast] at p
      rw [if_pos h]
      refine ⟨by omega, ?_⟩
      unfold g_pack_reader_number_p05p0
      simp only [T_pack_reader_number_p05p0, Tr.val_c, Tr.val_r, val_opt, p, bne_self_eq_false, Option.bind_some, cond_false, Int.natCast_add]
    · rw [if_pos (by omega)] at p
      rw [if_neg h]
      refine ⟨0, k, hk, ?_⟩
      unfold g_pack_reader_number_p05p0
      simp only [T_pack_reader_number_p05p0, Tr.val_c, Tr.val_r, val_opt, p, bne_self_eq_false, Option.bind_some, cond_false]
  · unfold g_pack_reader_number_p05p0
    simp only [T_pack_reader_number_p05p0, Tr.val_c, Tr.val_r, val_opt]
    rfl
theorem pnum8_rds : Rds (0 : Int) 3 (fun e A k => g_pack_reader_number_p05p0 8 e A k) (fun x e A k => (x, e, A, k)) (rN 8) := pnum_rds 8 (by omega) (by omega)
theorem pnum4_rds : Rds (0 : Int) 3 (fun e A k => g_pack_reader_number_p05p0 4 e A k) (fun x e A k => (x, e, A, k)) (rN 4) := pnum_rds 4 (by omega) (by omega)
theorem pbytes_rds : Rds (0 : Int) 3 (fun e A k => g_pack_reader_bytes_p5p0 e A k) (fun x e A k => (x, e, A, k)) rB := by
  intro A hA k hk
  obtain ⟨h1, x2, k2, hk2, h2⟩ := pnum4_rds A hA k hk
  simp only at h1 h2
  have hl := hA.1
  unfold CAP at hl
  refine ⟨?_, [], k2, hk2, ?_⟩
  · unfold rB
    cases h3 : rN 4 (A.drop k) with
    | none =>
      rw [h3] at h1
      obtain ⟨x, k', hk', h1⟩ := h1
      refine ⟨[], k', hk', ?_⟩
      unfold g_pack_reader_bytes_p5p0
      simp only [T_pack_reader_bytes_p5p0, Tr.val_c, Tr.val_r, val_opt, h1, Option.bind_some]
      rfl
    | some q =>
      obtain ⟨v, m⟩ := q
      rw [h3] at h1
      obtain ⟨h4, h1⟩ := h1
      have hm : m = 4 ∧ v = numOf ((A.drop k).take 4) := by
        unfold rN at h3
        split at h3
        · simp only [Option.some.injEq, Prod.mk.injEq] at h3; exact ⟨h3.2.symm, h3.1.symm⟩
        · simp at h3
      obtain ⟨rfl, hv⟩ := hm
      obtain ⟨n, hn, hlt⟩ := hA.num k 4 (by omega)
      rw [← hv] at hn
      subst hn
      have t := Take_eq (n : Int) A (k + 4) h4 (by omega)
      rw [if_neg (by omega), Int.toNat_natCast] at t
      have w : IntKind.i64.wrap (n : Int) = (n : Int) := i64_wrap (by omega) (by omega)
      simp only [Option.bind_some, Int.toNat_natCast, List.drop_drop, rTk, List.length_drop]
      by_cases hc : n ≤ A.length - (k + 4)
      · rw [if_neg (by omega)] at t
        rw [if_pos hc]
        refine ⟨by omega, ?_⟩
        show g_pack_reader_bytes_p5p0 0 A (k : Int) = _
        unfold g_pack_reader_bytes_p5p0
        simp only [T_pack_reader_bytes_p5p0, Tr.val_c, Tr.val_r, val_opt, h1, w, t, bne_self_eq_false, Option.bind_some, cond_false]
        simp only [Int.natCast_add, Int.add_assoc]
      · rw [if_pos (by omega)] at t
        rw [if_neg hc]
        refine ⟨[], k + 4, h4, ?_⟩
        show g_pack_reader_bytes_p5p0 0 A (k : Int) = _
        unfold g_pack_reader_bytes_p5p0
        simp only [T_pack_reader_bytes_p5p0, Tr.val_c, Tr.val_r, val_opt, h1, w, t, bne_self_eq_false, Option.bind_some, cond_false]
  · unfold g_pack_reader_bytes_p5p0
    simp only [T_pack_reader_bytes_p5p0, Tr.val_c, Tr.val_r, val_opt, h2, Option.bind_some]
    rfl
theorem pint_rds : Rds (0 : Int) 3 (fun e A k => g_pack_reader_int_p5p0 e A k) (fun x e A k => (x, e, A, k)) rI :=
  Rds.of (C := fun r0 => (r0.an (rN 8))) (g := fun p => IntKind.i64.wrap p.2) (fun s => by simp [Rdr.an, rF]) fun A hA k0 r0 e k S => by
    obtain ⟨x0, e0, k0, h0, S⟩ := pnum8_rds.step hA S
    refine ⟨_, _, _, ?_, S⟩
    show g_pack_reader_int_p5p0 e A k = _
    unfold g_pack_reader_int_p5p0
    simp only [T_pack_reader_int_p5p0, Tr.val_c, Tr.val_r, val_opt, h0, Option.bind_some]
theorem ptext_rds : Rds (0 : Int) 3 (fun e A k => g_pack_reader_text_p5p0 e A k) (fun x e A k => (x, e, A, k)) rT :=
  Rds.of (C := fun r0 => (r0.an rB)) (g := fun p => bytesOf p.2) (fun s => by simp [Rdr.an, rF]) fun A hA k0 r0 e k S => by
    obtain ⟨x0, e0, k0, h0, S⟩ := pbytes_rds.step hA S
    refine ⟨_, _, _, ?_, S⟩
    show g_pack_reader_text_p5p0 e A k = _
    unfold g_pack_reader_text_p5p0
    simp only [T_pack_reader_text_p5p0, Tr.val_c, Tr.val_r, val_opt, h0, Option.bind_some]
theorem ptag_rds : Rds (0 : Int) 3 (fun e A k => g_pack_reader_tag_p5p0 e A k) (fun p e A k => (p.1.2, p.2, e, A, k)) rTagP :=
  Rds.of' (C := fun r0 => ((r0.an rI).an rB))  (fun s => by simp [Rdr.an, rF]) fun A hA k0 r0 e k S => by
    obtain ⟨x0, e0, k0, h0, S⟩ := pint_rds.step hA S
    obtain ⟨x1, e1, k1, h1, S⟩ := pbytes_rds.step hA S
    refine ⟨_, _, _, ?_, S⟩
    show g_pack_reader_tag_p5p0 e A k = _
    unfold g_pack_reader_tag_p5p0
    simp only [T_pack_reader_tag_p5p0, Tr.val_c, Tr.val_r, val_opt, h0, h1, Option.bind_some]
theorem pelement_rds : Rds (0 : Int) 3 (fun e A k => g_pack_reader_element_p5p0 e A k) (fun p e A k => (p.1.2, p.2, e, A, k)) rTagP :=
  Rds.of' (C := fun r0 => ((r0.an rI).an rB))  (fun s => by simp [Rdr.an, rF]) fun A hA k0 r0 e k S => by
    obtain ⟨x0, e0, k0, h0, S⟩ := pint_rds.step hA S
    obtain ⟨x1, e1, k1, h1, S⟩ := pbytes_rds.step hA S
    refine ⟨_, _, _, ?_, S⟩
    show g_pack_reader_element_p5p0 e A k = _
    unfold g_pack_reader_element_p5p0
    simp only [T_pack_reader_element_p5p0, Tr.val_c, Tr.val_r, val_opt, h0, h1, Option.bind_some]
theorem ppair_rds : Rds (0 : Int) 3 (fun e A k => g_pack_reader_pair_p5p0 e A k) (fun p e A k => (p.1.2, p.2, e, A, k)) rPairP :=
  Rds.of' (C := fun r0 => ((r0.an rT).an rT))  (fun s => by simp [Rdr.an, rF]) fun A hA k0 r0 e k S => by
    obtain ⟨x0, e0, k0, h0, S⟩ := ptext_rds.step hA S
    obtain ⟨x1, e1, k1, h1, S⟩ := ptext_rds.step hA S
    refine ⟨_, _, _, ?_, S⟩
    show g_pack_reader_pair_p5p0 e A k = _
    unfold g_pack_reader_pair_p5p0
    simp only [T_pack_reader_pair_p5p0, Tr.val_c, Tr.val_r, val_opt, h0, h1, Option.bind_some]
theorem ptags_loop {A : List AV} (hA : Bys A) (e0 : Int) (A0 : List AV) (p0 : Int) : ∀ (n : Nat) (acc : List AV) (k : Nat), k ≤ A.length → n < 4294967296 → acc.length ≤ k →
    match repR (rTagP.mp tagV) n (A.drop k) with
    | some (xs, m) => k + m ≤ A.length ∧ run (M_pack_items_api_Tag_pftag_5p0p5p0 e0 A0 p0) (M_pack_items_api_Tag_pftag_5p0p5p0 e0 A0 p0 ((n : Int), 0, A, (k : Int), acc)) = some (acc ++ xs, 0, A, ((k + m : Nat) : Int))
    | none => ∃ x, ∃ k' : Nat, k' ≤ A.length ∧ run (M_pack_items_api_Tag_pftag_5p0p5p0 e0 A0 p0) (M_pack_items_api_Tag_pftag_5p0p5p0 e0 A0 p0 ((n : Int), 0, A, (k : Int), acc)) = some (x, 3, A, (k' : Int))
  | 0, acc, k, hk, _, _ => by
    simp only [repR]
    refine ⟨hk, ?_⟩
    rw [run_inr (x := (acc, 0, A, (k : Int)))]
    · simp
    · simp only [M_pack_items_api_Tag_pftag_5p0p5p0, Tr.val_c, Tr.val_r, beq_self_eq_true, cond_true]
      rfl
  | n + 1, acc, k, hk, hn, hacc => by
    have hl := hA.1
    unfold CAP at hl
    obtain ⟨h1, -⟩ := ptag_rds A hA k hk
    have w : IntKind.u64.wrap (((n + 1 : Nat) : Int) - 1) = (n : Int) := by rw [u64_wrap (by omega) (by omega)]; omega
    have q : ((n + 1 : Nat) : Int) > 0 := by omega
    have b : ∀ y : AV, (acc ++ [y]).length * 33 < 70368744177664 := fun y => by simp only [List.length_append, List.length_cons, List.length_nil]; omega
    simp only [repR]
    cases h2 : rTagP (A.drop k) with
    | none =>
      rw [h2] at h1
      obtain ⟨x, k', hk', h1⟩ := h1
      simp only at h1
      simp only [Rdr.mp, h2, Option.map_none, Option.bind_none]
      have s1 : (M_pack_items_api_Tag_pftag_5p0p5p0 e0 A0 p0 (((n + 1 : Nat) : Int), 0, A, (k : Int), acc)).val = some (.inl ((n : Int), 3, A, (k' : Int), acc ++ [.agg [.int .i64 x.1.2, .slice 1 (.int .u8) x.2 .ro]])) := by
        simp only [M_pack_items_api_Tag_pftag_5p0p5p0, Tr.val_c, Tr.val_r, val_opt, h1, q, w, b, decide_true, beq_self_eq_true, Option.bind_some, cond_true]
      refine ⟨acc ++ [.agg [.int .i64 x.1.2, .slice 1 (.int .u8) x.2 .ro]], k', hk', ?_⟩
      rw [run_inl s1, run_inr (x := (acc ++ [.agg [.int .i64 x.1.2, .slice 1 (.int .u8) x.2 .ro]], 3, A, (k' : Int)))]
      have e3 : ((3 : Int) == 0) = false := rfl
      simp only [M_pack_items_api_Tag_pftag_5p0p5p0, Tr.val_c, Tr.val_r, beq_self_eq_true, e3, cond_true, cond_false]
      cases decide ((n : Int) > 0) <;> rfl
    | some pr =>
      obtain ⟨x, m⟩ := pr
      rw [h2] at h1
      obtain ⟨hk', h1⟩ := h1
      simp only at h1
      have hm : 1 ≤ m := rTagP_pos h2
      simp only [Rdr.mp, h2, Option.map_some, Option.bind_some, List.drop_drop]
      have s1 : (M_pack_items_api_Tag_pftag_5p0p5p0 e0 A0 p0 (((n + 1 : Nat) : Int), 0, A, (k : Int), acc)).val = some (.inl ((n : Int), 0, A, ((k + m : Nat) : Int), acc ++ [tagV x])) := by
        simp only [M_pack_items_api_Tag_pftag_5p0p5p0, Tr.val_c, Tr.val_r, val_opt, h1, q, w, b, decide_true, beq_self_eq_true, Option.bind_some, cond_true, tagV]
      have ih := ptags_loop hA e0 A0 p0 n (acc ++ [tagV x]) (k + m) hk' (by omega) (by simp only [List.length_append, List.length_cons, List.length_nil]; omega)
      rw [run_inl s1]
      cases h4 : repR (rTagP.mp tagV) n (A.drop (k + m)) with
      | none => rw [h4] at ih; exact ih
      | some q2 =>
        obtain ⟨xs, m2⟩ := q2
        rw [h4] at ih
        refine ⟨by simp only; omega, ?_⟩
        rw [ih.2, Nat.add_assoc]
        simp
theorem ptags_rds : Rds (0 : Int) 3 (fun e A k => g_pack_items_api_Tag_pftag_5p0p5p0 e A k) (fun x e A k => (x, e, A, k)) (rL (rTagP.mp tagV)) := by
  intro A hA k hk
  obtain ⟨h1, x2, k2, hk2, h2⟩ := pnum4_rds A hA k hk
  simp only at h1 h2
  have e3 : ((3 : Int) == 0) = false := rfl
  have out3 : ∀ (v : Int) (k' : Nat), run (M_pack_items_api_Tag_pftag_5p0p5p0 0 A k) (M_pack_items_api_Tag_pftag_5p0p5p0 0 A k (v, 3, A, (k' : Int), [])) = some ([], 3, A, (k' : Int)) := fun v k' => run_inr (by
    simp only [M_pack_items_api_Tag_pftag_5p0p5p0, Tr.val_c, Tr.val_r, beq_self_eq_true, e3, cond_true, cond_false]
    cases decide (v > 0) <;> rfl)
  have out3' : ∀ (v : Int) (k' : Nat), run (M_pack_items_api_Tag_pftag_5p0p5p0 3 A k) (M_pack_items_api_Tag_pftag_5p0p5p0 3 A k (v, 3, A, (k' : Int), [])) = some ([], 3, A, (k' : Int)) := fun v k' => run_inr (by
    simp only [M_pack_items_api_Tag_pftag_5p0p5p0, Tr.val_c, Tr.val_r, beq_self_eq_true, e3, cond_true, cond_false]
    cases decide (v > 0) <;> rfl)
  refine ⟨?_, [], k2, hk2, ?_⟩
  · unfold rL
    cases h3 : rN 4 (A.drop k) with
    | none =>
      rw [h3] at h1
      obtain ⟨x, k', hk', h1⟩ := h1
      refine ⟨[], k', hk', ?_⟩
      show g_pack_items_api_Tag_pftag_5p0p5p0 0 A (k : Int) = _
      unfold g_pack_items_api_Tag_pftag_5p0p5p0
      rw [run_inl (s := (x, 3, A, (k' : Int), [])) (by simp only [T_pack_items_api_Tag_pftag_5p0p5p0, Tr.val_c, Tr.val_r, val_opt, h1, Option.bind_some]), out3]
    | some q =>
      obtain ⟨v, m⟩ := q
      rw [h3] at h1
      obtain ⟨h4, h1⟩ := h1
      have hm : m = 4 ∧ v = numOf ((A.drop k).take 4) := by
        unfold rN at h3
        split at h3
        · simp only [Option.some.injEq, Prod.mk.injEq] at h3; exact ⟨h3.2.symm, h3.1.symm⟩
        · simp at h3
      obtain ⟨rfl, hv⟩ := hm
      obtain ⟨n, hn, hlt⟩ := hA.num k 4 (by omega)
      rw [← hv] at hn
      subst hn
      have L := ptags_loop hA 0 A (k : Int) n [] (k + 4) h4 (by omega) (by simp)
      have R : g_pack_items_api_Tag_pftag_5p0p5p0 0 A (k : Int) = run (M_pack_items_api_Tag_pftag_5p0p5p0 0 A k) (M_pack_items_api_Tag_pftag_5p0p5p0 0 A k ((n : Int), 0, A, ((k + 4 : Nat) : Int), [])) := by
        unfold g_pack_items_api_Tag_pftag_5p0p5p0
        rw [run_inl (s := ((n : Int), 0, A, ((k + 4 : Nat) : Int), [])) (by simp only [T_pack_items_api_Tag_pftag_5p0p5p0, Tr.val_c, Tr.val_r, val_opt, h1, Option.bind_some])]
      simp only [Option.bind_some, Int.toNat_natCast, List.drop_drop]
      cases h5 : repR (rTagP.mp tagV) n (A.drop (k + 4)) with
      | none =>
        rw [h5] at L
        obtain ⟨x, k', hk', L⟩ := L
        exact ⟨x, k', hk', R.trans L⟩
      | some q =>
        obtain ⟨xs, m⟩ := q
        rw [h5] at L
        refine ⟨by simp only; omega, ?_⟩
        show g_pack_items_api_Tag_pftag_5p0p5p0 0 A (k : Int) = _
        rw [R, L.2, Nat.add_assoc]
        rfl
  · show g_pack_items_api_Tag_pftag_5p0p5p0 3 A (k : Int) = _
    unfold g_pack_items_api_Tag_pftag_5p0p5p0
    rw [run_inl (s := (x2, 3, A, (k2 : Int), [])) (by simp only [T_pack_items_api_Tag_pftag_5p0p5p0, Tr.val_c, Tr.val_r, val_opt, h2, Option.bind_some]), out3']
theorem pelements_loop {A : List AV} (hA : Bys A) (e0 : Int) (A0 : List AV) (p0 : Int) : ∀ (n : Nat) (acc : List AV) (k : Nat), k ≤ A.length → n < 4294967296 → acc.length ≤ k →
    match repR (rTagP.mp tagV) n (A.drop k) with
    | some (xs, m) => k + m ≤ A.length ∧ run (M_pack_items_api_Element_pfelement_5p0p5p0 e0 A0 p0) (M_pack_items_api_Element_pfelement_5p0p5p0 e0 A0 p0 ((n : Int), 0, A, (k : Int), acc)) = some (acc ++ xs, 0, A, ((k + m : Nat) : Int))
    | none => ∃ x, ∃ k' : Nat, k' ≤ A.length ∧ run (M_pack_items_api_Element_pfelement_5p0p5p0 e0 A0 p0) (M_pack_items_api_Element_pfelement_5p0p5p0 e0 A0 p0 ((n : Int), 0, A, (k : Int), acc)) = some (x, 3, A, (k' : Int))
  | 0, acc, k, hk, _, _ => by
    simp only [repR]
    refine ⟨hk, ?_⟩
    rw [run_inr (x := (acc, 0, A, (k : Int)))]
    · simp
    · simp only [M_pack_items_api_Element_pfelement_5p0p5p0, Tr.val_c, Tr.val_r, beq_self_eq_true, cond_true]
      rfl
  | n + 1, acc, k, hk, hn, hacc => by
    have hl := hA.1
    unfold CAP at hl
    obtain ⟨h1, -⟩ := pelement_rds A hA k hk
    have w : IntKind.u64.wrap (((n + 1 : Nat) : Int) - 1) = (n : Int) := by rw [u64_wrap (by omega) (by omega)]; omega
    have q : ((n + 1 : Nat) : Int) > 0 := by omega
    have b : ∀ y : AV, (acc ++ [y]).length * 33 < 70368744177664 := fun y => by simp only [List.length_append, List.length_cons, List.length_nil]; omega
    simp only [repR]
    cases h2 : rTagP (A.drop k) with
    | none =>
      rw [h2] at h1
      obtain ⟨x, k', hk', h1⟩ := h1
      simp only at h1
      simp only [Rdr.mp, h2, Option.map_none, Option.bind_none]
      have s1 : (M_pack_items_api_Element_pfelement_5p0p5p0 e0 A0 p0 (((n + 1 : Nat) : Int), 0, A, (k : Int), acc)).val = some (.inl ((n : Int), 3, A, (k' : Int), acc ++ [.agg [.int .i64 x.1.2, .slice 1 (.int .u8) x.2 .ro]])) := by
        simp only [M_pack_items_api_Element_pfelement_5p0p5p0, Tr.val_c, Tr.val_r, val_opt, h1, q, w, b, decide_true, beq_self_eq_true, Option.bind_some, cond_true]
      refine ⟨acc ++ [.agg [.int .i64 x.1.2, .slice 1 (.int .u8) x.2 .ro]], k', hk', ?_⟩
      rw [run_inl s1, run_inr (x := (acc ++ [.agg [.int .i64 x.1.2, .slice 1 (.int .u8) x.2 .ro]], 3, A, (k' : Int)))]
      have e3 : ((3 : Int) == 0) = false := rfl
      simp only [M_pack_items_api_Element_pfelement_5p0p5p0, Tr.val_c, Tr.val_r, beq_self_eq_true, e3, cond_true, cond_false]
      cases decide ((n : Int) > 0) <;> rfl
    | some pr =>
      obtain ⟨x, m⟩ := pr
      rw [h2] at h1
      obtain ⟨hk', h1⟩ := h1
      simp only at h1
      have hm : 1 ≤ m := rTagP_pos h2
      simp only [Rdr.mp, h2, Option.map_some, Option.bind_some, List.drop_drop]
      have s1 : (M_pack_items_api_Element_pfelement_5p0p5p0 e0 A0 p0 (((n + 1 : Nat) : Int), 0, A, (k : Int), acc)).val = some (.inl ((n : Int), 0, A, ((k + m : Nat) : Int), acc ++ [tagV x])) := by
        simp only [M_pack_items_api_Element_pfelement_5p0p5p0, Tr.val_c, Tr.val_r, val_opt, h1, q, w, b, decide_true, beq_self_eq_true, Option.bind_some, cond_true, tagV]
      have ih := pelements_loop hA e0 A0 p0 n (acc ++ [tagV x]) (k + m) hk' (by omega) (by simp only [List.length_append, List.length_cons, List.length_nil]; omega)
      rw [run_inl s1]
      cases h4 : repR (rTagP.mp tagV) n (A.drop (k + m)) with
      | none => rw [h4] at ih; exact ih
      | some q2 =>
        obtain ⟨xs, m2⟩ := q2
        rw [h4] at ih
        refine ⟨by simp only; omega, ?_⟩
        rw [ih.2, Nat.add_assoc]
        simp
theorem pelements_rds : Rds (0 : Int) 3 (fun e A k => g_pack_items_api_Element_pfelement_5p0p5p0 e A k) (fun x e A k => (x, e, A, k)) (rL (rTagP.mp tagV)) := by
  intro A hA k hk
  obtain ⟨h1, x2, k2, hk2, h2⟩ := pnum4_rds A hA k hk
  simp only at h1 h2
  have e3 : ((3 : Int) == 0) = false := rfl
  have out3 : ∀ (v : Int) (k' : Nat), run (M_pack_items_api_Element_pfelement_5p0p5p0 0 A k) (M_pack_items_api_Element_pfelement_5p0p5p0 0 A k (v, 3, A, (k' : Int), [])) = some ([], 3, A, (k' : Int)) := fun v k' => run_inr (by
    simp only [M_pack_items_api_Element_pfelement_5p0p5p0, Tr.val_c, Tr.val_r, beq_self_eq_true, e3, cond_true, cond_false]
    cases decide (v > 0) <;> rfl)
  have out3' : ∀ (v : Int) (k' : Nat), run (M_pack_items_api_Element_pfelement_5p0p5p0 3 A k) (M_pack_items_api_Element_pfelement_5p0p5p0 3 A k (v, 3, A, (k' : Int), [])) = some ([], 3, A, (k' : Int)) := fun v k' => run_inr (by
    simp only [M_pack_items_api_Element_pfelement_5p0p5p0, Tr.val_c, Tr.val_r, beq_self_eq_true, e3, cond_true, cond_false]
    cases decide (v > 0) <;> rfl)
  refine ⟨?_, [], k2, hk2, ?_⟩
  · unfold rL
    cases h3 : rN 4 (A.drop k) with
    | none =>
      rw [h3] at h1
      obtain ⟨x, k', hk', h1⟩ := h1
      refine ⟨[], k', hk', ?_⟩
      show g_pack_items_api_Element_pfelement_5p0p5p0 0 A (k : Int) = _
      unfold g_pack_items_api_Element_pfelement_5p0p5p0
      rw [run_inl (s := (x, 3, A, (k' : Int), [])) (by simp only [T_pack_items_api_Element_pfelement_5p0p5p0, Tr.val_c, Tr.val_r, val_opt, h1, Option.bind_some]), out3]
    | some q =>
      obtain ⟨v, m⟩ := q
      rw [h3] at h1
      obtain ⟨h4, h1⟩ := h1
      have hm : m = 4 ∧ v = numOf ((A.drop k).take 4) := by
        unfold rN at h3
        split at h3
        · simp only [Option.some.injEq, Prod.mk.injEq] at h3; exact ⟨h3.2.symm, h3.1.symm⟩
        · simp at h3
      obtain ⟨rfl, hv⟩ := hm
      obtain ⟨n, hn, hlt⟩ := hA.num k 4 (by omega)
      rw [← hv] at hn
      subst hn
      have L := pelements_loop hA 0 A (k : Int) n [] (k + 4) h4 (by omega) (by simp)
      have R : g_pack_items_api_Element_pfelement_5p0p5p0 0 A (k : Int) = run (M_pack_items_api_Element_pfelement_5p0p5p0 0 A k) (M_pack_items_api_Element_pfelement_5p0p5p0 0 A k ((n : Int), 0, A, ((k + 4 : Nat) : Int), [])) := by
        unfold g_pack_items_api_Element_pfelement_5p0p5p0
        rw [run_inl (s := ((n : Int), 0, A, ((k + 4 : Nat) : Int), [])) (by simp only [T_pack_items_api_Element_pfelement_5p0p5p0, Tr.val_c, Tr.val_r, val_opt, h1, Option.bind_some])]
      simp only [Option.bind_some, Int.toNat_natCast, List.drop_drop]
      cases h5 : repR (rTagP.mp tagV) n (A.drop (k + 4)) with
      | none =>
        rw [h5] at L
        obtain ⟨x, k', hk', L⟩ := L
        exact ⟨x, k', hk', R.trans L⟩
      | some q =>
        obtain ⟨xs, m⟩ := q
        rw [h5] at L
        refine ⟨by simp only; omega, ?_⟩
        show g_pack_items_api_Element_pfelement_5p0p5p0 0 A (k : Int) = _
        rw [R, L.2, Nat.add_assoc]
        rfl
  · show g_pack_items_api_Element_pfelement_5p0p5p0 3 A (k : Int) = _
    unfold g_pack_items_api_Element_pfelement_5p0p5p0
    rw [run_inl (s := (x2, 3, A, (k2 : Int), [])) (by simp only [T_pack_items_api_Element_pfelement_5p0p5p0, Tr.val_c, Tr.val_r, val_opt, h2, Option.bind_some]), out3']
theorem ppairs_loop {A : List AV} (hA : Bys A) (e0 : Int) (A0 : List AV) (p0 : Int) : ∀ (n : Nat) (acc : List AV) (k : Nat), k ≤ A.length → n < 4294967296 → acc.length ≤ k →
    match repR (rPairP.mp pairV) n (A.drop k) with
    | some (xs, m) => k + m ≤ A.length ∧ run (M_pack_items_api_Pair_pfpair_5p0p5p0 e0 A0 p0) (M_pack_items_api_Pair_pfpair_5p0p5p0 e0 A0 p0 ((n : Int), 0, A, (k : Int), acc)) = some (acc ++ xs, 0, A, ((k + m : Nat) : Int))
    | none => ∃ x, ∃ k' : Nat, k' ≤ A.length ∧ run (M_pack_items_api_Pair_pfpair_5p0p5p0 e0 A0 p0) (M_pack_items_api_Pair_pfpair_5p0p5p0 e0 A0 p0 ((n : Int), 0, A, (k : Int), acc)) = some (x, 3, A, (k' : Int))
  | 0, acc, k, hk, _, _ => by
    simp only [repR]
    refine ⟨hk, ?_⟩
    rw [run_inr (x := (acc, 0, A, (k : Int)))]
    · simp
    · simp only [M_pack_items_api_Pair_pfpair_5p0p5p0, Tr.val_c, Tr.val_r, beq_self_eq_true, cond_true]
      rfl
  | n + 1, acc, k, hk, hn, hacc => by
    have hl := hA.1
    unfold CAP at hl
    obtain ⟨h1, -⟩ := ppair_rds A hA k hk
    have w : IntKind.u64.wrap (((n + 1 : Nat) : Int) - 1) = (n : Int) := by rw [u64_wrap (by omega) (by omega)]; omega
    have q : ((n + 1 : Nat) : Int) > 0 := by omega
    have b : ∀ y : AV, (acc ++ [y]).length * 33 < 70368744177664 := fun y => by simp only [List.length_append, List.length_cons, List.length_nil]; omega
    simp only [repR]
    cases h2 : rPairP (A.drop k) with
    | none =>
      rw [h2] at h1
      obtain ⟨x, k', hk', h1⟩ := h1
      simp only at h1
      simp only [Rdr.mp, h2, Option.map_none, Option.bind_none]
      have s1 : (M_pack_items_api_Pair_pfpair_5p0p5p0 e0 A0 p0 (((n + 1 : Nat) : Int), 0, A, (k : Int), acc)).val = some (.inl ((n : Int), 3, A, (k' : Int), acc ++ [.agg [.str x.1.2, .str x.2]])) := by
        simp only [M_pack_items_api_Pair_pfpair_5p0p5p0, Tr.val_c, Tr.val_r, val_opt, h1, q, w, b, decide_true, beq_self_eq_true, Option.bind_some, cond_true]
      refine ⟨acc ++ [.agg [.str x.1.2, .str x.2]], k', hk', ?_⟩
      rw [run_inl s1, run_inr (x := (acc ++ [.agg [.str x.1.2, .str x.2]], 3, A, (k' : Int)))]
      have e3 : ((3 : Int) == 0) = false := rfl
      simp only [M_pack_items_api_Pair_pfpair_5p0p5p0, Tr.val_c, Tr.val_r, beq_self_eq_true, e3, cond_true, cond_false]
      cases decide ((n : Int) > 0) <;> rfl
    | some pr =>
      obtain ⟨x, m⟩ := pr
      rw [h2] at h1
      obtain ⟨hk', h1⟩ := h1
      simp only at h1
      have hm : 1 ≤ m := rPairP_pos h2
      simp only [Rdr.mp, h2, Option.map_some, Option.bind_some, List.drop_drop]
      have s1 : (M_pack_items_api_Pair_pfpair_5p0p5p0 e0 A0 p0 (((n + 1 : Nat) : Int), 0, A, (k : Int), acc)).val = some (.inl ((n : Int), 0, A, ((k + m : Nat) : Int), acc ++ [pairV x])) := by
        simp only [M_pack_items_api_Pair_pfpair_5p0p5p0, Tr.val_c, Tr.val_r, val_opt, h1, q, w, b, decide_true, beq_self_eq_true, Option.bind_some, cond_true, pairV]
      have ih := ppairs_loop hA e0 A0 p0 n (acc ++ [pairV x]) (k + m) hk' (by omega) (by simp only [List.length_append, List.length_cons, List.length_nil]; omega)
      rw [run_inl s1]
      cases h4 : repR (rPairP.mp pairV) n (A.drop (k + m)) with
      | none => rw [h4] at ih; exact ih
      | some q2 =>
        obtain ⟨xs, m2⟩ := q2
        rw [h4] at ih
        refine ⟨by simp only; omega, ?_⟩
        rw [ih.2, Nat.add_assoc]
        simp
theorem ppairs_rds : Rds (0 : Int) 3 (fun e A k => g_pack_items_api_Pair_pfpair_5p0p5p0 e A k) (fun x e A k => (x, e, A, k)) (rL (rPairP.mp pairV)) := by
  intro A hA k hk
  obtain ⟨h1, x2, k2, hk2, h2⟩ := pnum4_rds A hA k hk
  simp only at h1 h2
  have e3 : ((3 : Int) == 0) = false := rfl
  have out3 : ∀ (v : Int) (k' : Nat), run (M_pack_items_api_Pair_pfpair_5p0p5p0 0 A k) (M_pack_items_api_Pair_pfpair_5p0p5p0 0 A k (v, 3, A, (k' : Int), [])) = some ([], 3, A, (k' : Int)) := fun v k' => run_inr (by
    simp only [M_pack_items_api_Pair_pfpair_5p0p5p0, Tr.val_c, Tr.val_r, beq_self_eq_true, e3, cond_true, cond_false]
    cases decide (v > 0) <;> rfl)
  have out3' : ∀ (v : Int) (k' : Nat), run (M_pack_items_api_Pair_pfpair_5p0p5p0 3 A k) (M_pack_items_api_Pair_pfpair_5p0p5p0 3 A k (v, 3, A, (k' : Int), [])) = some ([], 3, A, (k' : Int)) := fun v k' => run_inr (by
    simp only [M_pack_items_api_Pair_pfpair_5p0p5p0, Tr.val_c, Tr.val_r, beq_self_eq_true, e3, cond_true, cond_false]
    cases decide (v > 0) <;> rfl)
  refine ⟨?_, [], k2, hk2, ?_⟩
  · unfold rL
    cases h3 : rN 4 (A.drop k) with
    | none =>
      rw [h3] at h1
      obtain ⟨x, k', hk', h1⟩ := h1
      refine ⟨[], k', hk', ?_⟩
      show g_pack_items_api_Pair_pfpair_5p0p5p0 0 A (k : Int) = _
      unfold g_pack_items_api_Pair_pfpair_5p0p5p0
      rw [run_inl (s := (x, 3, A, (k' : Int), [])) (by simp only [T_pack_items_api_Pair_pfpair_5p0p5p0, Tr.val_c, Tr.val_r, val_opt, h1, Option.bind_some]), out3]
    | some q =>
      obtain ⟨v, m⟩ := q
      rw [h3] at h1
      obtain ⟨h4, h1⟩ := h1
      have hm : m = 4 ∧ v = numOf ((A.drop k).take 4) := by
        unfold rN at h3
        split at h3
        · simp only [Option.some.injEq, Prod.mk.injEq] at h3; exact ⟨h3.2.symm, h3.1.symm⟩
        · simp at h3
      obtain ⟨rfl, hv⟩ := hm
      obtain ⟨n, hn, hlt⟩ := hA.num k 4 (by omega)
      rw [← hv] at hn
      subst hn
      have L := ppairs_loop hA 0 A (k : Int) n [] (k + 4) h4 (by omega) (by simp)
      have R : g_pack_items_api_Pair_pfpair_5p0p5p0 0 A (k : Int) = run (M_pack_items_api_Pair_pfpair_5p0p5p0 0 A k) (M_pack_items_api_Pair_pfpair_5p0p5p0 0 A k ((n : Int), 0, A, ((k + 4 : Nat) : Int), [])) := by
        unfold g_pack_items_api_Pair_pfpair_5p0p5p0
        rw [run_inl (s := ((n : Int), 0, A, ((k + 4 : Nat) : Int), [])) (by simp only [T_pack_items_api_Pair_pfpair_5p0p5p0, Tr.val_c, Tr.val_r, val_opt, h1, Option.bind_some])]
      simp only [Option.bind_some, Int.toNat_natCast, List.drop_drop]
      cases h5 : repR (rPairP.mp pairV) n (A.drop (k + 4)) with
      | none =>
        rw [h5] at L
        obtain ⟨x, k', hk', L⟩ := L
        exact ⟨x, k', hk', R.trans L⟩
      | some q =>
        obtain ⟨xs, m⟩ := q
        rw [h5] at L
        refine ⟨by simp only; omega, ?_⟩
        show g_pack_items_api_Pair_pfpair_5p0p5p0 0 A (k : Int) = _
        rw [R, L.2, Nat.add_assoc]
        rfl
  · show g_pack_items_api_Pair_pfpair_5p0p5p0 3 A (k : Int) = _
    unfold g_pack_items_api_Pair_pfpair_5p0p5p0
    rw [run_inl (s := (x2, 3, A, (k2 : Int), [])) (by simp only [T_pack_items_api_Pair_pfpair_5p0p5p0, Tr.val_c, Tr.val_r, val_opt, h2, Option.bind_some]), out3']
theorem pmessage_rds : Rds (0 : Int) 3 (fun e A k => g_pack_reader_message_p5p0 e A k) (fun p e A k => (p.1.1.1.1.1.1.1.1.1.1.1.1.1.1.1.1.1.1.1.1.2, p.1.1.1.1.1.1.1.1.1.1.1.1.1.1.1.1.1.1.1.2, p.1.1.1.1.1.1.1.1.1.1.1.1.1.1.1.1.1.1.2, p.1.1.1.1.1.1.1.1.1.1.1.1.1.1.1.1.1.2, p.1.1.1.1.1.1.1.1.1.1.1.1.1.1.1.1.2, p.1.1.1.1.1.1.1.1.1.1.1.1.1.1.1.2, p.1.1.1.1.1.1.1.1.1.1.1.1.1.1.2, p.1.1.1.1.1.1.1.1.1.1.1.1.1.2, p.1.1.1.1.1.1.1.1.1.1.1.1.2, p.1.1.1.1.1.1.1.1.1.1.1.2, p.1.1.1.1.1.1.1.1.1.1.2, p.1.1.1.1.1.1.1.1.1.2, p.1.1.1.1.1.1.1.1.2, p.1.1.1.1.1.1.1.2, p.1.1.1.1.1.1.2, p.1.1.1.1.1.2, p.1.1.1.1.2, p.1.1.1.2, p.1.1.2, p.1.2, p.2, e, A, k)) rMsg :=
  Rds.of' (C := fun r0 => (((((((((((((((((((((r0.an rI).an rI).an rT).an rT).an rT).an rT).an (rN 8)).an rT).an rT).an rT).an rT).an rI).an rT).an rT).an rI).an rT).an (rL rTag)).an rT).an rT).an (rL rPair)).an (rL rTag)))  (fun s => by simp [Rdr.an, rF]) fun A hA k0 r0 e k S => by
    obtain ⟨x0, e0, k0, h0, S⟩ := pint_rds.step hA S
    obtain ⟨x1, e1, k1, h1, S⟩ := pint_rds.step hA S
    obtain ⟨x2, e2, k2, h2, S⟩ := ptext_rds.step hA S
    obtain ⟨x3, e3, k3, h3, S⟩ := ptext_rds.step hA S
    obtain ⟨x4, e4, k4, h4, S⟩ := ptext_rds.step hA S
    obtain ⟨x5, e5, k5, h5, S⟩ := ptext_rds.step hA S
    obtain ⟨x6, e6, k6, h6, S⟩ := pnum8_rds.step hA S
    obtain ⟨x7, e7, k7, h7, S⟩ := ptext_rds.step hA S
    obtain ⟨x8, e8, k8, h8, S⟩ := ptext_rds.step hA S
    obtain ⟨x9, e9, k9, h9, S⟩ := ptext_rds.step hA S
    obtain ⟨x10, e10, k10, h10, S⟩ := ptext_rds.step hA S
    obtain ⟨x11, e11, k11, h11, S⟩ := pint_rds.step hA S
    obtain ⟨x12, e12, k12, h12, S⟩ := ptext_rds.step hA S
    obtain ⟨x13, e13, k13, h13, S⟩ := ptext_rds.step hA S
    obtain ⟨x14, e14, k14, h14, S⟩ := pint_rds.step hA S
    obtain ⟨x15, e15, k15, h15, S⟩ := ptext_rds.step hA S
    obtain ⟨x16, e16, k16, h16, S⟩ := ptags_rds.step hA S
    obtain ⟨x17, e17, k17, h17, S⟩ := ptext_rds.step hA S
    obtain ⟨x18, e18, k18, h18, S⟩ := ptext_rds.step hA S
    obtain ⟨x19, e19, k19, h19, S⟩ := ppairs_rds.step hA S
    obtain ⟨x20, e20, k20, h20, S⟩ := pelements_rds.step hA S
    refine ⟨_, _, _, ?_, S⟩
    show g_pack_reader_message_p5p0 e A k = _
    unfold g_pack_reader_message_p5p0
    simp only [T_pack_reader_message_p5p0, Tr.val_c, Tr.val_r, val_opt, h0, h1, h2, h3, h4, h5, h6, h7, h8, h9, h10, h11, h12, h13, h14, h15, h16, h17, h18, h19, h20, Option.bind_some]
theorem presidue_rds : Rds (0 : Int) 3 (fun e A k => g_pack_reader_residue_p5p0 e A k) (fun p e A k => (p.1.1.1.1.2, p.1.1.1.2, p.1.1.2, p.1.2, p.2, e, A, k)) rRes :=
  Rds.of' (C := fun r0 => (((((r0.an rT).an rT).an rT).an (rL rPair)).an (rL rTag)))  (fun s => by simp [Rdr.an, rF]) fun A hA k0 r0 e k S => by
    obtain ⟨x0, e0, k0, h0, S⟩ := ptext_rds.step hA S
    obtain ⟨x1, e1, k1, h1, S⟩ := ptext_rds.step hA S
    obtain ⟨x2, e2, k2, h2, S⟩ := ptext_rds.step hA S
    obtain ⟨x3, e3, k3, h3, S⟩ := ppairs_rds.step hA S
    obtain ⟨x4, e4, k4, h4, S⟩ := pelements_rds.step hA S
    refine ⟨_, _, _, ?_, S⟩
    show g_pack_reader_residue_p5p0 e A k = _
    unfold g_pack_reader_residue_p5p0
    simp only [T_pack_reader_residue_p5p0, Tr.val_c, Tr.val_r, val_opt, h0, h1, h2, h3, h4, Option.bind_some]
def dAgg (x0 : Int) (x1 : Int) (x2 : Int) (x3 : Int) (x4 : Int) (x5 : Int) (x6 : Int) (x7 : Int) (x8 : Int) (x9 : Int) (x10 : Int) (x11 : Int) (x12 : List UInt8) (x13 : List UInt8) (x14 : List UInt8) (x15 : List UInt8) (x16 : Int) (x17 : List UInt8) (x18 : List UInt8) (x19 : List UInt8) (x20 : List UInt8) (x21 : Int) (x22 : List UInt8) (x23 : List UInt8) (x24 : Int) (x25 : List UInt8) (x26 : List AV) (x27 : List UInt8) (x28 : List UInt8) (x29 : List AV) (x30 : List AV) (x31 : Int) (x32 : Int) (x33 : List UInt8) (x34 : List UInt8) (x35 : List UInt8) (x36 : List AV) (x37 : List AV) : AV := .agg [.int .i64 x0, .int .u64 x1, .int .i64 x2, .int .i64 x3, .int .i64 x4, .int .i64 x5, .int .i64 x6, .int .i64 x7, .int .i64 x8, .int .u64 x9, .int .i64 x10, .int .i64 x11, .str x12, .str x13, .str x14, .str x15, .int .u64 x16, .str x17, .str x18, .str x19, .str x20, .int .i64 x21, .str x22, .str x23, .int .i64 x24, .str x25, .slice 2 (.agg [.int .i64, .slice 1 (.int .u8)]) x26 .ro, .str x27, .str x28, .slice 2 (.agg [.str, .str]) x29 .ro, .slice 2 (.agg [.int .i64, .slice 1 (.int .u8)]) x30 .ro, .int .i64 x31, .int .u64 x32, .str x33, .str x34, .str x35, .slice 2 (.agg [.str, .str]) x36 .ro, .slice 2 (.agg [.int .i64, .slice 1 (.int .u8)]) x37 .ro]
def rD1 : Rdr AV := (rU.an (rN 8)).mp fun p => dAgg 1 (p.2) 0 0 0 0 0 0 0 0 0 0 [] [] [] [] 0 [] [] [] [] 0 [] [] 0 [] [] [] [] [] [] 0 0 [] [] [] [] []
def rD2 : Rdr AV := ((rU.an rI).an rI).mp fun p => dAgg 2 0 (p.1.2) (p.2) 0 0 0 0 0 0 0 0 [] [] [] [] 0 [] [] [] [] 0 [] [] 0 [] [] [] [] [] [] 0 0 [] [] [] [] []
def rD3 : Rdr AV := (((((((rU.an rI).an rI).an rI).an rI).an rI).an (rN 8)).an rMsg).mp fun p => dAgg 3 0 0 0 (p.1.1.1.1.1.1.2) (p.1.1.1.1.1.2) (p.1.1.1.1.2) (p.1.1.1.2) (p.1.1.2) (p.1.2) (p.2.1.1.1.1.1.1.1.1.1.1.1.1.1.1.1.1.1.1.1.1.2) (p.2.1.1.1.1.1.1.1.1.1.1.1.1.1.1.1.1.1.1.1.2) (p.2.1.1.1.1.1.1.1.1.1.1.1.1.1.1.1.1.1.1.2) (p.2.1.1.1.1.1.1.1.1.1.1.1.1.1.1.1.1.1.2) (p.2.1.1.1.1.1.1.1.1.1.1.1.1.1.1.1.1.2) (p.2.1.1.1.1.1.1.1.1.1.1.1.1.1.1.1.2) (p.2.1.1.1.1.1.1.1.1.1.1.1.1.1.1.2) (p.2.1.1.1.1.1.1.1.1.1.1.1.1.1.2) (p.2.1.1.1.1.1.1.1.1.1.1.1.1.2) (p.2.1.1.1.1.1.1.1.1.1.1.1.2) (p.2.1.1.1.1.1.1.1.1.1.1.2) (p.2.1.1.1.1.1.1.1.1.1.2) (p.2.1.1.1.1.1.1.1.1.2) (p.2.1.1.1.1.1.1.1.2) (p.2.1.1.1.1.1.1.2) (p.2.1.1.1.1.1.2) (p.2.1.1.1.1.2) (p.2.1.1.1.2) (p.2.1.1.2) (p.2.1.2) (p.2.2) 0 0 [] [] [] [] []
def rD4 : Rdr AV := (rU.an rI).mp fun p => dAgg 4 0 (p.2) 0 0 0 0 0 0 0 0 0 [] [] [] [] 0 [] [] [] [] 0 [] [] 0 [] [] [] [] [] [] 0 0 [] [] [] [] []
def rD5 : Rdr AV := (((rU.an rI).an (rN 8)).an rRes).mp fun p => dAgg 5 0 0 0 0 0 0 0 0 0 0 0 [] [] [] [] 0 [] [] [] [] 0 [] [] 0 [] [] [] [] [] [] (p.1.1.2) (p.1.2) (p.2.1.1.1.1.2) (p.2.1.1.1.2) (p.2.1.1.2) (p.2.1.2) (p.2.2)
def rD6 : Rdr AV := (rU.an rI).mp fun p => dAgg 6 0 (p.2) 0 0 0 0 0 0 0 0 0 [] [] [] [] 0 [] [] [] [] 0 [] [] 0 [] [] [] [] [] [] 0 0 [] [] [] [] []
def rDeed (v : Int) : Option (Rdr AV) := if v = 1 then some rD1 else if v = 2 then some rD2 else if v = 3 then some rD3 else if v = 4 then some rD4 else if v = 5 then some rD5 else if v = 6 then some rD6 else none
def parseS : Nat → List AV → List AV → List AV × Int
  | 0, _, acc => (acc, 0)
  | m + 1, s, acc => if s.length = 0 then (acc, 0) else match rDeed (numOf (s.take 1)) with
    | none => ([], 15)
    | some r => match r (s.drop 1) with
      | none => ([], 3)
      | some (x, n) => parseS m (s.drop (1 + n)) (acc ++ [x])
theorem Sim.out {β ε : Type} {ok bad : ε} {A : List AV} {k0 : Nat} {r : Rdr β} {b : β} {e : ε} {k : Int} (S : Sim ok bad A k0 r b e k) : match r (A.drop k0) with
    | some (b', n) => k0 + n ≤ A.length ∧ b' = b ∧ e = ok ∧ k = ((k0 + n : Nat) : Int)
    | none => e = bad := by
  obtain ⟨k', rfl, hk, S⟩ := S
  cases h : r (A.drop k0) with
  | none => rw [h] at S; exact S
  | some p =>
    obtain ⟨b', n⟩ := p
    rw [h] at S
    obtain ⟨rfl, rfl, rfl⟩ := S
    exact ⟨hk, rfl, rfl, rfl⟩
theorem rN1 {A : List AV} (hA : Bys A) {k : Nat} (hk : k < A.length) : ∃ v : Nat, numOf ((A.drop k).take 1) = (v : Int) ∧ v < 256 ∧ rN 1 (A.drop k) = some ((v : Int), 1) := by
  obtain ⟨v, h1, h2⟩ := hA.num k 1 (by omega)
  refine ⟨v, h1, by omega, ?_⟩
  unfold rN
  rw [if_pos (by rw [List.length_drop]; omega), h1]
set_option maxRecDepth 100000 in
theorem pdeed1 {A : List AV} (hA : Bys A) {k : Nat} (hk : k + 1 ≤ A.length) (h : g_pack_reader_number_p05p0 1 0 A (k : Int) = some (1, 0, A, ((k + 1 : Nat) : Int))) :
    ∃ x0 x1 x2 x3 x4 x5 x6 x7 x8 x9 x10 x11 x12 x13 x14 x15 x16 x17 x18 x19 x20 x21 x22 x23 x24 x25 x26 x27 x28 x29 x30 x31 x32 x33 x34 x35 x36 x37 e A' k', g_pack_reader_deed_p5p0 0 A (k : Int) = some (x0, x1, x2, x3, x4, x5, x6, x7, x8, x9, x10, x11, x12, x13, x14, x15, x16, x17, x18, x19, x20, x21, x22, x23, x24, x25, x26, x27, x28, x29, x30, x31, x32, x33, x34, x35, x36, x37, e, A', k') ∧ match rD1 (A.drop (k + 1)) with
      | some (x, n) => k + 1 + n ≤ A.length ∧ dAgg x0 x1 x2 x3 x4 x5 x6 x7 x8 x9 x10 x11 x12 x13 x14 x15 x16 x17 x18 x19 x20 x21 x22 x23 x24 x25 x26 x27 x28 x29 x30 x31 x32 x33 x34 x35 x36 x37 = x ∧ e = 0 ∧ A' = A ∧ k' = ((k + 1 + n : Nat) : Int)
      | none => e = 3 := by
  have w : IntKind.i64.wrap 1 = 1 := by kernel_rfl
  have b1 : ((1 : Int) == 1) = true := rfl
  have b2 : ((1 : Int) == 2) = false := rfl
  have b3 : ((1 : Int) == 3) = false := rfl
  have b4 : ((1 : Int) == 4) = false := rfl
  have b5 : ((1 : Int) == 5) = false := rfl
  have b6 : ((1 : Int) == 6) = false := rfl
  have S := Sim.ok0 (ok := (0 : Int)) (bad := 3) hk
  obtain ⟨y0, e0, k0, h0, S⟩ := pnum8_rds.step hA S
  refine ⟨1, (y0), 0, 0, 0, 0, 0, 0, 0, 0, 0, 0, [], [], [], [], 0, [], [], [], [], 0, [], [], 0, [], [], [], [], [], [], 0, 0, [], [], [], [], [], e0, A, k0, ?_, ?_⟩
  · unfold g_pack_reader_deed_p5p0
    simp only [T_pack_reader_deed_p5p0, Tr.val_c, Tr.val_r, val_opt, h, w, b1, b2, b3, b4, b5, b6, h0, Option.bind_some, cond_true, cond_false]
  · have S := S.out
    unfold rD1 Rdr.mp
    generalize (rU.an (rN 8)) (A.drop (k + 1)) = z at S ⊢
    cases z with
    | none => exact S
    | some q =>
      obtain ⟨b, m⟩ := q
      obtain ⟨s1, rfl, s3, s4⟩ := S
      exact ⟨s1, rfl, s3, rfl, s4⟩
set_option maxRecDepth 100000 in
theorem pdeed2 {A : List AV} (hA : Bys A) {k : Nat} (hk : k + 1 ≤ A.length) (h : g_pack_reader_number_p05p0 1 0 A (k : Int) = some (2, 0, A, ((k + 1 : Nat) : Int))) :
    ∃ x0 x1 x2 x3 x4 x5 x6 x7 x8 x9 x10 x11 x12 x13 x14 x15 x16 x17 x18 x19 x20 x21 x22 x23 x24 x25 x26 x27 x28 x29 x30 x31 x32 x33 x34 x35 x36 x37 e A' k', g_pack_reader_deed_p5p0 0 A (k : Int) = some (x0, x1, x2, x3, x4, x5, x6, x7, x8, x9, x10, x11, x12, x13, x14, x15, x16, x17, x18, x19, x20, x21, x22, x23, x24, x25, x26, x27, x28, x29, x30, x31, x32, x33, x34, x35, x36, x37, e, A', k') ∧ match rD2 (A.drop (k + 1)) with
      | some (x, n) => k + 1 + n ≤ A.length ∧ dAgg x0 x1 x2 x3 x4 x5 x6 x7 x8 x9 x10 x11 x12 x13 x14 x15 x16 x17 x18 x19 x20 x21 x22 x23 x24 x25 x26 x27 x28 x29 x30 x31 x32 x33 x34 x35 x36 x37 = x ∧ e = 0 ∧ A' = A ∧ k' = ((k + 1 + n : Nat) : Int)
      | none => e = 3 := by
  have w : IntKind.i64.wrap 2 = 2 := by kernel_rfl
  have b1 : ((2 : Int) == 1) = false := rfl
  have b2 : ((2 : Int) == 2) = true := rfl
  have b3 : ((2 : Int) == 3) = false := rfl
  have b4 : ((2 : Int) == 4) = false := rfl
  have b5 : ((2 : Int) == 5) = false := rfl
  have b6 : ((2 : Int) == 6) = false := rfl
  have S := Sim.ok0 (ok := (0 : Int)) (bad := 3) hk
  obtain ⟨y0, e0, k0, h0, S⟩ := pint_rds.step hA S
  obtain ⟨y1, e1, k1, h1, S⟩ := pint_rds.step hA S
  refine ⟨2, 0, (y0), (y1), 0, 0, 0, 0, 0, 0, 0, 0, [], [], [], [], 0, [], [], [], [], 0, [], [], 0, [], [], [], [], [], [], 0, 0, [], [], [], [], [], e1, A, k1, ?_, ?_⟩
  · unfold g_pack_reader_deed_p5p0
    simp only [T_pack_reader_deed_p5p0, Tr.val_c, Tr.val_r, val_opt, h, w, b1, b2, b3, b4, b5, b6, h0, h1, Option.bind_some, cond_true, cond_false]
  · have S := S.out
    unfold rD2 Rdr.mp
    generalize ((rU.an rI).an rI) (A.drop (k + 1)) = z at S ⊢
    cases z with
    | none => exact S
    | some q =>
      obtain ⟨b, m⟩ := q
      obtain ⟨s1, rfl, s3, s4⟩ := S
      exact ⟨s1, rfl, s3, rfl, s4⟩
set_option maxRecDepth 100000 in
theorem pdeed3 {A : List AV} (hA : Bys A) {k : Nat} (hk : k + 1 ≤ A.length) (h : g_pack_reader_number_p05p0 1 0 A (k : Int) = some (3, 0, A, ((k + 1 : Nat) : Int))) :
    ∃ x0 x1 x2 x3 x4 x5 x6 x7 x8 x9 x10 x11 x12 x13 x14 x15 x16 x17 x18 x19 x20 x21 x22 x23 x24 x25 x26 x27 x28 x29 x30 x31 x32 x33 x34 x35 x36 x37 e A' k', g_pack_reader_deed_p5p0 0 A (k : Int) = some (x0, x1, x2, x3, x4, x5, x6, x7, x8, x9, x10, x11, x12, x13, x14, x15, x16, x17, x18, x19, x20, x21, x22, x23, x24, x25, x26, x27, x28, x29, x30, x31, x32, x33, x34, x35, x36, x37, e, A', k') ∧ match rD3 (A.drop (k + 1)) with
      | some (x, n) => k + 1 + n ≤ A.length ∧ dAgg x0 x1 x2 x3 x4 x5 x6 x7 x8 x9 x10 x11 x12 x13 x14 x15 x16 x17 x18 x19 x20 x21 x22 x23 x24 x25 x26 x27 x28 x29 x30 x31 x32 x33 x34 x35 x36 x37 = x ∧ e = 0 ∧ A' = A ∧ k' = ((k + 1 + n : Nat) : Int)
      | none => e = 3 := by
  have w : IntKind.i64.wrap 3 = 3 := by kernel_rfl
  have b1 : ((3 : Int) == 1) = false := rfl
  have b2 : ((3 : Int) == 2) = false := rfl
  have b3 : ((3 : Int) == 3) = true := rfl
  have b4 : ((3 : Int) == 4) = false := rfl
  have b5 : ((3 : Int) == 5) = false := rfl
  have b6 : ((3 : Int) == 6) = false := rfl
  have S := Sim.ok0 (ok := (0 : Int)) (bad := 3) hk
  obtain ⟨y0, e0, k0, h0, S⟩ := pint_rds.step hA S
  obtain ⟨y1, e1, k1, h1, S⟩ := pint_rds.step hA S
  obtain ⟨y2, e2, k2, h2, S⟩ := pint_rds.step hA S
  obtain ⟨y3, e3, k3, h3, S⟩ := pint_rds.step hA S
  obtain ⟨y4, e4, k4, h4, S⟩ := pint_rds.step hA S
  obtain ⟨y5, e5, k5, h5, S⟩ := pnum8_rds.step hA S
  obtain ⟨y6, e6, k6, h6, S⟩ := pmessage_rds.step hA S
  refine ⟨3, 0, 0, 0, (y0), (y1), (y2), (y3), (y4), (y5), (y6.1.1.1.1.1.1.1.1.1.1.1.1.1.1.1.1.1.1.1.1.2), (y6.1.1.1.1.1.1.1.1.1.1.1.1.1.1.1.1.1.1.1.2), (y6.1.1.1.1.1.1.1.1.1.1.1.1.1.1.1.1.1.1.2), (y6.1.1.1.1.1.1.1.1.1.1.1.1.1.1.1.1.1.2), (y6.1.1.1.1.1.1.1.1.1.1.1.1.1.1.1.1.2), (y6.1.1.1.1.1.1.1.1.1.1.1.1.1.1.1.2), (y6.1.1.1.1.1.1.1.1.1.1.1.1.1.1.2), (y6.1.1.1.1.1.1.1.1.1.1.1.1.1.2), (y6.1.1.1.1.1.1.1.1.1.1.1.1.2), (y6.1.1.1.1.1.1.1.1.1.1.1.2), (y6.1.1.1.1.1.1.1.1.1.1.2), (y6.1.1.1.1.1.1.1.1.1.2), (y6.1.1.1.1.1.1.1.1.2), (y6.1.1.1.1.1.1.1.2), (y6.1.1.1.1.1.1.2), (y6.1.1.1.1.1.2), (y6.1.1.1.1.2), (y6.1.1.1.2), (y6.1.1.2), (y6.1.2), (y6.2), 0, 0, [], [], [], [], [], e6, A, k6, ?_, ?_⟩
  · unfold g_pack_reader_deed_p5p0
    simp only [T_pack_reader_deed_p5p0, Tr.val_c, Tr.val_r, val_opt, h, w, b1, b2, b3, b4, b5, b6, h0, h1, h2, h3, h4, h5, h6, Option.bind_some, cond_true, cond_false]
  · have S := S.out
    unfold rD3 Rdr.mp
    generalize (((((((rU.an rI).an rI).an rI).an rI).an rI).an (rN 8)).an rMsg) (A.drop (k + 1)) = z at S ⊢
    cases z with
    | none => exact S
    | some q =>
      obtain ⟨b, m⟩ := q
      obtain ⟨s1, rfl, s3, s4⟩ := S
      exact ⟨s1, rfl, s3, rfl, s4⟩
set_option maxRecDepth 100000 in
theorem pdeed4 {A : List AV} (hA : Bys A) {k : Nat} (hk : k + 1 ≤ A.length) (h : g_pack_reader_number_p05p0 1 0 A (k : Int) = some (4, 0, A, ((k + 1 : Nat) : Int))) :
    ∃ x0 x1 x2 x3 x4 x5 x6 x7 x8 x9 x10 x11 x12 x13 x14 x15 x16 x17 x18 x19 x20 x21 x22 x23 x24 x25 x26 x27 x28 x29 x30 x31 x32 x33 x34 x35 x36 x37 e A' k', g_pack_reader_deed_p5p0 0 A (k : Int) = some (x0, x1, x2, x3, x4, x5, x6, x7, x8, x9, x10, x11, x12, x13, x14, x15, x16, x17, x18, x19, x20, x21, x22, x23, x24, x25, x26, x27, x28, x29, x30, x31, x32, x33, x34, x35, x36, x37, e, A', k') ∧ match rD4 (A.drop (k + 1)) with
      | some (x, n) => k + 1 + n ≤ A.length ∧ dAgg x0 x1 x2 x3 x4 x5 x6 x7 x8 x9 x10 x11 x12 x13 x14 x15 x16 x17 x18 x19 x20 x21 x22 x23 x24 x25 x26 x27 x28 x29 x30 x31 x32 x33 x34 x35 x36 x37 = x ∧ e = 0 ∧ A' = A ∧ k' = ((k + 1 + n : Nat) : Int)
      | none => e = 3 := by
  have w : IntKind.i64.wrap 4 = 4 := by kernel_rfl
  have b1 : ((4 : Int) == 1) = false := rfl
  have b2 : ((4 : Int) == 2) = false := rfl
  have b3 : ((4 : Int) == 3) = false := rfl
  have b4 : ((4 : Int) == 4) = true := rfl
  have b5 : ((4 : Int) == 5) = false := rfl
  have b6 : ((4 : Int) == 6) = false := rfl
  have S := Sim.ok0 (ok := (0 : Int)) (bad := 3) hk
  obtain ⟨y0, e0, k0, h0, S⟩ := pint_rds.step hA S
  refine ⟨4, 0, (y0), 0, 0, 0, 0, 0, 0, 0, 0, 0, [], [], [], [], 0, [], [], [], [], 0, [], [], 0, [], [], [], [], [], [], 0, 0, [], [], [], [], [], e0, A, k0, ?_, ?_⟩
  · unfold g_pack_reader_deed_p5p0
    simp only [T_pack_reader_deed_p5p0, Tr.val_c, Tr.val_r, val_opt, h, w, b1, b2, b3, b4, b5, b6, h0, Option.bind_some, cond_true, cond_false]
  · have S := S.out
    unfold rD4 Rdr.mp
    generalize (rU.an rI) (A.drop (k + 1)) = z at S ⊢
    cases z with
    | none => exact S
    | some q =>
      obtain ⟨b, m⟩ := q
      obtain ⟨s1, rfl, s3, s4⟩ := S
      exact ⟨s1, rfl, s3, rfl, s4⟩
set_option maxRecDepth 100000 in
theorem pdeed5 {A : List AV} (hA : Bys A) {k : Nat} (hk : k + 1 ≤ A.length) (h : g_pack_reader_number_p05p0 1 0 A (k : Int) = some (5, 0, A, ((k + 1 : Nat) : Int))) :
    ∃ x0 x1 x2 x3 x4 x5 x6 x7 x8 x9 x10 x11 x12 x13 x14 x15 x16 x17 x18 x19 x20 x21 x22 x23 x24 x25 x26 x27 x28 x29 x30 x31 x32 x33 x34 x35 x36 x37 e A' k', g_pack_reader_deed_p5p0 0 A (k : Int) = some (x0, x1, x2, x3, x4, x5, x6, x7, x8, x9, x10, x11, x12, x13, x14, x15, x16, x17, x18, x19, x20, x21, x22, x23, x24, x25, x26, x27, x28, x29, x30, x31, x32, x33, x34, x35, x36, x37, e, A', k') ∧ match rD5 (A.drop (k + 1)) with
      | some (x, n) => k + 1 + n ≤ A.length ∧ dAgg x0 x1 x2 x3 x4 x5 x6 x7 x8 x9 x10 x11 x12 x13 x14 x15 x16 x17 x18 x19 x20 x21 x22 x23 x24 x25 x26 x27 x28 x29 x30 x31 x32 x33 x34 x35 x36 x37 = x ∧ e = 0 ∧ A' = A ∧ k' = ((k + 1 + n : Nat) : Int)
      | none => e = 3 := by
  have w : IntKind.i64.wrap 5 = 5 := by kernel_rfl
  have b1 : ((5 : Int) == 1) = false := rfl
  have b2 : ((5 : Int) == 2) = false := rfl
  have b3 : ((5 : Int) == 3) = false := rfl
  have b4 : ((5 : Int) == 4) = false := rfl
  have b5 : ((5 : Int) == 5) = true := rfl
  have b6 : ((5 : Int) == 6) = false := rfl
  have S := Sim.ok0 (ok := (0 : Int)) (bad := 3) hk
  obtain ⟨y0, e0, k0, h0, S⟩ := pint_rds.step hA S
  obtain ⟨y1, e1, k1, h1, S⟩ := pnum8_rds.step hA S
  obtain ⟨y2, e2, k2, h2, S⟩ := presidue_rds.step hA S
  refine ⟨5, 0, 0, 0, 0, 0, 0, 0, 0, 0, 0, 0, [], [], [], [], 0, [], [], [], [], 0, [], [], 0, [], [], [], [], [], [], (y0), (y1), (y2.1.1.1.1.2), (y2.1.1.1.2), (y2.1.1.2), (y2.1.2), (y2.2), e2, A, k2, ?_, ?_⟩
  · unfold g_pack_reader_deed_p5p0
    simp only [T_pack_reader_deed_p5p0, Tr.val_c, Tr.val_r, val_opt, h, w, b1, b2, b3, b4, b5, b6, h0, h1, h2, Option.bind_some, cond_true, cond_false]
  · have S := S.out
    unfold rD5 Rdr.mp
    generalize (((rU.an rI).an (rN 8)).an rRes) (A.drop (k + 1)) = z at S ⊢
    cases z with
    | none => exact S
    | some q =>
      obtain ⟨b, m⟩ := q
      obtain ⟨s1, rfl, s3, s4⟩ := S
      exact ⟨s1, rfl, s3, rfl, s4⟩
set_option maxRecDepth 100000 in
theorem pdeed6 {A : List AV} (hA : Bys A) {k : Nat} (hk : k + 1 ≤ A.length) (h : g_pack_reader_number_p05p0 1 0 A (k : Int) = some (6, 0, A, ((k + 1 : Nat) : Int))) :
    ∃ x0 x1 x2 x3 x4 x5 x6 x7 x8 x9 x10 x11 x12 x13 x14 x15 x16 x17 x18 x19 x20 x21 x22 x23 x24 x25 x26 x27 x28 x29 x30 x31 x32 x33 x34 x35 x36 x37 e A' k', g_pack_reader_deed_p5p0 0 A (k : Int) = some (x0, x1, x2, x3, x4, x5, x6, x7, x8, x9, x10, x11, x12, x13, x14, x15, x16, x17, x18, x19, x20, x21, x22, x23, x24, x25, x26, x27, x28, x29, x30, x31, x32, x33, x34, x35, x36, x37, e, A', k') ∧ match rD6 (A.drop (k + 1)) with
      | some (x, n) => k + 1 + n ≤ A.length ∧ dAgg x0 x1 x2 x3 x4 x5 x6 x7 x8 x9 x10 x11 x12 x13 x14 x15 x16 x17 x18 x19 x20 x21 x22 x23 x24 x25 x26 x27 x28 x29 x30 x31 x32 x33 x34 x35 x36 x37 = x ∧ e = 0 ∧ A' = A ∧ k' = ((k + 1 + n : Nat) : Int)
      | none => e = 3 := by
  have w : IntKind.i64.wrap 6 = 6 := by kernel_rfl
  have b1 : ((6 : Int) == 1) = false := rfl
  have b2 : ((6 : Int) == 2) = false := rfl
  have b3 : ((6 : Int) == 3) = false := rfl
  have b4 : ((6 : Int) == 4) = false := rfl
  have b5 : ((6 : Int) == 5) = false := rfl
  have b6 : ((6 : Int) == 6) = true := rfl
  have S := Sim.ok0 (ok := (0 : Int)) (bad := 3) hk
  obtain ⟨y0, e0, k0, h0, S⟩ := pint_rds.step hA S
  refine ⟨6, 0, (y0), 0, 0, 0, 0, 0, 0, 0, 0, 0, [], [], [], [], 0, [], [], [], [], 0, [], [], 0, [], [], [], [], [], [], 0, 0, [], [], [], [], [], e0, A, k0, ?_, ?_⟩
  · unfold g_pack_reader_deed_p5p0
    simp only [T_pack_reader_deed_p5p0, Tr.val_c, Tr.val_r, val_opt, h, w, b1, b2, b3, b4, b5, b6, h0, Option.bind_some, cond_true, cond_false]
  · have S := S.out
    unfold rD6 Rdr.mp
    generalize (rU.an rI) (A.drop (k + 1)) = z at S ⊢
    cases z with
    | none => exact S
    | some q =>
      obtain ⟨b, m⟩ := q
      obtain ⟨s1, rfl, s3, s4⟩ := S
      exact ⟨s1, rfl, s3, rfl, s4⟩
set_option maxRecDepth 100000 in
theorem pdeed {A : List AV} (hA : Bys A) {k : Nat} (hk : k < A.length) :
    ∃ x0 x1 x2 x3 x4 x5 x6 x7 x8 x9 x10 x11 x12 x13 x14 x15 x16 x17 x18 x19 x20 x21 x22 x23 x24 x25 x26 x27 x28 x29 x30 x31 x32 x33 x34 x35 x36 x37 e A' k', g_pack_reader_deed_p5p0 0 A (k : Int) = some (x0, x1, x2, x3, x4, x5, x6, x7, x8, x9, x10, x11, x12, x13, x14, x15, x16, x17, x18, x19, x20, x21, x22, x23, x24, x25, x26, x27, x28, x29, x30, x31, x32, x33, x34, x35, x36, x37, e, A', k') ∧ match rDeed (numOf ((A.drop k).take 1)) with
      | none => e = 15
      | some r => match r (A.drop (k + 1)) with
        | some (x, n) => k + 1 + n ≤ A.length ∧ dAgg x0 x1 x2 x3 x4 x5 x6 x7 x8 x9 x10 x11 x12 x13 x14 x15 x16 x17 x18 x19 x20 x21 x22 x23 x24 x25 x26 x27 x28 x29 x30 x31 x32 x33 x34 x35 x36 x37 = x ∧ e = 0 ∧ A' = A ∧ k' = ((k + 1 + n : Nat) : Int)
        | none => e = 3 := by
  obtain ⟨v, hv, hlt, hr⟩ := rN1 hA hk
  have h := ((pnum_rds 1 (by omega) (by omega)) A hA k (by omega)).1
  rw [hr] at h
  have h : g_pack_reader_number_p05p0 1 0 A (k : Int) = some ((v : Int), 0, A, ((k + 1 : Nat) : Int)) := h.2
  rw [hv]
  by_cases c1 : v = 1
  · subst c1
    exact pdeed1 hA hk h
  by_cases c2 : v = 2
  · subst c2
    exact pdeed2 hA hk h
  by_cases c3 : v = 3
  · subst c3
    exact pdeed3 hA hk h
  by_cases c4 : v = 4
  · subst c4
    exact pdeed4 hA hk h
  by_cases c5 : v = 5
  · subst c5
    exact pdeed5 hA hk h
  by_cases c6 : v = 6
  · subst c6
    exact pdeed6 hA hk h
  have w : IntKind.i64.wrap (v : Int) = (v : Int) := i64_wrap (by omega) (by omega)
  have b1 : ((v : Int) == 1) = false := by rw [beq_eq_false_iff_ne]; omega
  have b2 : ((v : Int) == 2) = false := by rw [beq_eq_false_iff_ne]; omega
  have b3 : ((v : Int) == 3) = false := by rw [beq_eq_false_iff_ne]; omega
  have b4 : ((v : Int) == 4) = false := by rw [beq_eq_false_iff_ne]; omega
  have b5 : ((v : Int) == 5) = false := by rw [beq_eq_false_iff_ne]; omega
  have b6 : ((v : Int) == 6) = false := by rw [beq_eq_false_iff_ne]; omega
  refine ⟨(v : Int), 0, 0, 0, 0, 0, 0, 0, 0, 0, 0, 0, [], [], [], [], 0, [], [], [], [], 0, [], [], 0, [], [], [], [], [], [], 0, 0, [], [], [], [], [], 15, A, ((k + 1 : Nat) : Int), ?_, ?_⟩
  · unfold g_pack_reader_deed_p5p0
    simp only [T_pack_reader_deed_p5p0, Tr.val_c, Tr.val_r, val_opt, h, w, b1, b2, b3, b4, b5, b6, Option.bind_some, cond_true, cond_false]
  · have : rDeed (v : Int) = none := by
      unfold rDeed
      rw [if_neg (by omega), if_neg (by omega), if_neg (by omega), if_neg (by omega), if_neg (by omega), if_neg (by omega)]
    rw [this]
set_option maxRecDepth 100000 in
theorem pparse_loop {A : List AV} (hA : Bys A) (hl : A.length < 130000000000) (B : List AV) : ∀ (m : Nat) (k : Nat) (acc : List AV), k ≤ A.length → A.length - k < m → acc.length ≤ k → run (M_pack_Parse B) (M_pack_Parse B (A, (k : Int), 0, acc)) = some (parseS m (A.drop k) acc)
  | 0, k, acc, _, h, _ => by omega
  | m + 1, k, acc, hk, hm, hacc => by
    by_cases h0 : k = A.length
    · have w : ¬ IntKind.i64.wrap ((A.length : Int) - (k : Int)) > 0 := by rw [i64_wrap (by omega) (by omega)]; omega
      unfold parseS
      rw [if_pos (by rw [List.length_drop]; omega)]
      exact run_inr (by simp only [M_pack_Parse, Tr.val_c, Tr.val_r, w, decide_false, cond_false, beq_self_eq_true, cond_true])
    · have w : IntKind.i64.wrap ((A.length : Int) - (k : Int)) > 0 := by rw [i64_wrap (by omega) (by omega)]; omega
      obtain ⟨x0, x1, x2, x3, x4, x5, x6, x7, x8, x9, x10, x11, x12, x13, x14, x15, x16, x17, x18, x19, x20, x21, x22, x23, x24, x25, x26, x27, x28, x29, x30, x31, x32, x33, x34, x35, x36, x37, e, A', k', h1, h2⟩ := pdeed hA (show k < A.length by omega)
      have b : ∀ y : AV, (acc ++ [y]).length * 513 < 70368744177664 := fun y => by simp only [List.length_append, List.length_cons, List.length_nil]; omega
      have st : (M_pack_Parse B (A, (k : Int), 0, acc)).val = if e = 0 then some (.inl (A', k', e, acc ++ [dAgg x0 x1 x2 x3 x4 x5 x6 x7 x8 x9 x10 x11 x12 x13 x14 x15 x16 x17 x18 x19 x20 x21 x22 x23 x24 x25 x26 x27 x28 x29 x30 x31 x32 x33 x34 x35 x36 x37])) else some (.inr ([], e)) := by
        simp only [M_pack_Parse, Tr.val_c, Tr.val_r, val_opt, h1, w, b, decide_true, beq_self_eq_true, Option.bind_some, cond_true, dAgg]
        by_cases he : e = 0
        · subst he; rfl
        · have : (e != 0) = true := by simpa using he
          rw [this, if_neg he]; rfl
      unfold parseS
      rw [if_neg (by rw [List.length_drop]; omega)]
      cases h3 : rDeed (numOf ((A.drop k).take 1)) with
      | none =>
        rw [h3] at h2
        subst h2
        exact run_inr (by rw [st]; rfl)
      | some r =>
        rw [h3] at h2
        simp only [List.drop_drop]
        simp only at h2
        cases h4 : r (A.drop (k + 1)) with
        | none =>
          rw [h4] at h2
          subst h2
          exact run_inr (by rw [st]; rfl)
        | some q =>
          obtain ⟨x, n⟩ := q
          rw [h4] at h2
          obtain ⟨h5, rfl, rfl, rfl, rfl⟩ := h2
          rw [if_pos rfl] at st
          rw [run_inl st, pparse_loop hA hl B m (k + 1 + n) _ h5 (by omega) (by simp only [List.length_append, List.length_cons, List.length_nil]; omega), Nat.add_assoc]
theorem Parse_eq {A : List AV} (hA : Bys A) (hl : A.length < 130000000000) : g_pack_Parse A = some (parseS (A.length + 1) A []) := by
  unfold g_pack_Parse
  rw [run_inl (s := (A, ((0 : Nat) : Int), 0, [])) (by simp only [T_pack_Parse, Tr.val_r, val_opt, New_eq A (by omega), Option.bind_some]; rfl), pparse_loop hA hl A (A.length + 1) 0 [] (by omega) (by omega) (by simp), List.drop_zero]
def Rec (w : List AV) (x : AV) : Prop := ∃ (v : Nat) (V : List AV) (r : Rdr AV), v < 256 ∧ w = .int .u8 (v : Int) :: V ∧ rDeed (v : Int) = some r ∧ RT r V x
theorem numOf_one (v : Nat) (hv : v < 256) (s : List AV) : numOf ((AV.int .u8 (v : Int) :: s).take 1) = (v : Int) := by
  have := byte_behind (a := 0) (y := v) (by omega) hv
  simpa [numOf, getI] using this
theorem parseS_cons (m v : Nat) (hv : v < 256) (t acc : List AV) : parseS (m + 1) (.int .u8 (v : Int) :: t) acc = match rDeed (v : Int) with
    | none => ([], 15)
    | some r => match r t with
      | none => ([], 3)
      | some (x, n) => parseS m (t.drop n) (acc ++ [x]) := by
  conv => lhs; unfold parseS
  rw [if_neg (by simp), numOf_one v hv]
  simp only [List.drop_succ_cons, List.drop_zero]
  cases rDeed (v : Int) with
  | none => rfl
  | some r =>
    simp only
    cases r t with
    | none => rfl
    | some q =>
      obtain ⟨x, n⟩ := q
      simp only
      rw [Nat.add_comm 1, List.drop_succ_cons]
theorem parseS_rows (R : List AV) : ∀ (L : List (List AV × AV)) (m : Nat) (acc : List AV), (∀ p ∈ L, Rec p.1 p.2) → L.length ≤ m → parseS m (L.flatMap (·.1) ++ R) acc = parseS (m - L.length) R (acc ++ L.map (·.2))
  | [], m, acc, _, _ => by simp
  | p :: L, 0, acc, _, h => by simp at h
  | p :: L, m + 1, acc, h, hm => by
    obtain ⟨v, V, r, hv, hw, hr, hRT⟩ := h p List.mem_cons_self
    have ih := parseS_rows R L m (acc ++ [p.2]) (fun q hq => h q (List.mem_cons_of_mem _ hq)) (by simpa using hm)
    simp only [List.flatMap_cons, hw, List.cons_append, List.append_assoc]
    rw [parseS_cons m v hv, hr]
    simp only [hRT.1]
    rw [List.drop_left, ih]
    simp
theorem Rec.len {w : List AV} {x : AV} (h : Rec w x) : 1 ≤ w.length := by
  obtain ⟨v, V, r, _, rfl, _⟩ := h
  simp
theorem rows_len : ∀ (L : List (List AV × AV)), (∀ p ∈ L, Rec p.1 p.2) → L.length ≤ (L.flatMap (·.1)).length
  | [], _ => by simp
  | p :: L, h => by
    have := (h p List.mem_cons_self).len
    have := rows_len L fun q hq => h q (List.mem_cons_of_mem _ hq)
    simp only [List.length_cons, List.flatMap_cons, List.length_append]; omega
theorem parseS_cut : ∀ (L : List (List AV × AV)) (m c : Nat) (acc : List AV), (∀ p ∈ L, Rec p.1 p.2) → c < m → c < (L.flatMap (·.1)).length →
    parseS m ((L.flatMap (·.1)).take c) acc = ([], 3) ∨ ∃ i, i < L.length ∧ parseS m ((L.flatMap (·.1)).take c) acc = (acc ++ (L.take i).map (·.2), 0)
  | [], m, c, acc, _, _, hc => by simp at hc
  | p :: L, 0, c, acc, _, h, _ => by omega
  | p :: L, m + 1, c, acc, h, hm, hc => by
    obtain ⟨v, V, r, hv, hw, hr, hRT⟩ := h p List.mem_cons_self
    by_cases h0 : c = 0
    · subst h0
      right
      exact ⟨0, by simp, by simp [parseS]⟩
    obtain ⟨c, rfl⟩ : ∃ c', c = c' + 1 := ⟨c - 1, by omega⟩
    simp only [List.flatMap_cons, hw, List.cons_append, List.take_succ_cons]
    rw [parseS_cons m v hv, hr]
    simp only
    by_cases hcv : c < V.length
    · left
      rw [List.take_append, show c - V.length = 0 by omega]
      simp [hRT.2 c hcv]
    · rw [List.take_append, List.take_of_length_le (by omega), hRT.1]
      simp only
      rw [List.drop_left]
      simp only [List.flatMap_cons, hw, List.cons_append, List.length_cons, List.length_append] at hc
      rcases parseS_cut L m (c - V.length) (acc ++ [p.2]) (fun q hq => h q (List.mem_cons_of_mem _ hq)) (by omega) (by omega) with e | ⟨i, hi, e⟩
      · exact .inl e
      · exact .inr ⟨i + 1, by simp; omega, by rw [e]; simp⟩
theorem Tag_refl (x0 : Int) (x1 : List AV) : g_comptoirhelp_Tag x0 x1 x0 x1 = some true := by
  unfold g_comptoirhelp_Tag
  simp only [T_comptoirhelp_Tag, Tr.val_c, Tr.val_r, beq_self_eq_true, cond_true]
theorem Element_refl (x0 : Int) (x1 : List AV) : g_comptoirhelp_Element x0 x1 x0 x1 = some true := by
  unfold g_comptoirhelp_Element
  simp only [T_comptoirhelp_Element, Tr.val_c, Tr.val_r, beq_self_eq_true, cond_true]
set_option maxRecDepth 100000 in
theorem Same_Tag_refl (l : List AV) (hl : l.length < 9223372036854775807) : g_comptoirhelp_Same_api_Tag_00fTag_ l l = some true := by
  unfold g_comptoirhelp_Same_api_Tag_00fTag_
  have e0 : ((l.length : Int) != (l.length : Int)) = false := by simp
  rw [run_inl (s := ((0 : Nat) : Int)) (by simp only [T_comptoirhelp_Same_api_Tag_00fTag_, Tr.val_c, Tr.val_r, e0, cond_false]; rfl)]
  have := run_count (step := M_comptoirhelp_Same_api_Tag_00fTag_ l l) (f := fun i => (i : Int)) (n := l.length) fun i hi => by
    have q1 : (i : Int) < (l.length : Int) := by omega
    have q2 : (0 : Int) ≤ i := by omega
    have w : IntKind.i64.wrap ((i : Int) + 1) = ((i + 1 : Nat) : Int) := by rw [i64_wrap (by omega) (by omega)]; omega
    simp only [M_comptoirhelp_Same_api_Tag_00fTag_, Tr.val_c, Tr.val_r, val_opt, q1, q2, w, Tag_refl, decide_true, beq_self_eq_true, Bool.and_self, Bool.not_true, Option.bind_some, cond_true, cond_false]
  rw [this]
  have q0 : ¬ ((l.length : Int) < (l.length : Int)) := by omega
  exact run_inr (by simp only [M_comptoirhelp_Same_api_Tag_00fTag_, Tr.val_c, Tr.val_r, q0, decide_false, cond_false])
set_option maxRecDepth 100000 in
theorem Same_Pair_refl (l : List AV) (hl : l.length < 9223372036854775807) : g_comptoirhelp_Same_api_Pair_00fPair1_ l l = some true := by
  unfold g_comptoirhelp_Same_api_Pair_00fPair1_
  have e0 : ((l.length : Int) != (l.length : Int)) = false := by simp
  rw [run_inl (s := ((0 : Nat) : Int)) (by simp only [T_comptoirhelp_Same_api_Pair_00fPair1_, Tr.val_c, Tr.val_r, e0, cond_false]; rfl)]
  have := run_count (step := M_comptoirhelp_Same_api_Pair_00fPair1_ l l) (f := fun i => (i : Int)) (n := l.length) fun i hi => by
    have q1 : (i : Int) < (l.length : Int) := by omega
    have q2 : (0 : Int) ≤ i := by omega
    have w : IntKind.i64.wrap ((i : Int) + 1) = ((i + 1 : Nat) : Int) := by rw [i64_wrap (by omega) (by omega)]; omega
    simp only [M_comptoirhelp_Same_api_Pair_00fPair1_, Tr.val_c, Tr.val_r, val_opt, q1, q2, w, decide_true, beq_self_eq_true, Bool.and_self, Bool.not_true, Option.bind_some, cond_true, cond_false]
  rw [this]
  have q0 : ¬ ((l.length : Int) < (l.length : Int)) := by omega
  exact run_inr (by simp only [M_comptoirhelp_Same_api_Pair_00fPair1_, Tr.val_c, Tr.val_r, q0, decide_false, cond_false])
set_option maxRecDepth 100000 in
theorem Same_Element_refl (l : List AV) (hl : l.length < 9223372036854775807) : g_comptoirhelp_Same_api_Element_00fElement_ l l = some true := by
  unfold g_comptoirhelp_Same_api_Element_00fElement_
  have e0 : ((l.length : Int) != (l.length : Int)) = false := by simp
  rw [run_inl (s := ((0 : Nat) : Int)) (by simp only [T_comptoirhelp_Same_api_Element_00fElement_, Tr.val_c, Tr.val_r, e0, cond_false]; rfl)]
  have := run_count (step := M_comptoirhelp_Same_api_Element_00fElement_ l l) (f := fun i => (i : Int)) (n := l.length) fun i hi => by
    have q1 : (i : Int) < (l.length : Int) := by omega
    have q2 : (0 : Int) ≤ i := by omega
    have w : IntKind.i64.wrap ((i : Int) + 1) = ((i + 1 : Nat) : Int) := by rw [i64_wrap (by omega) (by omega)]; omega
    simp only [M_comptoirhelp_Same_api_Element_00fElement_, Tr.val_c, Tr.val_r, val_opt, q1, q2, w, Element_refl, decide_true, beq_self_eq_true, Bool.and_self, Bool.not_true, Option.bind_some, cond_true, cond_false]
  rw [this]
  have q0 : ¬ ((l.length : Int) < (l.length : Int)) := by omega
  exact run_inr (by simp only [M_comptoirhelp_Same_api_Element_00fElement_, Tr.val_c, Tr.val_r, q0, decide_false, cond_false])
theorem Plain_Pair_refl (l : List AV) (hl : l.length < 9223372036854775807) : g_comptoirhelp_Plain_api_Pair l l = some true := by
  unfold g_comptoirhelp_Plain_api_Pair
  simp only [T_comptoirhelp_Plain_api_Pair, Tr.val_r, val_opt, Same_Pair_refl l hl, Option.bind_some]
set_option maxRecDepth 100000 in
theorem Message_refl (x0 : Int) (x1 : Int) (x2 : List UInt8) (x3 : List UInt8) (x4 : List UInt8) (x5 : List UInt8) (x6 : Int) (x7 : List UInt8) (x8 : List UInt8) (x9 : List UInt8) (x10 : List UInt8) (x11 : Int) (x12 : List UInt8) (x13 : List UInt8) (x14 : Int) (x15 : List UInt8) (x16 : List AV) (x17 : List UInt8) (x18 : List UInt8) (x19 : List AV) (x20 : List AV) (h16 : x16.length < 9223372036854775807) (h19 : x19.length < 9223372036854775807) (h20 : x20.length < 9223372036854775807) : g_comptoirhelp_Message x0 x1 x2 x3 x4 x5 x6 x7 x8 x9 x10 x11 x12 x13 x14 x15 x16 x17 x18 x19 x20 x0 x1 x2 x3 x4 x5 x6 x7 x8 x9 x10 x11 x12 x13 x14 x15 x16 x17 x18 x19 x20 = some true := by
  unfold g_comptoirhelp_Message
  simp only [T_comptoirhelp_Message, Tr.val_c, Tr.val_r, val_opt, Same_Tag_refl _ h16, Plain_Pair_refl _ h19, Same_Element_refl _ h20, beq_self_eq_true, Bool.and_self, Option.bind_some, cond_true]
set_option maxRecDepth 100000 in
theorem Exchange_refl (x0 : Int) (x1 : Int) (x2 : Int) (x3 : Int) (x4 : Int) (x5 : Int) (x6 : Int) (x7 : Int) (x8 : List UInt8) (x9 : List UInt8) (x10 : List UInt8) (x11 : List UInt8) (x12 : Int) (x13 : List UInt8) (x14 : List UInt8) (x15 : List UInt8) (x16 : List UInt8) (x17 : Int) (x18 : List UInt8) (x19 : List UInt8) (x20 : Int) (x21 : List UInt8) (x22 : List AV) (x23 : List UInt8) (x24 : List UInt8) (x25 : List AV) (x26 : List AV) (h22 : x22.length < 9223372036854775807) (h25 : x25.length < 9223372036854775807) (h26 : x26.length < 9223372036854775807) : g_comptoirhelp_Exchange x0 x1 x2 x3 x4 x5 x6 x7 x8 x9 x10 x11 x12 x13 x14 x15 x16 x17 x18 x19 x20 x21 x22 x23 x24 x25 x26 x0 x1 x2 x3 x4 x5 x6 x7 x8 x9 x10 x11 x12 x13 x14 x15 x16 x17 x18 x19 x20 x21 x22 x23 x24 x25 x26 = some true := by
  unfold g_comptoirhelp_Exchange
  simp only [T_comptoirhelp_Exchange, Tr.val_c, Tr.val_r, val_opt, Message_refl x6 x7 x8 x9 x10 x11 x12 x13 x14 x15 x16 x17 x18 x19 x20 x21 x22 x23 x24 x25 x26 h22 h25 h26, beq_self_eq_true, Bool.and_self, Option.bind_some, cond_true]
set_option maxRecDepth 100000 in
theorem Residue_refl (x0 : List UInt8) (x1 : List UInt8) (x2 : List UInt8) (x3 : List AV) (x4 : List AV) (h3 : x3.length < 9223372036854775807) (h4 : x4.length < 9223372036854775807) : g_comptoirhelp_Residue x0 x1 x2 x3 x4 x0 x1 x2 x3 x4 = some true := by
  unfold g_comptoirhelp_Residue
  simp only [T_comptoirhelp_Residue, Tr.val_c, Tr.val_r, val_opt, Plain_Pair_refl _ h3, Same_Element_refl _ h4, beq_self_eq_true, Bool.and_self, Option.bind_some, cond_true]
set_option maxRecDepth 100000 in
theorem Parked_refl (x0 : Int) (x1 : Int) (x2 : List UInt8) (x3 : List UInt8) (x4 : List UInt8) (x5 : List AV) (x6 : List AV) (h5 : x5.length < 9223372036854775807) (h6 : x6.length < 9223372036854775807) : g_comptoirhelp_Parked x0 x1 x2 x3 x4 x5 x6 x0 x1 x2 x3 x4 x5 x6 = some true := by
  unfold g_comptoirhelp_Parked
  simp only [T_comptoirhelp_Parked, Tr.val_c, Tr.val_r, val_opt, Residue_refl x2 x3 x4 x5 x6 h5 h6, beq_self_eq_true, Bool.and_self, Option.bind_some, cond_true]
set_option maxRecDepth 100000 in
theorem Deed_refl (x0 : Int) (x1 : Int) (x2 : Int) (x3 : Int) (x4 : Int) (x5 : Int) (x6 : Int) (x7 : Int) (x8 : Int) (x9 : Int) (x10 : Int) (x11 : Int) (x12 : List UInt8) (x13 : List UInt8) (x14 : List UInt8) (x15 : List UInt8) (x16 : Int) (x17 : List UInt8) (x18 : List UInt8) (x19 : List UInt8) (x20 : List UInt8) (x21 : Int) (x22 : List UInt8) (x23 : List UInt8) (x24 : Int) (x25 : List UInt8) (x26 : List AV) (x27 : List UInt8) (x28 : List UInt8) (x29 : List AV) (x30 : List AV) (x31 : Int) (x32 : Int) (x33 : List UInt8) (x34 : List UInt8) (x35 : List UInt8) (x36 : List AV) (x37 : List AV) (h26 : x26.length < 9223372036854775807) (h29 : x29.length < 9223372036854775807) (h30 : x30.length < 9223372036854775807) (h36 : x36.length < 9223372036854775807) (h37 : x37.length < 9223372036854775807) : g_comptoirhelp_Deed x0 x1 x2 x3 x4 x5 x6 x7 x8 x9 x10 x11 x12 x13 x14 x15 x16 x17 x18 x19 x20 x21 x22 x23 x24 x25 x26 x27 x28 x29 x30 x31 x32 x33 x34 x35 x36 x37 x0 x1 x2 x3 x4 x5 x6 x7 x8 x9 x10 x11 x12 x13 x14 x15 x16 x17 x18 x19 x20 x21 x22 x23 x24 x25 x26 x27 x28 x29 x30 x31 x32 x33 x34 x35 x36 x37 = some true := by
  unfold g_comptoirhelp_Deed
  simp only [T_comptoirhelp_Deed, Tr.val_c, Tr.val_r, val_opt, Exchange_refl x4 x5 x6 x7 x8 x9 x10 x11 x12 x13 x14 x15 x16 x17 x18 x19 x20 x21 x22 x23 x24 x25 x26 x27 x28 x29 x30 h26 h29 h30, Parked_refl x31 x32 x33 x34 x35 x36 x37 h36 h37, beq_self_eq_true, Bool.and_self, Option.bind_some, cond_true]
set_option maxRecDepth 100000 in
theorem Same_Deed_refl (l : List AV) (hf : ∀ x ∈ l, Fit x) (hl : l.length < 9223372036854775807) : g_comptoirhelp_Same_api_Deed_00fDeed_ l l = some true := by
  unfold g_comptoirhelp_Same_api_Deed_00fDeed_
  have e0 : ((l.length : Int) != (l.length : Int)) = false := by simp
  rw [run_inl (s := ((0 : Nat) : Int)) (by simp only [T_comptoirhelp_Same_api_Deed_00fDeed_, Tr.val_c, Tr.val_r, e0, cond_false]; rfl)]
  have := run_count (step := M_comptoirhelp_Same_api_Deed_00fDeed_ l l) (f := fun i => (i : Int)) (n := l.length) fun i hi => by
    have q1 : (i : Int) < (l.length : Int) := by omega
    have q2 : (0 : Int) ≤ i := by omega
    have w : IntKind.i64.wrap ((i : Int) + 1) = ((i + 1 : Nat) : Int) := by rw [i64_wrap (by omega) (by omega)]; omega
    have e : ∀ d, l.getD i d = l[i] := fun d => by simp [List.getD_eq_getElem?_getD, hi]
    obtain ⟨f1, f2, f3, f4, f5⟩ := hf l[i] (List.getElem_mem hi)
    unfold CAP at f1 f2 f3 f4 f5
    have hd := Deed_refl (getI (getF l[i] 0)) (getI (getF l[i] 1)) (getI (getF l[i] 2)) (getI (getF l[i] 3)) (getI (getF l[i] 4)) (getI (getF l[i] 5)) (getI (getF l[i] 6)) (getI (getF l[i] 7)) (getI (getF l[i] 8)) (getI (getF l[i] 9)) (getI (getF l[i] 10)) (getI (getF l[i] 11)) (getS (getF l[i] 12)) (getS (getF l[i] 13)) (getS (getF l[i] 14)) (getS (getF l[i] 15)) (getI (getF l[i] 16)) (getS (getF l[i] 17)) (getS (getF l[i] 18)) (getS (getF l[i] 19)) (getS (getF l[i] 20)) (getI (getF l[i] 21)) (getS (getF l[i] 22)) (getS (getF l[i] 23)) (getI (getF l[i] 24)) (getS (getF l[i] 25)) (getXs (getF l[i] 26)) (getS (getF l[i] 27)) (getS (getF l[i] 28)) (getXs (getF l[i] 29)) (getXs (getF l[i] 30)) (getI (getF l[i] 31)) (getI (getF l[i] 32)) (getS (getF l[i] 33)) (getS (getF l[i] 34)) (getS (getF l[i] 35)) (getXs (getF l[i] 36)) (getXs (getF l[i] 37)) (by omega) (by omega) (by omega) (by omega) (by omega)
    simp only [Int.toNat_natCast, e, M_comptoirhelp_Same_api_Deed_00fDeed_, Tr.val_c, Tr.val_r, val_opt, q1, q2, w, hd, decide_true, beq_self_eq_true, Bool.and_self, Bool.not_true, Option.bind_some, cond_true, cond_false]
  rw [this]
  have q0 : ¬ ((l.length : Int) < (l.length : Int)) := by omega
  exact run_inr (by simp only [M_comptoirhelp_Same_api_Deed_00fDeed_, Tr.val_c, Tr.val_r, q0, decide_false, cond_false])
theorem rTake_eq (n : Int) (b : List AV) (k : Nat) (e : Bool) (hk : k ≤ b.length) (hb : b.length < 8796093022208) :
    g_comptoirref01_Cursor_Take_p05000 n b k e = some (if n < 0 then ([], 1, b, (k : Int), e) else if n > b.length - k then ([], 3, b, (k : Int), e) else ((b.drop k).take n.toNat, 0, b, (k : Int) + n, e)) := by
  unfold g_comptoirref01_Cursor_Take_p05000
  by_cases h1 : n < 0
  · simp only [T_comptoirref01_Cursor_Take_p05000, Tr.val_c, Tr.val_r, h1, decide_true, cond_true, if_true]
  have w : IntKind.i64.wrap ((b.length : Int) - k) = (b.length : Int) - k := i64_wrap (by omega) (by omega)
  by_cases h2 : n > (b.length : Int) - k
  · simp only [T_comptoirref01_Cursor_Take_p05000, Tr.val_c, Tr.val_r, h1, h2, w, decide_true, decide_false, cond_true, cond_false, if_true, if_false]
  · obtain ⟨m, rfl⟩ : ∃ m : Nat, n = (m : Int) := ⟨n.toNat, by omega⟩
    have w2 : IntKind.i64.wrap ((k : Int) + (m : Int)) = ((k + m : Nat) : Int) := by rw [i64_wrap (by omega) (by omega)]; omega
    have w3 : IntKind.i64.wrap (((k + m : Nat) : Int) - (m : Int)) = (k : Int) := by rw [i64_wrap (by omega) (by omega)]; omega
    have q1 : (0 : Int) ≤ ((k + m : Nat) : Int) := by omega
    have q2 : ((k + m : Nat) : Int) ≤ (b.length : Int) := by omega
    have q3 : (0 : Int) ≤ (k : Int) := by omega
    have q4 : (k : Int) ≤ ((k + m : Nat) : Int) := by omega
    have e2 : List.drop k (List.take (k + m) b) = (b.drop k).take m := by rw [List.drop_take]; congr 1; omega
    have l : ((b.drop k).take m).length * 2 < 70368744177664 := by rw [List.length_take, List.length_drop]; omega
    have e5 : (k : Int) + (m : Int) = ((k + m : Nat) : Int) := by omega
    rw [e5] at w2 ⊢
    simp only [T_comptoirref01_Cursor_Take_p05000, Tr.val_c, Tr.val_r, h1, h2, w, e5, w2, w3, q1, q2, q3, q4, Int.toNat_natCast, e2, l, beq_self_eq_true, decide_true, decide_false, cond_true, cond_false, if_false]
theorem rNumber_eq (n : Nat) (h1 : 1 ≤ n) (h8 : n ≤ 8) (b : List AV) (k : Nat) (e : Bool) (hk : k ≤ b.length) (hb : b.length < 8796093022208) :
    g_comptoirref01_Cursor_Number_p05000 (n : Int) b k e = some (if n ≤ b.length - k then (numOf ((b.drop k).take n), 0, b, ((k + n : Nat) : Int), e) else (0, 3, b, (k : Int), e)) := by
  have t := rTake_eq (n : Int) b k e hk hb
  rw [if_neg (by omega)] at t
  have q1 : ¬ ((n : Int) < 1) := by omega
  have q2 : ¬ ((n : Int) > 8) := by omega
  have e3 : ((3 : Int) != 0) = true := rfl
  unfold g_comptoirref01_Cursor_Number_p05000
  by_cases h : n ≤ b.length - k
  · rw [if_neg (by omega), Int.toNat_natCast] at t
    have l : ((b.drop k).take n).length = n := by rw [List.length_take, List.length_drop]; omega
    have u := refNum_eq ((b.drop k).take n) 0 n (by omega) (by omega)
    rw [List.drop_zero, List.take_take, Nat.min_self] at u
    have u : g_comptoirref01_Num ((b.drop k).take n) 0 (n : Int) = some (numOf ((b.drop k).take n)) := u
    rw [if_pos h]
    simp only [T_comptoirref01_Cursor_Number_p05000, Tr.val_c, Tr.val_r, val_opt, q1, q2, t, u, bne_self_eq_false, decide_false, cond_false, Option.bind_some, Int.natCast_add]
  · rw [if_pos (by omega)] at t
    rw [if_neg h]
    simp only [T_comptoirref01_Cursor_Number_p05000, Tr.val_c, Tr.val_r, val_opt, q1, q2, t, e3, decide_false, cond_false, cond_true, Option.bind_some]
theorem rlong_val (A : List AV) (k : Int) (e : Bool) {v er : Int} {A1 : List AV} {k1 : Int} {e1 : Bool} (h1 : g_comptoirref01_Cursor_Number_p05000 8 A k e = some (v, er, A1, k1, e1)) :
    g_comptoirref21_reader_long_p5000 A k e = some (v, A1, k1, e1 || er != 0) := by
  unfold g_comptoirref21_reader_long_p5000
  simp only [T_comptoirref21_reader_long_p5000, Tr.val_c, Tr.val_r, val_opt, h1, Option.bind_some]
  cases e1 <;> cases (er != 0) <;> rfl
theorem rlong_rds : Rds false true (fun e A k => g_comptoirref21_reader_long_p5000 A k e) (fun x e A k => (x, A, k, e)) (rN 8) := by
  intro A hA k hk
  have hl := hA.1
  unfold CAP at hl
  have p := fun e => rNumber_eq 8 (by omega) (by omega) A k e hk (by omega)
  simp only [rN, List.length_drop]
  by_cases h : 8 ≤ A.length - k
  · simp only [if_pos h] at p ⊢
    exact ⟨⟨by omega, rlong_val A k false (p false)⟩, numOf ((A.drop k).take 8), k + 8, by omega, rlong_val A k true (p true)⟩
  · simp only [if_neg h] at p ⊢
    exact ⟨⟨0, k, hk, rlong_val A k false (p false)⟩, 0, k, hk, rlong_val A k true (p true)⟩
theorem rmany_val (A : List AV) (k : Int) (e : Bool) {v er : Int} {A1 : List AV} {k1 : Int} {e1 : Bool} (h1 : g_comptoirref01_Cursor_Number_p05000 4 A k e = some (v, er, A1, k1, e1)) :
    g_comptoirref21_reader_many_p5000 A k e = some (IntKind.i64.wrap v, A1, k1, e1 || er != 0) := by
  unfold g_comptoirref21_reader_many_p5000
  simp only [T_comptoirref21_reader_many_p5000, Tr.val_c, Tr.val_r, val_opt, h1, Option.bind_some]
  cases e1 <;> cases (er != 0) <;> rfl
theorem rmany_rds : Rds false true (fun e A k => g_comptoirref21_reader_many_p5000 A k e) (fun x e A k => (IntKind.i64.wrap x, A, k, e)) (rN 4) := by
  intro A hA k hk
  have hl := hA.1
  unfold CAP at hl
  have p := fun e => rNumber_eq 4 (by omega) (by omega) A k e hk (by omega)
  simp only [rN, List.length_drop]
  by_cases h : 4 ≤ A.length - k
  · simp only [if_pos h] at p ⊢
    exact ⟨⟨by omega, rmany_val A k false (p false)⟩, numOf ((A.drop k).take 4), k + 4, by omega, rmany_val A k true (p true)⟩
  · simp only [if_neg h] at p ⊢
    exact ⟨⟨0, k, hk, rmany_val A k false (p false)⟩, 0, k, hk, rmany_val A k true (p true)⟩
theorem rtext_val (A : List AV) (k : Int) (e : Bool) {v er : Int} {A1 : List AV} {k1 : Int} {e1 : Bool} {D : List AV} {er2 : Int} {A2 : List AV} {k2 : Int} {e2 : Bool} (h1 : g_comptoirref01_Cursor_Number_p05000 4 A k e = some (v, er, A1, k1, e1)) (h2 : g_comptoirref01_Cursor_Take_p05000 (IntKind.i64.wrap v) A1 k1 e1 = some (D, er2, A2, k2, e2)) :
    g_comptoirref21_reader_text_p5000 A k e = some (bytesOf D, A2, k2, e2 || er != 0 || er2 != 0) := by
  unfold g_comptoirref21_reader_text_p5000
  simp only [T_comptoirref21_reader_text_p5000, Tr.val_c, Tr.val_r, val_opt, h1, h2, Option.bind_some]
  cases e2 <;> cases (er != 0) <;> cases (er2 != 0) <;> rfl
theorem rtextB_rds : Rds false true (fun e A k => g_comptoirref21_reader_text_p5000 A k e) (fun x e A k => (bytesOf x, A, k, e)) rB := by
  intro A hA k hk
  have hl := hA.1
  unfold CAP at hl
  have p := fun e => rNumber_eq 4 (by omega) (by omega) A k e hk (by omega)
  unfold rB
  simp only [rN, List.length_drop]
  obtain ⟨n, hn, hlt⟩ := hA.num k 4 (by omega)
  have w0 : IntKind.i64.wrap 0 = 0 := by kernel_rfl
  by_cases h : 4 ≤ A.length - k
  · simp only [if_pos h] at p ⊢
    have t := fun e => rTake_eq (n : Int) A (k + 4) e (by omega) (by omega)
    have w : IntKind.i64.wrap (n : Int) = (n : Int) := i64_wrap (by omega) (by omega)
    simp only [Option.bind_some, hn, Int.toNat_natCast, List.drop_drop, rTk, List.length_drop]
    rw [hn] at p
    by_cases hc : n ≤ A.length - (k + 4)
    · have t : ∀ e, g_comptoirref01_Cursor_Take_p05000 (IntKind.i64.wrap (n : Int)) A ((k + 4 : Nat) : Int) e = some ((A.drop (k + 4)).take n, 0, A, ((k + (4 + n) : Nat) : Int), e) := fun e => by
        rw [w, t e, if_neg (by omega), if_neg (by omega), Int.toNat_natCast]
        congr 5; omega
      rw [if_pos hc]
      refine ⟨⟨by omega, ?_⟩, (A.drop (k + 4)).take n, k + (4 + n), by omega, ?_⟩
      · exact rtext_val A k false (p false) (t false)
      · exact rtext_val A k true (p true) (t true)
    · have t : ∀ e, g_comptoirref01_Cursor_Take_p05000 (IntKind.i64.wrap (n : Int)) A ((k + 4 : Nat) : Int) e = some ([], 3, A, ((k + 4 : Nat) : Int), e) := fun e => by
        rw [w, t e, if_neg (by omega), if_pos (by omega)]
      rw [if_neg hc]
      refine ⟨⟨[], k + 4, by omega, ?_⟩, [], k + 4, by omega, ?_⟩
      · exact rtext_val A k false (p false) (t false)
      · exact rtext_val A k true (p true) (t true)
  · simp only [if_neg h] at p ⊢
    have t : ∀ e, g_comptoirref01_Cursor_Take_p05000 (IntKind.i64.wrap 0) A (k : Int) e = some ([], 0, A, (k : Int), e) := fun e => by
      have := rTake_eq 0 A k e hk (by omega)
      rw [if_neg (by omega), if_neg (by omega)] at this
      rw [w0, this]; simp
    refine ⟨⟨[], k, hk, ?_⟩, [], k, hk, ?_⟩
    · exact rtext_val A k false (p false) (t false)
    · exact rtext_val A k true (p true) (t true)
theorem rtext_rds : Rds false true (fun e A k => g_comptoirref21_reader_text_p5000 A k e) (fun x e A k => (x, A, k, e)) rT := by
  refine Rds.of (C := fun r0 => (r0.an rB)) (g := fun p => bytesOf p.2) (fun s => by simp [Rdr.an, rF]) fun A hA k0 r0 e k S => ?_
  obtain ⟨x0, e0, k1, h0, S⟩ := rtextB_rds.step hA S
  exact ⟨_, _, _, h0, S⟩
theorem rTagP_bytes {A : List AV} (hA : Bys A) {k : Nat} {x : (Unit × Int) × List AV} {m : Nat} (h : rTagP (A.drop k) = some (x, m)) : (bytesOf x.2).map byte = x.2 := by
  unfold rTagP Rdr.an rB rTk at h
  simp only [Option.bind_eq_some_iff, Option.map_eq_some_iff, Prod.mk.injEq, List.drop_drop] at h
  obtain ⟨_, _, q, ⟨_, _, q2, hq, rfl, _⟩, rfl, _⟩ := h
  split at hq
  · simp only [Option.some.injEq] at hq
    subst hq
    simp only
    obtain ⟨b, hb, _⟩ := hA.cut _ _
    rw [hb, bytesOf_byte]
  · simp at hq
theorem rnumber_rds : Rds false true (fun e A k => g_comptoirref21_reader_number_p5000 A k e) (fun x e A k => (x, A, k, e)) rI :=
  Rds.of (C := fun r0 => (r0.an (rN 8))) (g := fun p => IntKind.i64.wrap p.2) (fun s => by simp [Rdr.an, rF]) fun A hA k0 r0 e k S => by
    obtain ⟨x0, e0, k0, h0, S⟩ := rlong_rds.step hA S
    refine ⟨_, _, _, ?_, S⟩
    show g_comptoirref21_reader_number_p5000 A k e = _
    unfold g_comptoirref21_reader_number_p5000
    simp only [T_comptoirref21_reader_number_p5000, Tr.val_c, Tr.val_r, val_opt, h0, Option.bind_some]
theorem rtagsL_loop {A : List AV} (hA : Bys A) (A0 : List AV) (p0 : Int) (eb : Bool) : ∀ (n : Nat) (acc : List AV) (k : Nat), k ≤ A.length → n < 4294967296 → acc.length ≤ k →
    match repR (rTagP.mp tagV) n (A.drop k) with
    | some (xs, m) => k + m ≤ A.length ∧ run (M_comptoirref21_reader_tags_p5000 A0 p0 eb) (M_comptoirref21_reader_tags_p5000 A0 p0 eb ((n : Int), A, (k : Int), false, acc)) = some (acc ++ xs, A, ((k + m : Nat) : Int), false)
    | none => ∃ x, ∃ k' : Nat, k' ≤ A.length ∧ run (M_comptoirref21_reader_tags_p5000 A0 p0 eb) (M_comptoirref21_reader_tags_p5000 A0 p0 eb ((n : Int), A, (k : Int), false, acc)) = some (x, A, (k' : Int), true)
  | 0, acc, k, hk, _, _ => by
    simp only [repR]
    refine ⟨hk, ?_⟩
    rw [run_inr (x := (acc, A, (k : Int), false))]
    · simp
    · simp only [M_comptoirref21_reader_tags_p5000, Tr.val_c, Tr.val_r, beq_self_eq_true, cond_true]
      rfl
  | n + 1, acc, k, hk, hn, hacc => by
    have hl := hA.1
    unfold CAP at hl
    have S := Sim.ok0 (ok := false) (bad := true) hk
    obtain ⟨x0, e0, k0, h0, S⟩ := rnumber_rds.step hA S
    obtain ⟨x1, e1, k1, h1, S⟩ := rtextB_rds.step hA S
    have w : IntKind.i64.wrap (((n + 1 : Nat) : Int) - 1) = (n : Int) := by rw [i64_wrap (by omega) (by omega)]; omega
    have q : ((n + 1 : Nat) : Int) > 0 := by omega
    have b : ∀ y : AV, (acc ++ [y]).length * 33 < 70368744177664 := fun y => by simp only [List.length_append, List.length_cons, List.length_nil]; omega
    have s1 : (M_comptoirref21_reader_tags_p5000 A0 p0 eb (((n + 1 : Nat) : Int), A, (k : Int), false, acc)).val = some (.inl ((n : Int), A, k1, e1, acc ++ [.agg [.int .i64 x0, .slice 1 (.int .u8) ((bytesOf x1).map byte) .ro]])) := by
      simp only [M_comptoirref21_reader_tags_p5000, Tr.val_c, Tr.val_r, val_opt, h0, h1, q, w, b, decide_true, beq_self_eq_true, Bool.not_false, Option.bind_some, cond_true]
    rw [run_inl s1]
    have SK : ∃ k' : Nat, k1 = (k' : Int) ∧ k' ≤ A.length := by obtain ⟨k', h, h', -⟩ := S; exact ⟨k', h, h'⟩
    have S := S.out
    simp only [repR]
    have eP : rTagP (A.drop k) = ((rU.an rI).an rB) (A.drop k) := rfl
    rw [← eP] at S
    cases h2 : rTagP (A.drop k) with
    | none =>
      rw [h2] at S
      simp only at S
      subst S
      simp only [Rdr.mp, h2, Option.map_none, Option.bind_none]
      obtain ⟨k', hk', hk2⟩ : ∃ k' : Nat, k1 = (k' : Int) ∧ k' ≤ A.length := SK
      subst hk'
      refine ⟨acc ++ [.agg [.int .i64 x0, .slice 1 (.int .u8) ((bytesOf x1).map byte) .ro]], k', hk2, ?_⟩
      refine run_inr ?_
      simp only [M_comptoirref21_reader_tags_p5000, Tr.val_c, Tr.val_r, beq_self_eq_true, Bool.not_true, cond_true, cond_false]
      cases decide ((n : Int) > 0) <;> rfl
    | some pr =>
      obtain ⟨x, m⟩ := pr
      rw [h2] at S
      obtain ⟨hk', rfl, rfl, rfl⟩ := S
      have hm : 1 ≤ m := rTagP_pos h2
      have hbt := rTagP_bytes hA h2
      simp only at hbt
      rw [hbt, show AV.agg [.int .i64 x0, .slice 1 (.int .u8) x1 .ro] = tagV (((), x0), x1) from rfl]
      simp only [Rdr.mp, h2, Option.map_some, Option.bind_some, List.drop_drop]
      have ih := rtagsL_loop hA A0 p0 eb n (acc ++ [tagV ((((), x0), x1))]) (k + m) hk' (by omega) (by simp only [List.length_append, List.length_cons, List.length_nil]; omega)
      cases h4 : repR (rTagP.mp tagV) n (A.drop (k + m)) with
      | none => rw [h4] at ih; exact ih
      | some q2 =>
        obtain ⟨xs, m2⟩ := q2
        rw [h4] at ih
        refine ⟨by simp only; omega, ?_⟩
        rw [ih.2, Nat.add_assoc]
        simp
theorem rtagsL_rds : Rds false true (fun e A k => g_comptoirref21_reader_tags_p5000 A k e) (fun x e A k => (x, A, k, e)) (rL (rTagP.mp tagV)) := by
  intro A hA k hk
  obtain ⟨h1, x2, k2, hk2, h2⟩ := rmany_rds A hA k hk
  simp only at h1 h2
  have out : ∀ (e0 : Bool) (v : Int) (k' : Nat), run (M_comptoirref21_reader_tags_p5000 A k e0) (M_comptoirref21_reader_tags_p5000 A k e0 (v, A, (k' : Int), true, [])) = some ([], A, (k' : Int), true) := fun e0 v k' => run_inr (by
    simp only [M_comptoirref21_reader_tags_p5000, Tr.val_c, Tr.val_r, beq_self_eq_true, Bool.not_true, cond_true, cond_false]
    cases decide (v > 0) <;> rfl)
  refine ⟨?_, [], k2, hk2, ?_⟩
  · unfold rL
    cases h3 : rN 4 (A.drop k) with
    | none =>
      rw [h3] at h1
      obtain ⟨x, k', hk', h1⟩ := h1
      refine ⟨[], k', hk', ?_⟩
      show g_comptoirref21_reader_tags_p5000 A (k : Int) false = _
      unfold g_comptoirref21_reader_tags_p5000
      rw [run_inl (s := (IntKind.i64.wrap x, A, (k' : Int), true, [])) (by simp only [T_comptoirref21_reader_tags_p5000, Tr.val_c, Tr.val_r, val_opt, h1, Option.bind_some]), out]
    | some q =>
      obtain ⟨v, m⟩ := q
      rw [h3] at h1
      obtain ⟨h4, h1⟩ := h1
      have hm : m = 4 ∧ v = numOf ((A.drop k).take 4) := by
        unfold rN at h3
        split at h3
        · simp only [Option.some.injEq, Prod.mk.injEq] at h3; exact ⟨h3.2.symm, h3.1.symm⟩
        · simp at h3
      obtain ⟨rfl, hv⟩ := hm
      obtain ⟨n, hn, hlt⟩ := hA.num k 4 (by omega)
      rw [← hv] at hn
      subst hn
      have w : IntKind.i64.wrap (n : Int) = (n : Int) := i64_wrap (by omega) (by omega)
      rw [w] at h1
      have L := rtagsL_loop hA A (k : Int) false n [] (k + 4) h4 (by omega) (by simp)
      have R : g_comptoirref21_reader_tags_p5000 A (k : Int) false = run (M_comptoirref21_reader_tags_p5000 A k false) (M_comptoirref21_reader_tags_p5000 A k false ((n : Int), A, ((k + 4 : Nat) : Int), false, [])) := by
        unfold g_comptoirref21_reader_tags_p5000
        rw [run_inl (s := ((n : Int), A, ((k + 4 : Nat) : Int), false, [])) (by simp only [T_comptoirref21_reader_tags_p5000, Tr.val_c, Tr.val_r, val_opt, h1, Option.bind_some])]
      simp only [Option.bind_some, Int.toNat_natCast, List.drop_drop]
      cases h5 : repR (rTagP.mp tagV) n (A.drop (k + 4)) with
      | none =>
        rw [h5] at L
        obtain ⟨x, k', hk', L⟩ := L
        exact ⟨x, k', hk', R.trans L⟩
      | some q =>
        obtain ⟨xs, m⟩ := q
        rw [h5] at L
        refine ⟨by simp only; omega, ?_⟩
        show g_comptoirref21_reader_tags_p5000 A (k : Int) false = _
        rw [R, L.2, Nat.add_assoc]
        rfl
  · show g_comptoirref21_reader_tags_p5000 A (k : Int) true = _
    unfold g_comptoirref21_reader_tags_p5000
    rw [run_inl (s := (IntKind.i64.wrap x2, A, (k2 : Int), true, [])) (by simp only [T_comptoirref21_reader_tags_p5000, Tr.val_c, Tr.val_r, val_opt, h2, Option.bind_some]), out]
theorem rothersL_loop {A : List AV} (hA : Bys A) (A0 : List AV) (p0 : Int) (eb : Bool) : ∀ (n : Nat) (acc : List AV) (k : Nat), k ≤ A.length → n < 4294967296 → acc.length ≤ k →
    match repR (rTagP.mp tagV) n (A.drop k) with
    | some (xs, m) => k + m ≤ A.length ∧ run (M_comptoirref21_reader_others_p5000 A0 p0 eb) (M_comptoirref21_reader_others_p5000 A0 p0 eb ((n : Int), A, (k : Int), false, acc)) = some (acc ++ xs, A, ((k + m : Nat) : Int), false)
    | none => ∃ x, ∃ k' : Nat, k' ≤ A.length ∧ run (M_comptoirref21_reader_others_p5000 A0 p0 eb) (M_comptoirref21_reader_others_p5000 A0 p0 eb ((n : Int), A, (k : Int), false, acc)) = some (x, A, (k' : Int), true)
  | 0, acc, k, hk, _, _ => by
    simp only [repR]
    refine ⟨hk, ?_⟩
    rw [run_inr (x := (acc, A, (k : Int), false))]
    · simp
    · simp only [M_comptoirref21_reader_others_p5000, Tr.val_c, Tr.val_r, beq_self_eq_true, cond_true]
      rfl
  | n + 1, acc, k, hk, hn, hacc => by
    have hl := hA.1
    unfold CAP at hl
    have S := Sim.ok0 (ok := false) (bad := true) hk
    obtain ⟨x0, e0, k0, h0, S⟩ := rnumber_rds.step hA S
    obtain ⟨x1, e1, k1, h1, S⟩ := rtextB_rds.step hA S
    have w : IntKind.i64.wrap (((n + 1 : Nat) : Int) - 1) = (n : Int) := by rw [i64_wrap (by omega) (by omega)]; omega
    have q : ((n + 1 : Nat) : Int) > 0 := by omega
    have b : ∀ y : AV, (acc ++ [y]).length * 33 < 70368744177664 := fun y => by simp only [List.length_append, List.length_cons, List.length_nil]; omega
    have s1 : (M_comptoirref21_reader_others_p5000 A0 p0 eb (((n + 1 : Nat) : Int), A, (k : Int), false, acc)).val = some (.inl ((n : Int), A, k1, e1, acc ++ [.agg [.int .i64 x0, .slice 1 (.int .u8) ((bytesOf x1).map byte) .ro]])) := by
      simp only [M_comptoirref21_reader_others_p5000, Tr.val_c, Tr.val_r, val_opt, h0, h1, q, w, b, decide_true, beq_self_eq_true, Bool.not_false, Option.bind_some, cond_true]
    rw [run_inl s1]
    have SK : ∃ k' : Nat, k1 = (k' : Int) ∧ k' ≤ A.length := by obtain ⟨k', h, h', -⟩ := S; exact ⟨k', h, h'⟩
    have S := S.out
    simp only [repR]
    have eP : rTagP (A.drop k) = ((rU.an rI).an rB) (A.drop k) := rfl
    rw [← eP] at S
    cases h2 : rTagP (A.drop k) with
    | none =>
      rw [h2] at S
      simp only at S
      subst S
      simp only [Rdr.mp, h2, Option.map_none, Option.bind_none]
      obtain ⟨k', hk', hk2⟩ : ∃ k' : Nat, k1 = (k' : Int) ∧ k' ≤ A.length := SK
      subst hk'
      refine ⟨acc ++ [.agg [.int .i64 x0, .slice 1 (.int .u8) ((bytesOf x1).map byte) .ro]], k', hk2, ?_⟩
      refine run_inr ?_
      simp only [M_comptoirref21_reader_others_p5000, Tr.val_c, Tr.val_r, beq_self_eq_true, Bool.not_true, cond_true, cond_false]
      cases decide ((n : Int) > 0) <;> rfl
    | some pr =>
      obtain ⟨x, m⟩ := pr
      rw [h2] at S
      obtain ⟨hk', rfl, rfl, rfl⟩ := S
      have hm : 1 ≤ m := rTagP_pos h2
      have hbt := rTagP_bytes hA h2
      simp only at hbt
      rw [hbt, show AV.agg [.int .i64 x0, .slice 1 (.int .u8) x1 .ro] = tagV (((), x0), x1) from rfl]
      simp only [Rdr.mp, h2, Option.map_some, Option.bind_some, List.drop_drop]
      have ih := rothersL_loop hA A0 p0 eb n (acc ++ [tagV ((((), x0), x1))]) (k + m) hk' (by omega) (by simp only [List.length_append, List.length_cons, List.length_nil]; omega)
      cases h4 : repR (rTagP.mp tagV) n (A.drop (k + m)) with
      | none => rw [h4] at ih; exact ih
      | some q2 =>
        obtain ⟨xs, m2⟩ := q2
        rw [h4] at ih
        refine ⟨by simp only; omega, ?_⟩
        rw [ih.2, Nat.add_assoc]
        simp
theorem rothersL_rds : Rds false true (fun e A k => g_comptoirref21_reader_others_p5000 A k e) (fun x e A k => (x, A, k, e)) (rL (rTagP.mp tagV)) := by
  intro A hA k hk
  obtain ⟨h1, x2, k2, hk2, h2⟩ := rmany_rds A hA k hk
  simp only at h1 h2
  have out : ∀ (e0 : Bool) (v : Int) (k' : Nat), run (M_comptoirref21_reader_others_p5000 A k e0) (M_comptoirref21_reader_others_p5000 A k e0 (v, A, (k' : Int), true, [])) = some ([], A, (k' : Int), true) := fun e0 v k' => run_inr (by
    simp only [M_comptoirref21_reader_others_p5000, Tr.val_c, Tr.val_r, beq_self_eq_true, Bool.not_true, cond_true, cond_false]
    cases decide (v > 0) <;> rfl)
  refine ⟨?_, [], k2, hk2, ?_⟩
  · unfold rL
    cases h3 : rN 4 (A.drop k) with
    | none =>
      rw [h3] at h1
      obtain ⟨x, k', hk', h1⟩ := h1
      refine ⟨[], k', hk', ?_⟩
      show g_comptoirref21_reader_others_p5000 A (k : Int) false = _
      unfold g_comptoirref21_reader_others_p5000
      rw [run_inl (s := (IntKind.i64.wrap x, A, (k' : Int), true, [])) (by simp only [T_comptoirref21_reader_others_p5000, Tr.val_c, Tr.val_r, val_opt, h1, Option.bind_some]), out]
    | some q =>
      obtain ⟨v, m⟩ := q
      rw [h3] at h1
      obtain ⟨h4, h1⟩ := h1
      have hm : m = 4 ∧ v = numOf ((A.drop k).take 4) := by
        unfold rN at h3
        split at h3
        · simp only [Option.some.injEq, Prod.mk.injEq] at h3; exact ⟨h3.2.symm, h3.1.symm⟩
        · simp at h3
      obtain ⟨rfl, hv⟩ := hm
      obtain ⟨n, hn, hlt⟩ := hA.num k 4 (by omega)
      rw [← hv] at hn
      subst hn
      have w : IntKind.i64.wrap (n : Int) = (n : Int) := i64_wrap (by omega) (by omega)
      rw [w] at h1
      have L := rothersL_loop hA A (k : Int) false n [] (k + 4) h4 (by omega) (by simp)
      have R : g_comptoirref21_reader_others_p5000 A (k : Int) false = run (M_comptoirref21_reader_others_p5000 A k false) (M_comptoirref21_reader_others_p5000 A k false ((n : Int), A, ((k + 4 : Nat) : Int), false, [])) := by
        unfold g_comptoirref21_reader_others_p5000
        rw [run_inl (s := ((n : Int), A, ((k + 4 : Nat) : Int), false, [])) (by simp only [T_comptoirref21_reader_others_p5000, Tr.val_c, Tr.val_r, val_opt, h1, Option.bind_some])]
      simp only [Option.bind_some, Int.toNat_natCast, List.drop_drop]
      cases h5 : repR (rTagP.mp tagV) n (A.drop (k + 4)) with
      | none =>
        rw [h5] at L
        obtain ⟨x, k', hk', L⟩ := L
        exact ⟨x, k', hk', R.trans L⟩
      | some q =>
        obtain ⟨xs, m⟩ := q
        rw [h5] at L
        refine ⟨by simp only; omega, ?_⟩
        show g_comptoirref21_reader_others_p5000 A (k : Int) false = _
        rw [R, L.2, Nat.add_assoc]
        rfl
  · show g_comptoirref21_reader_others_p5000 A (k : Int) true = _
    unfold g_comptoirref21_reader_others_p5000
    rw [run_inl (s := (IntKind.i64.wrap x2, A, (k2 : Int), true, [])) (by simp only [T_comptoirref21_reader_others_p5000, Tr.val_c, Tr.val_r, val_opt, h2, Option.bind_some]), out]
theorem rpairsL_loop {A : List AV} (hA : Bys A) (A0 : List AV) (p0 : Int) (eb : Bool) : ∀ (n : Nat) (acc : List AV) (k : Nat), k ≤ A.length → n < 4294967296 → acc.length ≤ k →
    match repR (rPairP.mp pairV) n (A.drop k) with
    | some (xs, m) => k + m ≤ A.length ∧ run (M_comptoirref21_reader_pairs_p5000 A0 p0 eb) (M_comptoirref21_reader_pairs_p5000 A0 p0 eb ((n : Int), A, (k : Int), false, acc)) = some (acc ++ xs, A, ((k + m : Nat) : Int), false)
    | none => ∃ x, ∃ k' : Nat, k' ≤ A.length ∧ run (M_comptoirref21_reader_pairs_p5000 A0 p0 eb) (M_comptoirref21_reader_pairs_p5000 A0 p0 eb ((n : Int), A, (k : Int), false, acc)) = some (x, A, (k' : Int), true)
  | 0, acc, k, hk, _, _ => by
    simp only [repR]
    refine ⟨hk, ?_⟩
    rw [run_inr (x := (acc, A, (k : Int), false))]
    · simp
    · simp only [M_comptoirref21_reader_pairs_p5000, Tr.val_c, Tr.val_r, beq_self_eq_true, cond_true]
      rfl
  | n + 1, acc, k, hk, hn, hacc => by
    have hl := hA.1
    unfold CAP at hl
    have S := Sim.ok0 (ok := false) (bad := true) hk
    obtain ⟨x0, e0, k0, h0, S⟩ := rtext_rds.step hA S
    obtain ⟨x1, e1, k1, h1, S⟩ := rtext_rds.step hA S
    have w : IntKind.i64.wrap (((n + 1 : Nat) : Int) - 1) = (n : Int) := by rw [i64_wrap (by omega) (by omega)]; omega
    have q : ((n + 1 : Nat) : Int) > 0 := by omega
    have b : ∀ y : AV, (acc ++ [y]).length * 33 < 70368744177664 := fun y => by simp only [List.length_append, List.length_cons, List.length_nil]; omega
    have s1 : (M_comptoirref21_reader_pairs_p5000 A0 p0 eb (((n + 1 : Nat) : Int), A, (k : Int), false, acc)).val = some (.inl ((n : Int), A, k1, e1, acc ++ [.agg [.str x0, .str x1]])) := by
      simp only [M_comptoirref21_reader_pairs_p5000, Tr.val_c, Tr.val_r, val_opt, h0, h1, q, w, b, decide_true, beq_self_eq_true, Bool.not_false, Option.bind_some, cond_true]
    rw [run_inl s1]
    have SK : ∃ k' : Nat, k1 = (k' : Int) ∧ k' ≤ A.length := by obtain ⟨k', h, h', -⟩ := S; exact ⟨k', h, h'⟩
    have S := S.out
    simp only [repR]
    have eP : rPairP (A.drop k) = ((rU.an rT).an rT) (A.drop k) := rfl
    rw [← eP] at S
    cases h2 : rPairP (A.drop k) with
    | none =>
      rw [h2] at S
      simp only at S
      subst S
      simp only [Rdr.mp, h2, Option.map_none, Option.bind_none]
      obtain ⟨k', hk', hk2⟩ : ∃ k' : Nat, k1 = (k' : Int) ∧ k' ≤ A.length := SK
      subst hk'
      refine ⟨acc ++ [.agg [.str x0, .str x1]], k', hk2, ?_⟩
      refine run_inr ?_
      simp only [M_comptoirref21_reader_pairs_p5000, Tr.val_c, Tr.val_r, beq_self_eq_true, Bool.not_true, cond_true, cond_false]
      cases decide ((n : Int) > 0) <;> rfl
    | some pr =>
      obtain ⟨x, m⟩ := pr
      rw [h2] at S
      obtain ⟨hk', rfl, rfl, rfl⟩ := S
      have hm : 1 ≤ m := rPairP_pos h2
      rw [show AV.agg [.str x0, .str x1] = pairV (((), x0), x1) from rfl]
      simp only [Rdr.mp, h2, Option.map_some, Option.bind_some, List.drop_drop]
      have ih := rpairsL_loop hA A0 p0 eb n (acc ++ [pairV ((((), x0), x1))]) (k + m) hk' (by omega) (by simp only [List.length_append, List.length_cons, List.length_nil]; omega)
      cases h4 : repR (rPairP.mp pairV) n (A.drop (k + m)) with
      | none => rw [h4] at ih; exact ih
      | some q2 =>
        obtain ⟨xs, m2⟩ := q2
        rw [h4] at ih
        refine ⟨by simp only; omega, ?_⟩
        rw [ih.2, Nat.add_assoc]
        simp
theorem rpairsL_rds : Rds false true (fun e A k => g_comptoirref21_reader_pairs_p5000 A k e) (fun x e A k => (x, A, k, e)) (rL (rPairP.mp pairV)) := by
  intro A hA k hk
  obtain ⟨h1, x2, k2, hk2, h2⟩ := rmany_rds A hA k hk
  simp only at h1 h2
  have out : ∀ (e0 : Bool) (v : Int) (k' : Nat), run (M_comptoirref21_reader_pairs_p5000 A k e0) (M_comptoirref21_reader_pairs_p5000 A k e0 (v, A, (k' : Int), true, [])) = some ([], A, (k' : Int), true) := fun e0 v k' => run_inr (by
    simp only [M_comptoirref21_reader_pairs_p5000, Tr.val_c, Tr.val_r, beq_self_eq_true, Bool.not_true, cond_true, cond_false]
    cases decide (v > 0) <;> rfl)
  refine ⟨?_, [], k2, hk2, ?_⟩
  · unfold rL
    cases h3 : rN 4 (A.drop k) with
    | none =>
      rw [h3] at h1
      obtain ⟨x, k', hk', h1⟩ := h1
      refine ⟨[], k', hk', ?_⟩
      show g_comptoirref21_reader_pairs_p5000 A (k : Int) false = _
      unfold g_comptoirref21_reader_pairs_p5000
      rw [run_inl (s := (IntKind.i64.wrap x, A, (k' : Int), true, [])) (by simp only [T_comptoirref21_reader_pairs_p5000, Tr.val_c, Tr.val_r, val_opt, h1, Option.bind_some]), out]
    | some q =>
      obtain ⟨v, m⟩ := q
      rw [h3] at h1
      obtain ⟨h4, h1⟩ := h1
      have hm : m = 4 ∧ v = numOf ((A.drop k).take 4) := by
        unfold rN at h3
        split at h3
        · simp only [Option.some.injEq, Prod.mk.injEq] at h3; exact ⟨h3.2.symm, h3.1.symm⟩
        · simp at h3
      obtain ⟨rfl, hv⟩ := hm
      obtain ⟨n, hn, hlt⟩ := hA.num k 4 (by omega)
      rw [← hv] at hn
      subst hn
      have w : IntKind.i64.wrap (n : Int) = (n : Int) := i64_wrap (by omega) (by omega)
      rw [w] at h1
      have L := rpairsL_loop hA A (k : Int) false n [] (k + 4) h4 (by omega) (by simp)
      have R : g_comptoirref21_reader_pairs_p5000 A (k : Int) false = run (M_comptoirref21_reader_pairs_p5000 A k false) (M_comptoirref21_reader_pairs_p5000 A k false ((n : Int), A, ((k + 4 : Nat) : Int), false, [])) := by
        unfold g_comptoirref21_reader_pairs_p5000
        rw [run_inl (s := ((n : Int), A, ((k + 4 : Nat) : Int), false, [])) (by simp only [T_comptoirref21_reader_pairs_p5000, Tr.val_c, Tr.val_r, val_opt, h1, Option.bind_some])]
      simp only [Option.bind_some, Int.toNat_natCast, List.drop_drop]
      cases h5 : repR (rPairP.mp pairV) n (A.drop (k + 4)) with
      | none =>
        rw [h5] at L
        obtain ⟨x, k', hk', L⟩ := L
        exact ⟨x, k', hk', R.trans L⟩
      | some q =>
        obtain ⟨xs, m⟩ := q
        rw [h5] at L
        refine ⟨by simp only; omega, ?_⟩
        show g_comptoirref21_reader_pairs_p5000 A (k : Int) false = _
        rw [R, L.2, Nat.add_assoc]
        rfl
  · show g_comptoirref21_reader_pairs_p5000 A (k : Int) true = _
    unfold g_comptoirref21_reader_pairs_p5000
    rw [run_inl (s := (IntKind.i64.wrap x2, A, (k2 : Int), true, [])) (by simp only [T_comptoirref21_reader_pairs_p5000, Tr.val_c, Tr.val_r, val_opt, h2, Option.bind_some]), out]
theorem rmessageR_rds : Rds false true (fun e A k => g_comptoirref21_reader_message_p5000 A k e) (fun p e A k => (p.1.1.1.1.1.1.1.1.1.1.1.1.1.1.1.1.1.1.1.1.2, p.1.1.1.1.1.1.1.1.1.1.1.1.1.1.1.1.1.1.1.2, p.1.1.1.1.1.1.1.1.1.1.1.1.1.1.1.1.1.1.2, p.1.1.1.1.1.1.1.1.1.1.1.1.1.1.1.1.1.2, p.1.1.1.1.1.1.1.1.1.1.1.1.1.1.1.1.2, p.1.1.1.1.1.1.1.1.1.1.1.1.1.1.1.2, p.1.1.1.1.1.1.1.1.1.1.1.1.1.1.2, p.1.1.1.1.1.1.1.1.1.1.1.1.1.2, p.1.1.1.1.1.1.1.1.1.1.1.1.2, p.1.1.1.1.1.1.1.1.1.1.1.2, p.1.1.1.1.1.1.1.1.1.1.2, p.1.1.1.1.1.1.1.1.1.2, p.1.1.1.1.1.1.1.1.2, p.1.1.1.1.1.1.1.2, p.1.1.1.1.1.1.2, p.1.1.1.1.1.2, p.1.1.1.1.2, p.1.1.1.2, p.1.1.2, p.1.2, p.2, A, k, e)) rMsg :=
  Rds.of' (C := fun r0 => (((((((((((((((((((((r0.an rI).an rI).an rT).an rT).an rT).an rT).an (rN 8)).an rT).an rT).an rT).an rT).an rI).an rT).an rT).an rI).an rT).an (rL rTag)).an rT).an rT).an (rL rPair)).an (rL rTag)))  (fun s => by simp [Rdr.an, rF]) fun A hA k0 r0 e k S => by
    obtain ⟨x0, e0, k0, h0, S⟩ := rnumber_rds.step hA S
    obtain ⟨x1, e1, k1, h1, S⟩ := rnumber_rds.step hA S
    obtain ⟨x2, e2, k2, h2, S⟩ := rtext_rds.step hA S
    obtain ⟨x3, e3, k3, h3, S⟩ := rtext_rds.step hA S
    obtain ⟨x4, e4, k4, h4, S⟩ := rtext_rds.step hA S
    obtain ⟨x5, e5, k5, h5, S⟩ := rtext_rds.step hA S
    obtain ⟨x6, e6, k6, h6, S⟩ := rlong_rds.step hA S
    obtain ⟨x7, e7, k7, h7, S⟩ := rtext_rds.step hA S
    obtain ⟨x8, e8, k8, h8, S⟩ := rtext_rds.step hA S
    obtain ⟨x9, e9, k9, h9, S⟩ := rtext_rds.step hA S
    obtain ⟨x10, e10, k10, h10, S⟩ := rtext_rds.step hA S
    obtain ⟨x11, e11, k11, h11, S⟩ := rnumber_rds.step hA S
    obtain ⟨x12, e12, k12, h12, S⟩ := rtext_rds.step hA S
    obtain ⟨x13, e13, k13, h13, S⟩ := rtext_rds.step hA S
    obtain ⟨x14, e14, k14, h14, S⟩ := rnumber_rds.step hA S
    obtain ⟨x15, e15, k15, h15, S⟩ := rtext_rds.step hA S
    obtain ⟨x16, e16, k16, h16, S⟩ := rtagsL_rds.step hA S
    obtain ⟨x17, e17, k17, h17, S⟩ := rtext_rds.step hA S
    obtain ⟨x18, e18, k18, h18, S⟩ := rtext_rds.step hA S
    obtain ⟨x19, e19, k19, h19, S⟩ := rpairsL_rds.step hA S
    obtain ⟨x20, e20, k20, h20, S⟩ := rothersL_rds.step hA S
    refine ⟨_, _, _, ?_, S⟩
    show g_comptoirref21_reader_message_p5000 A k e = _
    unfold g_comptoirref21_reader_message_p5000
    simp only [T_comptoirref21_reader_message_p5000, Tr.val_c, Tr.val_r, val_opt, h0, h1, h2, h3, h4, h5, h6, h7, h8, h9, h10, h11, h12, h13, h14, h15, h16, h17, h18, h19, h20, Option.bind_some]
theorem rresidueR_rds : Rds false true (fun e A k => g_comptoirref21_reader_residue_p5000 A k e) (fun p e A k => (p.1.1.1.1.2, p.1.1.1.2, p.1.1.2, p.1.2, p.2, A, k, e)) rRes :=
  Rds.of' (C := fun r0 => (((((r0.an rT).an rT).an rT).an (rL rPair)).an (rL rTag)))  (fun s => by simp [Rdr.an, rF]) fun A hA k0 r0 e k S => by
    obtain ⟨x0, e0, k0, h0, S⟩ := rtext_rds.step hA S
    obtain ⟨x1, e1, k1, h1, S⟩ := rtext_rds.step hA S
    obtain ⟨x2, e2, k2, h2, S⟩ := rtext_rds.step hA S
    obtain ⟨x3, e3, k3, h3, S⟩ := rpairsL_rds.step hA S
    obtain ⟨x4, e4, k4, h4, S⟩ := rothersL_rds.step hA S
    refine ⟨_, _, _, ?_, S⟩
    show g_comptoirref21_reader_residue_p5000 A k e = _
    unfold g_comptoirref21_reader_residue_p5000
    simp only [T_comptoirref21_reader_residue_p5000, Tr.val_c, Tr.val_r, val_opt, h0, h1, h2, h3, h4, Option.bind_some]
set_option maxRecDepth 100000 in
theorem rdeed1 {A : List AV} (hA : Bys A) {k : Nat} (hk : k + 1 ≤ A.length) :
    ∃ x0 x1 x2 x3 x4 x5 x6 x7 x8 x9 x10 x11 x12 x13 x14 x15 x16 x17 x18 x19 x20 x21 x22 x23 x24 x25 x26 x27 x28 x29 x30 x31 x32 x33 x34 x35 x36 x37 A' k' e, g_comptoirref21_reader_deed_p05000 1 A ((k + 1 : Nat) : Int) false = some (x0, x1, x2, x3, x4, x5, x6, x7, x8, x9, x10, x11, x12, x13, x14, x15, x16, x17, x18, x19, x20, x21, x22, x23, x24, x25, x26, x27, x28, x29, x30, x31, x32, x33, x34, x35, x36, x37, A', k', e) ∧ match rD1 (A.drop (k + 1)) with
      | some (x, n) => k + 1 + n ≤ A.length ∧ dAgg x0 x1 x2 x3 x4 x5 x6 x7 x8 x9 x10 x11 x12 x13 x14 x15 x16 x17 x18 x19 x20 x21 x22 x23 x24 x25 x26 x27 x28 x29 x30 x31 x32 x33 x34 x35 x36 x37 = x ∧ e = false ∧ A' = A ∧ k' = ((k + 1 + n : Nat) : Int)
      | none => e = true := by
  have b1 : ((1 : Int) == 1) = true := rfl
  have b2 : ((1 : Int) == 2) = false := rfl
  have b3 : ((1 : Int) == 3) = false := rfl
  have b4 : ((1 : Int) == 4) = false := rfl
  have b5 : ((1 : Int) == 5) = false := rfl
  have b6 : ((1 : Int) == 6) = false := rfl
  have S := Sim.ok0 (ok := false) (bad := true) hk
  obtain ⟨y0, e0, k0, h0, S⟩ := rlong_rds.step hA S
  refine ⟨1, (y0), 0, 0, 0, 0, 0, 0, 0, 0, 0, 0, [], [], [], [], 0, [], [], [], [], 0, [], [], 0, [], [], [], [], [], [], 0, 0, [], [], [], [], [], A, k0, e0, ?_, ?_⟩
  · unfold g_comptoirref21_reader_deed_p05000
    simp only [T_comptoirref21_reader_deed_p05000, Tr.val_c, Tr.val_r, val_opt, b1, b2, b3, b4, b5, b6, h0, Option.bind_some, cond_true, cond_false]
  · have S := S.out
    unfold rD1 Rdr.mp
    generalize (rU.an (rN 8)) (A.drop (k + 1)) = z at S ⊢
    cases z with
    | none => exact S
    | some q =>
      obtain ⟨b, m⟩ := q
      obtain ⟨s1, rfl, s3, s4⟩ := S
      exact ⟨s1, rfl, s3, rfl, s4⟩
set_option maxRecDepth 100000 in
theorem rdeed2 {A : List AV} (hA : Bys A) {k : Nat} (hk : k + 1 ≤ A.length) :
    ∃ x0 x1 x2 x3 x4 x5 x6 x7 x8 x9 x10 x11 x12 x13 x14 x15 x16 x17 x18 x19 x20 x21 x22 x23 x24 x25 x26 x27 x28 x29 x30 x31 x32 x33 x34 x35 x36 x37 A' k' e, g_comptoirref21_reader_deed_p05000 2 A ((k + 1 : Nat) : Int) false = some (x0, x1, x2, x3, x4, x5, x6, x7, x8, x9, x10, x11, x12, x13, x14, x15, x16, x17, x18, x19, x20, x21, x22, x23, x24, x25, x26, x27, x28, x29, x30, x31, x32, x33, x34, x35, x36, x37, A', k', e) ∧ match rD2 (A.drop (k + 1)) with
      | some (x, n) => k + 1 + n ≤ A.length ∧ dAgg x0 x1 x2 x3 x4 x5 x6 x7 x8 x9 x10 x11 x12 x13 x14 x15 x16 x17 x18 x19 x20 x21 x22 x23 x24 x25 x26 x27 x28 x29 x30 x31 x32 x33 x34 x35 x36 x37 = x ∧ e = false ∧ A' = A ∧ k' = ((k + 1 + n : Nat) : Int)
      | none => e = true := by
  have b1 : ((2 : Int) == 1) = false := rfl
  have b2 : ((2 : Int) == 2) = true := rfl
  have b3 : ((2 : Int) == 3) = false := rfl
  have b4 : ((2 : Int) == 4) = false := rfl
  have b5 : ((2 : Int) == 5) = false := rfl
  have b6 : ((2 : Int) == 6) = false := rfl
  have S := Sim.ok0 (ok := false) (bad := true) hk
  obtain ⟨y0, e0, k0, h0, S⟩ := rnumber_rds.step hA S
  obtain ⟨y1, e1, k1, h1, S⟩ := rnumber_rds.step hA S
  refine ⟨2, 0, (y0), (y1), 0, 0, 0, 0, 0, 0, 0, 0, [], [], [], [], 0, [], [], [], [], 0, [], [], 0, [], [], [], [], [], [], 0, 0, [], [], [], [], [], A, k1, e1, ?_, ?_⟩
  · unfold g_comptoirref21_reader_deed_p05000
    simp only [T_comptoirref21_reader_deed_p05000, Tr.val_c, Tr.val_r, val_opt, b1, b2, b3, b4, b5, b6, h0, h1, Option.bind_some, cond_true, cond_false]
  · have S := S.out
    unfold rD2 Rdr.mp
    generalize ((rU.an rI).an rI) (A.drop (k + 1)) = z at S ⊢
    cases z with
    | none => exact S
    | some q =>
      obtain ⟨b, m⟩ := q
      obtain ⟨s1, rfl, s3, s4⟩ := S
      exact ⟨s1, rfl, s3, rfl, s4⟩
set_option maxRecDepth 100000 in
theorem rdeed3 {A : List AV} (hA : Bys A) {k : Nat} (hk : k + 1 ≤ A.length) :
    ∃ x0 x1 x2 x3 x4 x5 x6 x7 x8 x9 x10 x11 x12 x13 x14 x15 x16 x17 x18 x19 x20 x21 x22 x23 x24 x25 x26 x27 x28 x29 x30 x31 x32 x33 x34 x35 x36 x37 A' k' e, g_comptoirref21_reader_deed_p05000 3 A ((k + 1 : Nat) : Int) false = some (x0, x1, x2, x3, x4, x5, x6, x7, x8, x9, x10, x11, x12, x13, x14, x15, x16, x17, x18, x19, x20, x21, x22, x23, x24, x25, x26, x27, x28, x29, x30, x31, x32, x33, x34, x35, x36, x37, A', k', e) ∧ match rD3 (A.drop (k + 1)) with
      | some (x, n) => k + 1 + n ≤ A.length ∧ dAgg x0 x1 x2 x3 x4 x5 x6 x7 x8 x9 x10 x11 x12 x13 x14 x15 x16 x17 x18 x19 x20 x21 x22 x23 x24 x25 x26 x27 x28 x29 x30 x31 x32 x33 x34 x35 x36 x37 = x ∧ e = false ∧ A' = A ∧ k' = ((k + 1 + n : Nat) : Int)
      | none => e = true := by
  have b1 : ((3 : Int) == 1) = false := rfl
  have b2 : ((3 : Int) == 2) = false := rfl
  have b3 : ((3 : Int) == 3) = true := rfl
  have b4 : ((3 : Int) == 4) = false := rfl
  have b5 : ((3 : Int) == 5) = false := rfl
  have b6 : ((3 : Int) == 6) = false := rfl
  have S := Sim.ok0 (ok := false) (bad := true) hk
  obtain ⟨y0, e0, k0, h0, S⟩ := rnumber_rds.step hA S
  obtain ⟨y1, e1, k1, h1, S⟩ := rnumber_rds.step hA S
  obtain ⟨y2, e2, k2, h2, S⟩ := rnumber_rds.step hA S
  obtain ⟨y3, e3, k3, h3, S⟩ := rnumber_rds.step hA S
  obtain ⟨y4, e4, k4, h4, S⟩ := rnumber_rds.step hA S
  obtain ⟨y5, e5, k5, h5, S⟩ := rlong_rds.step hA S
  obtain ⟨y6, e6, k6, h6, S⟩ := rmessageR_rds.step hA S
  refine ⟨3, 0, 0, 0, (y0), (y1), (y2), (y3), (y4), (y5), (y6.1.1.1.1.1.1.1.1.1.1.1.1.1.1.1.1.1.1.1.1.2), (y6.1.1.1.1.1.1.1.1.1.1.1.1.1.1.1.1.1.1.1.2), (y6.1.1.1.1.1.1.1.1.1.1.1.1.1.1.1.1.1.1.2), (y6.1.1.1.1.1.1.1.1.1.1.1.1.1.1.1.1.1.2), (y6.1.1.1.1.1.1.1.1.1.1.1.1.1.1.1.1.2), (y6.1.1.1.1.1.1.1.1.1.1.1.1.1.1.1.2), (y6.1.1.1.1.1.1.1.1.1.1.1.1.1.1.2), (y6.1.1.1.1.1.1.1.1.1.1.1.1.1.2), (y6.1.1.1.1.1.1.1.1.1.1.1.1.2), (y6.1.1.1.1.1.1.1.1.1.1.1.2), (y6.1.1.1.1.1.1.1.1.1.1.2), (y6.1.1.1.1.1.1.1.1.1.2), (y6.1.1.1.1.1.1.1.1.2), (y6.1.1.1.1.1.1.1.2), (y6.1.1.1.1.1.1.2), (y6.1.1.1.1.1.2), (y6.1.1.1.1.2), (y6.1.1.1.2), (y6.1.1.2), (y6.1.2), (y6.2), 0, 0, [], [], [], [], [], A, k6, e6, ?_, ?_⟩
  · unfold g_comptoirref21_reader_deed_p05000
    simp only [T_comptoirref21_reader_deed_p05000, Tr.val_c, Tr.val_r, val_opt, b1, b2, b3, b4, b5, b6, h0, h1, h2, h3, h4, h5, h6, Option.bind_some, cond_true, cond_false]
  · have S := S.out
    unfold rD3 Rdr.mp
    generalize (((((((rU.an rI).an rI).an rI).an rI).an rI).an (rN 8)).an rMsg) (A.drop (k + 1)) = z at S ⊢
    cases z with
    | none => exact S
    | some q =>
      obtain ⟨b, m⟩ := q
      obtain ⟨s1, rfl, s3, s4⟩ := S
      exact ⟨s1, rfl, s3, rfl, s4⟩
set_option maxRecDepth 100000 in
theorem rdeed4 {A : List AV} (hA : Bys A) {k : Nat} (hk : k + 1 ≤ A.length) :
    ∃ x0 x1 x2 x3 x4 x5 x6 x7 x8 x9 x10 x11 x12 x13 x14 x15 x16 x17 x18 x19 x20 x21 x22 x23 x24 x25 x26 x27 x28 x29 x30 x31 x32 x33 x34 x35 x36 x37 A' k' e, g_comptoirref21_reader_deed_p05000 4 A ((k + 1 : Nat) : Int) false = some (x0, x1, x2, x3, x4, x5, x6, x7, x8, x9, x10, x11, x12, x13, x14, x15, x16, x17, x18, x19, x20, x21, x22, x23, x24, x25, x26, x27, x28, x29, x30, x31, x32, x33, x34, x35, x36, x37, A', k', e) ∧ match rD4 (A.drop (k + 1)) with
      | some (x, n) => k + 1 + n ≤ A.length ∧ dAgg x0 x1 x2 x3 x4 x5 x6 x7 x8 x9 x10 x11 x12 x13 x14 x15 x16 x17 x18 x19 x20 x21 x22 x23 x24 x25 x26 x27 x28 x29 x30 x31 x32 x33 x34 x35 x36 x37 = x ∧ e = false ∧ A' = A ∧ k' = ((k + 1 + n : Nat) : Int)
      | none => e = true := by
  have b1 : ((4 : Int) == 1) = false := rfl
  have b2 : ((4 : Int) == 2) = false := rfl
  have b3 : ((4 : Int) == 3) = false := rfl
  have b4 : ((4 : Int) == 4) = true := rfl
  have b5 : ((4 : Int) == 5) = false := rfl
  have b6 : ((4 : Int) == 6) = false := rfl
  have S := Sim.ok0 (ok := false) (bad := true) hk
  obtain ⟨y0, e0, k0, h0, S⟩ := rnumber_rds.step hA S
  refine ⟨4, 0, (y0), 0, 0, 0, 0, 0, 0, 0, 0, 0, [], [], [], [], 0, [], [], [], [], 0, [], [], 0, [], [], [], [], [], [], 0, 0, [], [], [], [], [], A, k0, e0, ?_, ?_⟩
  · unfold g_comptoirref21_reader_deed_p05000
    simp only [T_comptoirref21_reader_deed_p05000, Tr.val_c, Tr.val_r, val_opt, b1, b2, b3, b4, b5, b6, h0, Option.bind_some, cond_true, cond_false]
  · have S := S.out
    unfold rD4 Rdr.mp
    generalize (rU.an rI) (A.drop (k + 1)) = z at S ⊢
    cases z with
    | none => exact S
    | some q =>
      obtain ⟨b, m⟩ := q
      obtain ⟨s1, rfl, s3, s4⟩ := S
      exact ⟨s1, rfl, s3, rfl, s4⟩
set_option maxRecDepth 100000 in
theorem rdeed5 {A : List AV} (hA : Bys A) {k : Nat} (hk : k + 1 ≤ A.length) :
    ∃ x0 x1 x2 x3 x4 x5 x6 x7 x8 x9 x10 x11 x12 x13 x14 x15 x16 x17 x18 x19 x20 x21 x22 x23 x24 x25 x26 x27 x28 x29 x30 x31 x32 x33 x34 x35 x36 x37 A' k' e, g_comptoirref21_reader_deed_p05000 5 A ((k + 1 : Nat) : Int) false = some (x0, x1, x2, x3, x4, x5, x6, x7, x8, x9, x10, x11, x12, x13, x14, x15, x16, x17, x18, x19, x20, x21, x22, x23, x24, x25, x26, x27, x28, x29, x30, x31, x32, x33, x34, x35, x36, x37, A', k', e) ∧ match rD5 (A.drop (k + 1)) with
      | some (x, n) => k + 1 + n ≤ A.length ∧ dAgg x0 x1 x2 x3 x4 x5 x6 x7 x8 x9 x10 x11 x12 x13 x14 x15 x16 x17 x18 x19 x20 x21 x22 x23 x24 x25 x26 x27 x28 x29 x30 x31 x32 x33 x34 x35 x36 x37 = x ∧ e = false ∧ A' = A ∧ k' = ((k + 1 + n : Nat) : Int)
      | none => e = true := by
  have b1 : ((5 : Int) == 1) = false := rfl
  have b2 : ((5 : Int) == 2) = false := rfl
  have b3 : ((5 : Int) == 3) = false := rfl
  have b4 : ((5 : Int) == 4) = false := rfl
  have b5 : ((5 : Int) == 5) = true := rfl
  have b6 : ((5 : Int) == 6) = false := rfl
  have S := Sim.ok0 (ok := false) (bad := true) hk
  obtain ⟨y0, e0, k0, h0, S⟩ := rnumber_rds.step hA S
  obtain ⟨y1, e1, k1, h1, S⟩ := rlong_rds.step hA S
  obtain ⟨y2, e2, k2, h2, S⟩ := rresidueR_rds.step hA S
  refine ⟨5, 0, 0, 0, 0, 0, 0, 0, 0, 0, 0, 0, [], [], [], [], 0, [], [], [], [], 0, [], [], 0, [], [], [], [], [], [], (y0), (y1), (y2.1.1.1.1.2), (y2.1.1.1.2), (y2.1.1.2), (y2.1.2), (y2.2), A, k2, e2, ?_, ?_⟩
  · unfold g_comptoirref21_reader_deed_p05000
    simp only [T_comptoirref21_reader_deed_p05000, Tr.val_c, Tr.val_r, val_opt, b1, b2, b3, b4, b5, b6, h0, h1, h2, Option.bind_some, cond_true, cond_false]
  · have S := S.out
    unfold rD5 Rdr.mp
    generalize (((rU.an rI).an (rN 8)).an rRes) (A.drop (k + 1)) = z at S ⊢
    cases z with
    | none => exact S
    | some q =>
      obtain ⟨b, m⟩ := q
      obtain ⟨s1, rfl, s3, s4⟩ := S
      exact ⟨s1, rfl, s3, rfl, s4⟩
set_option maxRecDepth 100000 in
theorem rdeed6 {A : List AV} (hA : Bys A) {k : Nat} (hk : k + 1 ≤ A.length) :
    ∃ x0 x1 x2 x3 x4 x5 x6 x7 x8 x9 x10 x11 x12 x13 x14 x15 x16 x17 x18 x19 x20 x21 x22 x23 x24 x25 x26 x27 x28 x29 x30 x31 x32 x33 x34 x35 x36 x37 A' k' e, g_comptoirref21_reader_deed_p05000 6 A ((k + 1 : Nat) : Int) false = some (x0, x1, x2, x3, x4, x5, x6, x7, x8, x9, x10, x11, x12, x13, x14, x15, x16, x17, x18, x19, x20, x21, x22, x23, x24, x25, x26, x27, x28, x29, x30, x31, x32, x33, x34, x35, x36, x37, A', k', e) ∧ match rD6 (A.drop (k + 1)) with
      | some (x, n) => k + 1 + n ≤ A.length ∧ dAgg x0 x1 x2 x3 x4 x5 x6 x7 x8 x9 x10 x11 x12 x13 x14 x15 x16 x17 x18 x19 x20 x21 x22 x23 x24 x25 x26 x27 x28 x29 x30 x31 x32 x33 x34 x35 x36 x37 = x ∧ e = false ∧ A' = A ∧ k' = ((k + 1 + n : Nat) : Int)
      | none => e = true := by
  have b1 : ((6 : Int) == 1) = false := rfl
  have b2 : ((6 : Int) == 2) = false := rfl
  have b3 : ((6 : Int) == 3) = false := rfl
  have b4 : ((6 : Int) == 4) = false := rfl
  have b5 : ((6 : Int) == 5) = false := rfl
  have b6 : ((6 : Int) == 6) = true := rfl
  have S := Sim.ok0 (ok := false) (bad := true) hk
  obtain ⟨y0, e0, k0, h0, S⟩ := rnumber_rds.step hA S
  refine ⟨6, 0, (y0), 0, 0, 0, 0, 0, 0, 0, 0, 0, [], [], [], [], 0, [], [], [], [], 0, [], [], 0, [], [], [], [], [], [], 0, 0, [], [], [], [], [], A, k0, e0, ?_, ?_⟩
  · unfold g_comptoirref21_reader_deed_p05000
    simp only [T_comptoirref21_reader_deed_p05000, Tr.val_c, Tr.val_r, val_opt, b1, b2, b3, b4, b5, b6, h0, Option.bind_some, cond_true, cond_false]
  · have S := S.out
    unfold rD6 Rdr.mp
    generalize (rU.an rI) (A.drop (k + 1)) = z at S ⊢
    cases z with
    | none => exact S
    | some q =>
      obtain ⟨b, m⟩ := q
      obtain ⟨s1, rfl, s3, s4⟩ := S
      exact ⟨s1, rfl, s3, rfl, s4⟩
set_option maxRecDepth 100000 in
theorem rdeed {A : List AV} (hA : Bys A) {k : Nat} (hk : k + 1 ≤ A.length) (v : Nat) (h1 : 1 ≤ v) (h6 : v ≤ 6) :
    ∃ r, rDeed (v : Int) = some r ∧ ∃ x0 x1 x2 x3 x4 x5 x6 x7 x8 x9 x10 x11 x12 x13 x14 x15 x16 x17 x18 x19 x20 x21 x22 x23 x24 x25 x26 x27 x28 x29 x30 x31 x32 x33 x34 x35 x36 x37 A' k' e, g_comptoirref21_reader_deed_p05000 (v : Int) A ((k + 1 : Nat) : Int) false = some (x0, x1, x2, x3, x4, x5, x6, x7, x8, x9, x10, x11, x12, x13, x14, x15, x16, x17, x18, x19, x20, x21, x22, x23, x24, x25, x26, x27, x28, x29, x30, x31, x32, x33, x34, x35, x36, x37, A', k', e) ∧ match r (A.drop (k + 1)) with
      | some (x, n) => k + 1 + n ≤ A.length ∧ dAgg x0 x1 x2 x3 x4 x5 x6 x7 x8 x9 x10 x11 x12 x13 x14 x15 x16 x17 x18 x19 x20 x21 x22 x23 x24 x25 x26 x27 x28 x29 x30 x31 x32 x33 x34 x35 x36 x37 = x ∧ e = false ∧ A' = A ∧ k' = ((k + 1 + n : Nat) : Int)
      | none => e = true := by
  obtain rfl | rfl | rfl | rfl | rfl | rfl : v = 1 ∨ v = 2 ∨ v = 3 ∨ v = 4 ∨ v = 5 ∨ v = 6 := by omega
  · exact ⟨_, rfl, rdeed1 hA hk⟩
  · exact ⟨_, rfl, rdeed2 hA hk⟩
  · exact ⟨_, rfl, rdeed3 hA hk⟩
  · exact ⟨_, rfl, rdeed4 hA hk⟩
  · exact ⟨_, rfl, rdeed5 hA hk⟩
  · exact ⟨_, rfl, rdeed6 hA hk⟩
set_option maxRecDepth 100000 in
theorem unpack_loop {A : List AV} (hA : Bys A) (hl : A.length < 130000000000) : ∀ (m : Nat) (k : Nat) (acc : List AV), k ≤ A.length → A.length - k < m → acc.length ≤ k → run (M_comptoirref21_Unpack A) (M_comptoirref21_Unpack A (A, (k : Int), false, acc)) = some (parseS m (A.drop k) acc)
  | 0, k, acc, _, h, _ => by omega
  | m + 1, k, acc, hk, hm, hacc => by
    by_cases h0 : k = A.length
    · have w : ¬ (k : Int) < (A.length : Int) := by omega
      unfold parseS
      rw [if_pos (by rw [List.length_drop]; omega)]
      exact run_inr (by simp only [M_comptoirref21_Unpack, Tr.val_c, Tr.val_r, w, decide_false, cond_false, beq_self_eq_true, cond_true])
    · have w : (k : Int) < (A.length : Int) := by omega
      have b : ∀ y : AV, (acc ++ [y]).length * 513 < 70368744177664 := fun y => by simp only [List.length_append, List.length_cons, List.length_nil]; omega
      obtain ⟨v, hv, hlt, hr⟩ := rN1 hA (show k < A.length by omega)
      have p := rNumber_eq 1 (by omega) (by omega) A k false hk (by omega)
      rw [if_pos (by omega), hv] at p
      have p : g_comptoirref01_Cursor_Number_p05000 1 A (k : Int) false = some ((v : Int), 0, A, ((k + 1 : Nat) : Int), false) := p
      have wv : IntKind.i64.wrap (v : Int) = (v : Int) := i64_wrap (by omega) (by omega)
      unfold parseS
      rw [if_neg (by rw [List.length_drop]; omega), hv]
      by_cases h1 : (v : Int) < 1
      · have hd : rDeed (v : Int) = none := by
          unfold rDeed
          rw [if_neg (by omega), if_neg (by omega), if_neg (by omega), if_neg (by omega), if_neg (by omega), if_neg (by omega)]
        rw [hd]
        exact run_inr (by simp only [M_comptoirref21_Unpack, Tr.val_c, Tr.val_r, val_opt, w, p, h1, decide_true, Option.bind_some, cond_true])
      by_cases h6 : (v : Int) > 6
      · have hd : rDeed (v : Int) = none := by
          unfold rDeed
          rw [if_neg (by omega), if_neg (by omega), if_neg (by omega), if_neg (by omega), if_neg (by omega), if_neg (by omega)]
        rw [hd]
        exact run_inr (by simp only [M_comptoirref21_Unpack, Tr.val_c, Tr.val_r, val_opt, w, p, h1, h6, decide_true, decide_false, Option.bind_some, cond_true, cond_false])
      obtain ⟨r, hd, x0, x1, x2, x3, x4, x5, x6, x7, x8, x9, x10, x11, x12, x13, x14, x15, x16, x17, x18, x19, x20, x21, x22, x23, x24, x25, x26, x27, x28, x29, x30, x31, x32, x33, x34, x35, x36, x37, A', k', e, h2, h3⟩ := rdeed hA (show k + 1 ≤ A.length by omega) v (by omega) (by omega)
      rw [hd]
      have st : (M_comptoirref21_Unpack A (A, (k : Int), false, acc)).val = if e = false then some (.inl (A', k', e, acc ++ [dAgg x0 x1 x2 x3 x4 x5 x6 x7 x8 x9 x10 x11 x12 x13 x14 x15 x16 x17 x18 x19 x20 x21 x22 x23 x24 x25 x26 x27 x28 x29 x30 x31 x32 x33 x34 x35 x36 x37])) else some (.inr ([], 3)) := by
        simp only [M_comptoirref21_Unpack, Tr.val_c, Tr.val_r, val_opt, w, p, h1, h6, wv, h2, b, decide_true, decide_false, beq_self_eq_true, Option.bind_some, cond_true, cond_false, dAgg]
        cases e <;> rfl
      simp only [List.drop_drop]
      cases h4 : r (A.drop (k + 1)) with
      | none =>
        rw [h4] at h3
        subst h3
        exact run_inr (by rw [st]; rfl)
      | some q =>
        obtain ⟨x, n⟩ := q
        rw [h4] at h3
        obtain ⟨h5, rfl, rfl, rfl, rfl⟩ := h3
        rw [if_pos rfl] at st
        rw [run_inl st, unpack_loop hA hl m (k + 1 + n) _ h5 (by omega) (by simp only [List.length_append, List.length_cons, List.length_nil]; omega), Nat.add_assoc]
theorem Unpack_eq {A : List AV} (hA : Bys A) (hl : A.length < 130000000000) : g_comptoirref21_Unpack A = some (parseS (A.length + 1) A []) := by
  unfold g_comptoirref21_Unpack
  rw [run_inl (s := (A, ((0 : Nat) : Int), false, [])) (by simp only [T_comptoirref21_Unpack, Tr.val_r]; rfl), unpack_loop hA hl (A.length + 1) 0 [] (by omega) (by omega) (by simp), List.drop_zero]
theorem rep_len {r : Rdr AV} (hr : ∀ {s x m}, r s = some (x, m) → 1 ≤ m) : ∀ (n : Nat) (s : List AV) (xs : List AV) (m : Nat), repR r n s = some (xs, m) → xs.length ≤ m
  | 0, s, xs, m, h => by simp only [repR, Option.some.injEq, Prod.mk.injEq] at h; rw [← h.1]; simp
  | n + 1, s, xs, m, h => by
    simp only [repR, Option.bind_eq_some_iff, Option.map_eq_some_iff, Prod.mk.injEq] at h
    obtain ⟨p, hp, q, hq, rfl, rfl⟩ := h
    have := hr (x := p.1) (m := p.2) hp
    have := rep_len hr n _ q.1 q.2 hq
    simp only [List.length_cons]; omega
theorem an_inv {α β : Type} {r : Rdr β} {r' : Rdr α} {s : List AV} {x : β × α} {n : Nat} (h : r.an r' s = some (x, n)) : ∃ n1 n2, r s = some (x.1, n1) ∧ r' (s.drop n1) = some (x.2, n2) ∧ n = n1 + n2 := by
  unfold Rdr.an at h
  simp only [Option.bind_eq_some_iff, Option.map_eq_some_iff, Prod.mk.injEq] at h
  obtain ⟨p, hp, q, hq, rfl, rfl⟩ := h
  exact ⟨_, _, hp, hq, rfl⟩
def Lim {α : Type} (r : Rdr α) : Prop := ∀ s x n, r s = some (x, n) → n ≤ s.length
theorem Lim.an {α β : Type} {r : Rdr β} {r' : Rdr α} (h : Lim r) (h' : Lim r') : Lim (r.an r') := fun s x n e => by
  obtain ⟨n1, n2, e1, e2, rfl⟩ := an_inv e
  have := h _ _ _ e1
  have := h' _ _ _ e2
  rw [List.length_drop] at this
  omega
theorem Lim.mp {α β : Type} {r : Rdr α} (f : α → β) (h : Lim r) : Lim (r.mp f) := fun s x n e => by
  unfold Rdr.mp at e
  simp only [Option.map_eq_some_iff, Prod.mk.injEq] at e
  obtain ⟨p, hp, _, rfl⟩ := e
  exact h _ _ _ hp
theorem Lim.n (k : Nat) : Lim (rN k) := fun s x n e => by
  unfold rN at e
  split at e <;> simp at e
  omega
theorem Lim.u : Lim rU := fun s x n e => by
  unfold rU at e
  simp at e
  omega
theorem Lim.b : Lim rB := fun s x n e => by
  unfold rB rTk at e
  simp only [Option.bind_eq_some_iff, Option.map_eq_some_iff, Prod.mk.injEq] at e
  obtain ⟨p, hp, q, hq, _, rfl⟩ := e
  have := Lim.n 4 _ _ _ hp
  split at hq <;> simp at hq
  rename_i hl
  rw [List.length_drop] at hl
  unfold rN at hp
  split at hp <;> simp at hp
  rw [← hq]
  simp only
  omega
theorem Lim.tag : Lim rTag := ((Lim.u.an ((Lim.u.an (Lim.n 8)).mp _)).an Lim.b).mp _
theorem Lim.t : Lim rT := (Lim.u.an Lim.b).mp _
theorem Lim.pair : Lim rPair := ((Lim.u.an Lim.t).an Lim.t).mp _
theorem Lim.rep {r : Rdr AV} (h : Lim r) : ∀ n, Lim (repR r n)
  | 0 => fun s x n e => by simp only [repR, Option.some.injEq, Prod.mk.injEq] at e; omega
  | n + 1 => fun s x m e => by
    simp only [repR, Option.bind_eq_some_iff, Option.map_eq_some_iff, Prod.mk.injEq] at e
    obtain ⟨p, hp, q, hq, _, rfl⟩ := e
    have := h _ _ _ hp
    have := Lim.rep h n _ _ _ hq
    rw [List.length_drop] at this
    omega
theorem rL_len {r : Rdr AV} (hl : Lim r) (hr : ∀ {s x m}, r s = some (x, m) → 1 ≤ m) {s : List AV} {xs : List AV} {m : Nat} (h : rL r s = some (xs, m)) : xs.length ≤ s.length := by
  unfold rL at h
  simp only [Option.bind_eq_some_iff, Option.map_eq_some_iff, Prod.mk.injEq] at h
  obtain ⟨p, hp, q, hq, rfl, rfl⟩ := h
  have := rep_len hr _ _ _ _ hq
  have := hl.rep _ _ _ _ hq
  rw [List.length_drop] at this
  omega
theorem tag_pos {s x m} (h : rTag s = some (x, m)) : 1 ≤ m := mp_pos rTagP_pos h
theorem pair_pos {s x m} (h : rPair s = some (x, m)) : 1 ≤ m := mp_pos rPairP_pos h
theorem mp_inv {α β : Type} {r : Rdr α} {f : α → β} {s : List AV} {y : β} {n : Nat} (h : r.mp f s = some (y, n)) : ∃ x, r s = some (x, n) ∧ f x = y := by
  unfold Rdr.mp at h
  simp only [Option.map_eq_some_iff, Prod.mk.injEq] at h
  obtain ⟨p, hp, rfl, rfl⟩ := h
  exact ⟨_, hp, rfl⟩
theorem res_lists {s : List AV} {x} {n : Nat} (h : rRes s = some (x, n)) : x.1.2.length ≤ s.length ∧ x.2.length ≤ s.length := by
  obtain ⟨n1, n2, e1, e2, -⟩ := an_inv h
  have l2 := rL_len Lim.tag tag_pos e2
  obtain ⟨n3, n4, e3, e4, -⟩ := an_inv e1
  have l1 := rL_len Lim.pair pair_pos e4
  rw [List.length_drop] at l1 l2
  omega
theorem msg_lists {s : List AV} {x} {n : Nat} (h : rMsg s = some (x, n)) : x.1.1.1.1.2.length ≤ s.length ∧ x.1.2.length ≤ s.length ∧ x.2.length ≤ s.length := by
  obtain ⟨n1, n2, e1, e2, -⟩ := an_inv h
  have l2 := rL_len Lim.tag tag_pos e2
  obtain ⟨n3, n4, e3, e4, -⟩ := an_inv e1
  have l1 := rL_len Lim.pair pair_pos e4
  obtain ⟨n5, n6, e5, e6, -⟩ := an_inv e3
  obtain ⟨n7, n8, e7, e8, -⟩ := an_inv e5
  obtain ⟨n9, n10, e9, e10, -⟩ := an_inv e7
  have l0 := rL_len Lim.tag tag_pos e10
  rw [List.length_drop] at l0 l1 l2
  omega
theorem fit0 : ([] : List AV).length < CAP := by unfold CAP; simp
theorem rD_fit {v : Int} {r : Rdr AV} (hr : rDeed v = some r) {s : List AV} {x : AV} {n : Nat} (hs : s.length < CAP) (h : r s = some (x, n)) : Fit x := by
  unfold rDeed at hr
  split at hr
  · simp only [Option.some.injEq] at hr; subst hr
    obtain ⟨y, _, rfl⟩ := mp_inv h
    exact ⟨fit0, fit0, fit0, fit0, fit0⟩
  split at hr
  · simp only [Option.some.injEq] at hr; subst hr
    obtain ⟨y, _, rfl⟩ := mp_inv h
    exact ⟨fit0, fit0, fit0, fit0, fit0⟩
  split at hr
  · simp only [Option.some.injEq] at hr; subst hr
    obtain ⟨y, e, rfl⟩ := mp_inv h
    obtain ⟨n1, n2, _, e2, -⟩ := an_inv e
    obtain ⟨a, b, c⟩ := msg_lists e2
    rw [List.length_drop] at a b c
    exact ⟨Nat.lt_of_le_of_lt (Nat.le_trans a (Nat.sub_le _ _)) hs, Nat.lt_of_le_of_lt (Nat.le_trans b (Nat.sub_le _ _)) hs, Nat.lt_of_le_of_lt (Nat.le_trans c (Nat.sub_le _ _)) hs, fit0, fit0⟩
  split at hr
  · simp only [Option.some.injEq] at hr; subst hr
    obtain ⟨y, _, rfl⟩ := mp_inv h
    exact ⟨fit0, fit0, fit0, fit0, fit0⟩
  split at hr
  · simp only [Option.some.injEq] at hr; subst hr
    obtain ⟨y, e, rfl⟩ := mp_inv h
    obtain ⟨n1, n2, _, e2, -⟩ := an_inv e
    obtain ⟨b, c⟩ := res_lists e2
    rw [List.length_drop] at b c
    exact ⟨fit0, fit0, fit0, Nat.lt_of_le_of_lt (Nat.le_trans b (Nat.sub_le _ _)) hs, Nat.lt_of_le_of_lt (Nat.le_trans c (Nat.sub_le _ _)) hs⟩
  split at hr
  · simp only [Option.some.injEq] at hr; subst hr
    obtain ⟨y, _, rfl⟩ := mp_inv h
    exact ⟨fit0, fit0, fit0, fit0, fit0⟩
  · simp at hr
theorem parseS_fit : ∀ (m : Nat) (s acc : List AV), s.length < CAP → (∀ y ∈ acc, Fit y) → (∀ y ∈ (parseS m s acc).1, Fit y) ∧ (parseS m s acc).1.length ≤ acc.length + m
  | 0, s, acc, _, h => ⟨h, Nat.le_refl _⟩
  | m + 1, s, acc, hs, h => by
    unfold parseS
    split
    · exact ⟨h, by simp only; omega⟩
    · split
      · exact ⟨fun y hy => by simp at hy, by simp⟩
      · rename_i r hr
        split
        · exact ⟨fun y hy => by simp at hy, by simp⟩
        · rename_i x n hx
          have f := rD_fit hr (s := s.drop 1) (by rw [List.length_drop]; omega) hx
          obtain ⟨a, b⟩ := parseS_fit m (s.drop (1 + n)) (acc ++ [x]) (by rw [List.length_drop]; omega) (fun y hy => by
            rcases List.mem_append.1 hy with hy | hy
            · exact h y hy
            · rw [List.mem_singleton.1 hy]; exact f)
          refine ⟨a, ?_⟩
          rw [List.length_append] at b
          simp only [List.length_cons, List.length_nil] at b
          omega
set_option maxRecDepth 100000 in
theorem ptells_eq (L : List AV) (b : List UInt8) (h : bulkL L ≤ 1048576) (hb : b.length < TOP) : g_comptoirlaw21_PackTells L (bl b) = some true := by
  obtain ⟨f, hf⟩ := few_all L h
  have lb : (bl b).length = b.length := by simp [bl]
  unfold g_comptoirlaw21_PackTells
  have skip : run (M_comptoirlaw21_PackTells L (bl b)) (M_comptoirlaw21_PackTells L (bl b) true) = some true :=
    run_inr (by simp only [M_comptoirlaw21_PackTells, Tr.val_c, Tr.val_r, val_opt, awake21, Option.bind_some, cond_true])
  cases f with
  | false =>
    rw [run_inl (s := true) (by simp only [T_comptoirlaw21_PackTells, Tr.val_c, Tr.val_r, val_opt, hf, Option.bind_some, Bool.not_false, cond_true])]
    exact skip
  | true =>
    by_cases hl : ((bl b).length : Int) > 3000
    · rw [run_inl (s := true) (by simp only [T_comptoirlaw21_PackTells, Tr.val_c, Tr.val_r, val_opt, hf, hl, Option.bind_some, Bool.not_true, cond_false, decide_true])]
      exact skip
    · rw [run_inl (s := false) (by simp only [T_comptoirlaw21_PackTells, Tr.val_c, Tr.val_r, val_opt, hf, hl, Option.bind_some, Bool.not_true, cond_false, decide_false])]
      have hA : Bys (bl b) := ⟨by unfold CAP; omega, b, rfl⟩
      have p := Parse_eq hA (by omega)
      have u := Unpack_eq hA (by omega)
      obtain ⟨pf, pl⟩ := parseS_fit ((bl b).length + 1) (bl b) [] hA.1 (fun y hy => by simp at hy)
      have s := Same_Deed_refl _ pf (by simp only [List.length_nil] at pl; omega)
      obtain ⟨d1, l1⟩ := deeds_all L h
      have n := bulkL_len L
      have d2 := Pack_eq L (by unfold CAP; omega) (fit_of h) (by unfold CAP; omega)
      have k := Kept_self (bl b) 71 (by omega)
      have q : (bl b).length * 4 < 70368744177600 := by omega
      generalize parseS ((bl b).length + 1) (bl b) [] = P at *
      obtain ⟨P1, P2⟩ := P
      exact run_inr (by simp only [M_comptoirlaw21_PackTells, Tr.val_c, Tr.val_r, val_opt, awake21, p, u, s, d1, d2, k, q, Option.bind_some, decide_true, beq_self_eq_true, cond_true, cond_false])
end Go.Proofs.Ytfhgmpeplfjmcaa
