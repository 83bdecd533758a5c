/- What the printed functions come to, plainly. -/
import Derived.Test.YtgjgfmeepgiddaaGreatYkG5
import Derived.Test.YtgjgfmeepgiddaaGreatCxAm
namespace Go.Proofs.YtgjgfmeepgiddaaGreat
open Go.Cx Go.Cx.AV
set_option linter.unusedSimpArgs false
set_option linter.unusedVariables false
theorem Grow_eq (n : Int) (h0 : 0 ≤ n) (h : n < 35184372088832) : g_slices_Grow_byte_byte n = some [] := by
  unfold g_slices_Grow_byte_byte
  have w : IntKind.i64.wrap (n - 0) = n := by rw [Int.sub_zero]; exact i64_wrap (by omega) (by omega)
  have hn0 : ¬ (n < 0) := by omega
  have hT : (T_slices_Grow_byte_byte n).val = some (.inl (.inl ())) := by simp only [T_slices_Grow_byte_byte, Tr.val_c, Tr.val_r, hn0]; rfl
  rw [run_inl hT]
  rw [run_inl (s := .inr ())]
  · exact run_inr rfl
  · simp only [M_slices_Grow_byte_byte, Tr.val_c, Tr.val_r, w, List.length_replicate]
    by_cases hn : n > 0
    · have : n.toNat * 2 < 70368744177664 := by omega
      simp [hn, this]
    · simp [hn]
theorem Concat_eq (a b : List AV) (h : a.length + b.length < 17592186044416) : g_slices_Concat_byte_byte [.slice 1 (.int .u8) a .ro, .slice 1 (.int .u8) b .ro] = some (a ++ b) := by
  have e0 : getXs (List.getD [AV.slice 1 (.int .u8) a .ro, .slice 1 (.int .u8) b .ro] (Int.toNat 0) (.slice 1 (.int .u8) [] .ro)) = a := rfl
  have e1 : getXs (List.getD [AV.slice 1 (.int .u8) a .ro, .slice 1 (.int .u8) b .ro] (Int.toNat 1) (.slice 1 (.int .u8) [] .ro)) = b := rfl
  have w0 : IntKind.i64.wrap (0 + (a.length : Int)) = a.length := by rw [Int.zero_add]; exact i64_wrap (by omega) (by omega)
  have w1 : IntKind.i64.wrap ((a.length : Int) + b.length) = ((a.length + b.length : Nat) : Int) := by rw [i64_wrap (by omega) (by omega)]; omega
  have w2 : IntKind.i64.wrap (0 + 1) = 1 := rfl
  have w3 : IntKind.i64.wrap (1 + 1) = 2 := rfl
  have n0 : ¬ ((a.length : Int) < 0) := by omega
  have n1 : ¬ (((a.length + b.length : Nat) : Int) < 0) := by omega
  have l0 : a.length * 2 < 70368744177664 := by omega
  have l1 : (a.length + b.length) * 2 < 70368744177664 := by omega
  have gr := Grow_eq (((a.length + b.length : Nat) : Int)) (by omega) (by omega)
  unfold g_slices_Concat_byte_byte
  rw [run_inl (s := .inl (0, 0)) rfl]
  rw [run_inl (s := .inl ((a.length : Int), 1)) (by simp only [M_slices_Concat_byte_byte, Tr.val_c, Tr.val_r, e0, w0, w2, n0]; rfl)]
  rw [run_inl (s := .inl (((a.length + b.length : Nat) : Int), 2)) (by simp only [M_slices_Concat_byte_byte, Tr.val_c, Tr.val_r, e1, w1, w3, n1]; rfl)]
  rw [run_inl (s := .inr ([], 0)) (by simp only [M_slices_Concat_byte_byte, Tr.val_c, Tr.val_r, gr, opt_some]; rfl)]
  rw [run_inl (s := .inr (a, 1)) (by simp only [M_slices_Concat_byte_byte, Tr.val_c, Tr.val_r, e0, w2, List.nil_append, l0, decide_true, beq_self_eq_true]; rfl)]
  rw [run_inl (s := .inr (a ++ b, 2)) (by simp only [M_slices_Concat_byte_byte, Tr.val_c, Tr.val_r, e1, w3, List.length_append, l1, decide_true, beq_self_eq_true]; rfl)]
  exact run_inr (by simp only [M_slices_Concat_byte_byte, Tr.val_c, Tr.val_r, beq_self_eq_true]; rfl)
theorem shr8 (v : Int) : ∀ i : Nat, i < 8 → IntKind.u8.wrap (shrA .u64 v (8 * (i : Int))) = v / 256 ^ i % 256
  | 0, _ => by rw [u8_mod]; show v.fdiv 1 % 256 = _; rw [Int.fdiv_eq_ediv_of_nonneg _ (by decide)]; rfl
  | 1, _ => by rw [u8_mod]; show v.fdiv 256 % 256 = _; rw [Int.fdiv_eq_ediv_of_nonneg _ (by decide)]; rfl
  | 2, _ => by rw [u8_mod]; show v.fdiv 65536 % 256 = _; rw [Int.fdiv_eq_ediv_of_nonneg _ (by decide)]; rfl
  | 3, _ => by rw [u8_mod]; show v.fdiv 16777216 % 256 = _; rw [Int.fdiv_eq_ediv_of_nonneg _ (by decide)]; rfl
  | 4, _ => by rw [u8_mod]; show v.fdiv 4294967296 % 256 = _; rw [Int.fdiv_eq_ediv_of_nonneg _ (by decide)]; rfl
  | 5, _ => by rw [u8_mod]; show v.fdiv 1099511627776 % 256 = _; rw [Int.fdiv_eq_ediv_of_nonneg _ (by decide)]; rfl
  | 6, _ => by rw [u8_mod]; show v.fdiv 281474976710656 % 256 = _; rw [Int.fdiv_eq_ediv_of_nonneg _ (by decide)]; rfl
  | 7, _ => by rw [u8_mod]; show v.fdiv 72057594037927936 % 256 = _; rw [Int.fdiv_eq_ediv_of_nonneg _ (by decide)]; rfl
  | n + 8, h => by omega
def bex (v : Int) : Nat → List AV
  | 0 => []
  | i + 1 => .int .u8 (v / 256 ^ i % 256) :: bex v i
@[simp] theorem length_bex (v : Int) (i : Nat) : (bex v i).length = i := by induction i <;> simp [bex, *]
theorem set_last (r : List AV) (x y : AV) (j : Nat) : (List.replicate (j + 1) x ++ r).set j y = List.replicate j x ++ y :: r := by
  induction j with
  | zero => rfl
  | succ j ih => rw [List.replicate_succ (n := j + 1), List.cons_append, List.set_cons_succ, ih]; rfl
theorem Put_eq (x0 : List AV) (v n : Int) (m : Nat) (hx : x0.length < 8796093022208) (hm : m ≤ 8) (hn : (if 8 < (if 0 > n then 0 else n) then 8 else if 0 > n then 0 else n) = (m : Int)) : g_cursor_Put x0 v n = some (x0 ++ bex v m) := by
  unfold g_cursor_Put
  have hr : m * 2 < 70368744177664 := by omega
  have h0 : (0 : Int) ≤ m := by omega
  rw [run_inl (s := ((m : Int), (m : Int), List.replicate m (.int .u8 0), 0))]
  rotate_left
  · simp only [T_cursor_Put, Tr.val_c, Tr.val_r, hn, h0, Int.toNat_natCast, List.length_replicate, hr, decide_true, cond_true, beq_self_eq_true]
  have key : ∀ k i, i + k = m → run (M_cursor_Put x0 v n) (M_cursor_Put x0 v n ((m : Int), (m : Int), List.replicate k (.int .u8 0) ++ bex v i, (i : Int))) = some (x0 ++ bex v m) := by
    intro k
    induction k with
    | zero =>
      intro i hi
      have : i = m := by omega
      subst this
      have hlt : ¬ ((i : Int) < i) := by omega
      have hc := Concat_eq x0 (bex v i) (by simp; omega)
      exact run_inr (by simp only [M_cursor_Put, Tr.val_c, Tr.val_r, hlt, List.replicate_zero, List.nil_append, val_opt, hc, Option.bind_some, decide_false, cond_false, beq_self_eq_true, cond_true])
    | succ k ih =>
      intro i hi
      have q1 : (i : Int) < m := by omega
      have w1 : IntKind.i64.wrap (8 * (i : Int)) = 8 * i := i64_wrap (by omega) (by omega)
      have w2 : IntKind.i64.wrap ((m : Int) - 1) = m - 1 := i64_wrap (by omega) (by omega)
      have w3 : IntKind.i64.wrap ((m : Int) - 1 - i) = (k : Int) := by rw [i64_wrap (by omega) (by omega)]; omega
      have w4 : IntKind.i64.wrap ((i : Int) + 1) = ((i + 1 : Nat) : Int) := by rw [i64_wrap (by omega) (by omega)]; omega
      have q2 : (0 : Int) ≤ 8 * i := by omega
      have q3 : (0 : Int) ≤ k := by omega
      have hl : (List.replicate (k + 1) (AV.int .u8 0) ++ bex v i).length = m := by simp; omega
      have hl2 : (List.replicate k (AV.int .u8 0) ++ AV.int .u8 (v / 256 ^ i % 256) :: bex v i).length = m := by simp; omega
      have q4 : (k : Int) < m := by omega
      have q5 : k < m := by omega
      rw [run_inl (s := ((m : Int), (m : Int), List.replicate k (.int .u8 0) ++ bex v (i + 1), ((i + 1 : Nat) : Int)))]
      · exact ih (i + 1) (by omega)
      · simp only [M_cursor_Put, Tr.val_c, Tr.val_r, q1, w1, w2, w3, w4, q2, q3, q4, q5, hl, Int.toNat_natCast, shr8 v i (by omega), decide_true, cond_true, beq_self_eq_true, set_last, hl2]
        rfl
  have := key m 0 (by omega)
  simpa [bex] using this
theorem take_eq (n : Int) (b : List AV) (k : Nat) (hk : k ≤ b.length) (hb : b.length < 8796093022208) :
    g_cursor_Cursor_take_p0500 n b k = some (if n < 0 then ([], 1, b, (k : Int)) else if n > b.length - k then ([], 3, b, (k : Int)) else ((b.drop k).take n.toNat, 0, b, (k : Int) + n)) := by
  unfold g_cursor_Cursor_take_p0500
  have w0 : IntKind.i64.wrap ((b.length : Int) - k) = b.length - k := i64_wrap (by omega) (by omega)
  by_cases h1 : n < 0
  · simp only [T_cursor_Cursor_take_p0500, Tr.val_c, Tr.val_r, h1, decide_true, cond_true, if_true]
  · by_cases h2 : n > (b.length : Int) - k
    · simp only [T_cursor_Cursor_take_p0500, Tr.val_c, Tr.val_r, h1, h2, w0, decide_true, decide_false, cond_true, cond_false, if_true, if_false]
    · have w1 : IntKind.i64.wrap ((k : Int) + n) = k + n := i64_wrap (by omega) (by omega)
      have w2 : IntKind.i64.wrap ((k : Int) + n - n) = k := by rw [i64_wrap (by omega) (by omega)]; omega
      have q1 : (0 : Int) ≤ k + n := by omega
      have q2 : (k : Int) + n ≤ b.length := by omega
      have q3 : (0 : Int) ≤ k := by omega
      have q4 : (k : Int) ≤ k + n := by omega
      have hd : ((b.take ((k : Int) + n).toNat).drop (k : Int).toNat) = (b.drop k).take n.toNat := by
        rw [List.drop_take]; congr 1; omega
      simp only [T_cursor_Cursor_take_p0500, Tr.val_c, Tr.val_r, h1, h2, w0, w1, w2, q1, q2, q3, q4, hd, decide_true, decide_false, cond_true, cond_false, if_false]
theorem read_eq (n : Int) (b : List AV) (k : Int) : g_cursor_read_ftake_0p500 n b k = g_cursor_Cursor_take_p0500 n b k := by
  conv => lhs; unfold g_cursor_read_ftake_0p500
  simp only [T_cursor_read_ftake_0p500, Tr.val_c, Tr.val_r, val_opt]
  cases g_cursor_Cursor_take_p0500 n b k <;> rfl
def numOf (l : List AV) : Int := l.foldl (fun a x => bitsA .or .u64 (shlA .u64 a 8) (IntKind.u64.wrap (getI x))) 0
theorem Number_eq (n : Int) (b : List AV) (k : Nat) (hk : k ≤ b.length) (hb : b.length < 8796093022208) :
    g_cursor_Cursor_Number_p0500 n b k = some (if n < 1 then (0, 1, b, (k : Int)) else if n > 8 then (0, 1, b, (k : Int)) else if n > b.length - k then (0, 3, b, (k : Int)) else (numOf ((b.drop k).take n.toNat), 0, b, (k : Int) + n)) := by
  unfold g_cursor_Cursor_Number_p0500
  by_cases h1 : n < 1
  · rw [run_inr (x := (0, 1, b, (k : Int))) (by simp only [T_cursor_Cursor_Number_p0500, Tr.val_c, Tr.val_r, h1, decide_true, cond_true])]
    simp [h1]
  by_cases h2 : n > 8
  · rw [run_inr (x := (0, 1, b, (k : Int))) (by simp only [T_cursor_Cursor_Number_p0500, Tr.val_c, Tr.val_r, h1, h2, decide_true, decide_false, cond_true, cond_false])]
    simp [h1, h2]
  have loop : ∀ (e : Int) (l : List AV) (b2 : List AV) (at' : Int), l.length < 8796093022208 → ∀ m i v, i + m = l.length → run (M_cursor_Cursor_Number_p0500 n b k) (M_cursor_Cursor_Number_p0500 n b k (e, l, (l.length : Int), b2, at', v, (i : Int))) =
      some ((l.drop i).foldl (fun a x => bitsA .or .u64 (shlA .u64 a 8) (IntKind.u64.wrap (getI x))) v, e, b2, at') := by
    intro e l b2 at' hl m
    induction m with
    | zero =>
      intro i v hi
      have hlt : ¬ ((i : Int) < l.length) := by omega
      rw [List.drop_of_length_le (by omega)]
      exact run_inr (by simp only [M_cursor_Cursor_Number_p0500, Tr.val_c, Tr.val_r, hlt, decide_false, cond_false]; rfl)
    | succ m ih =>
      intro i v hi
      have q1 : (i : Int) < l.length := by omega
      have q2 : (0 : Int) ≤ i := by omega
      have q3 : i < l.length := by omega
      have w : IntKind.i64.wrap ((i : Int) + 1) = ((i + 1 : Nat) : Int) := by rw [i64_wrap (by omega) (by omega)]; omega
      have hg : l.getD i (.int .u8 0) = l[i] := by simp [List.getD_eq_getElem?_getD, q3]
      rw [run_inl (s := (e, l, (l.length : Int), b2, at', bitsA .or .u64 (shlA .u64 v 8) (IntKind.u64.wrap (getI l[i])), ((i + 1 : Nat) : Int))) (by simp only [M_cursor_Cursor_Number_p0500, Tr.val_c, Tr.val_r, q1, q2, w, hg, Int.toNat_natCast, decide_true, cond_true]), ih (i + 1) _ (by omega), List.drop_eq_getElem_cons q3, List.foldl_cons]
  have ht := take_eq n b k hk hb
  have h0 : ¬ n < 0 := by omega
  by_cases h3 : n > (b.length : Int) - k
  · rw [run_inl (s := (3, [], ((([] : List AV).length : Nat) : Int), b, (k : Int), 0, ((0 : Nat) : Int)))]
    · rw [loop 3 [] b k (by simp) 0 0 0 rfl]
      simp [h1, h2, h3]
    · simp only [T_cursor_Cursor_Number_p0500, Tr.val_c, Tr.val_r, val_opt, h1, h2, h0, h3, read_eq, ht, Option.bind_some, if_true, if_false, decide_false, cond_false]
      rfl
  · rw [run_inl (s := (0, (b.drop k).take n.toNat, ((((b.drop k).take n.toNat).length : Nat) : Int), b, (k : Int) + n, 0, ((0 : Nat) : Int)))]
    · rw [loop 0 _ b _ (by simp only [List.length_take, List.length_drop]; omega) ((b.drop k).take n.toNat).length 0 0 (by omega)]
      simp only [h1, h2, h3, if_false, List.drop_zero, numOf]
    · simp only [T_cursor_Cursor_Number_p0500, Tr.val_c, Tr.val_r, val_opt, h1, h2, h0, h3, read_eq, ht, Option.bind_some, if_true, if_false, decide_false, cond_false]
      rfl
theorem New_eq (b : List AV) (hb : b.length < 8796093022208) : g_cursor_New b = some (b, 0) := by
  have : b.length * 2 < 70368744177664 := by omega
  unfold g_cursor_New
  simp only [T_cursor_New, Tr.val_c, Tr.val_r, this, decide_true, cond_true]
theorem Take_eq (n : Int) (b : List AV) (k : Nat) (hk : k ≤ b.length) (hb : b.length < 8796093022208) :
    g_cursor_Cursor_Take_p0500 n b k = some (if n < 0 then ([], 1, b, (k : Int)) else if n > b.length - k then ([], 3, b, (k : Int)) else ((b.drop k).take n.toNat, 0, b, (k : Int) + n)) := by
  have h := take_eq n b k hk hb
  have hl : ∀ m : Nat, ((b.drop k).take m).length * 2 < 70368744177664 := by
    intro m; simp only [List.length_take, List.length_drop]; omega
  unfold g_cursor_Cursor_Take_p0500
  simp only [T_cursor_Cursor_Take_p0500, Tr.val_c, Tr.val_r, val_opt, read_eq, h, Option.bind_some]
  by_cases h1 : n < 0
  · simp [h1]
  · by_cases h2 : n > (b.length : Int) - k
    · simp [h1, h2]
    · simp only [h1, h2, if_false, hl, decide_true, cond_true]
theorem foldl_bex (v : Nat) : ∀ (i a : Nat), i ≤ 8 → a < 256 ^ (8 - i) → (bex (v : Int) i).foldl (fun a x => bitsA .or .u64 (shlA .u64 a 8) (IntKind.u64.wrap (getI x))) (a : Int) = ((a * 256 ^ i + v % 256 ^ i : Nat) : Int)
  | 0, a, _, _ => by
    show (a : Int) = _
    rw [Nat.pow_zero, Nat.mod_one, Nat.mul_one, Nat.add_zero]
  | i + 1, a, hi, ha => by
    have e8 : 8 - i = (8 - (i + 1)) + 1 := by omega
    have hp : 256 ^ (8 - i) = 256 * 256 ^ (8 - (i + 1)) := by rw [e8, Nat.pow_succ, Nat.mul_comm]
    have h7 : 256 ^ (8 - (i + 1)) ≤ 256 ^ 7 := Nat.pow_le_pow_right (by omega) (by omega)
    have hy : v / 256 ^ i % 256 < 256 := Nat.mod_lt _ (by omega)
    have hb := byte_behind (a := a) (y := v / 256 ^ i % 256) (by omega) hy
    have hc : ((v : Int) / 256 ^ i % 256) = ((v / 256 ^ i % 256 : Nat) : Int) := by rw [Int.natCast_emod, Int.natCast_ediv, Int.natCast_pow]; rfl
    rw [bex, List.foldl_cons, getI_int, hc, hb, foldl_bex v i _ (by omega) (by rw [hp]; omega)]
    congr 1
    rw [Nat.pow_succ, Nat.mod_mul, Nat.add_mul, Nat.mul_assoc, Nat.mul_comm 256 (256 ^ i), Nat.mul_comm (v / 256 ^ i % 256)]
    omega
theorem numOf_bex (v n : Nat) (hn : n ≤ 8) : numOf (bex (v : Int) n) = ((v % 256 ^ n : Nat) : Int) := by
  have := foldl_bex v n 0 hn (Nat.pow_pos (by omega))
  unfold numOf
  rw [Nat.zero_mul, Nat.zero_add] at this
  exact this
theorem refPut_eq (x0 : List AV) (v n : Int) (m : Nat) (hx : x0.length < 8796093022208) (hm : m ≤ 8) (hn : (if (if 8 < n then 8 else n) > 0 then (if 8 < n then 8 else n) else 0) = (m : Int)) : g_comptoirref01_Put x0 v n = some (x0 ++ bex v m) := by
  unfold g_comptoirref01_Put
  have l0 : x0.length * 2 < 70368744177664 := by omega
  have w0 : IntKind.i64.wrap ((m : Int) - 1) = (m : Int) - 1 := i64_wrap (by omega) (by omega)
  rw [run_inl (s := ((m : Int) - 1, x0)) (by simp only [T_comptoirref01_Put, Tr.val_c, Tr.val_r, l0, hn, w0, decide_true, cond_true])]
  have key : ∀ (i : Nat) (l : List AV), i ≤ 8 → l ++ bex v i = x0 ++ bex v m → run (M_comptoirref01_Put x0 v n) (M_comptoirref01_Put x0 v n ((i : Int) - 1, l)) = some (x0 ++ bex v m) := by
    intro i
    induction i with
    | zero =>
      intro l _ hl
      have : ¬ (((0 : Nat) : Int) - 1 ≥ 0) := by omega
      rw [← hl, bex, List.append_nil]
      exact run_inr (by simp only [M_comptoirref01_Put, Tr.val_c, Tr.val_r, this, decide_false, cond_false, beq_self_eq_true, cond_true])
    | succ i ih =>
      intro l hi hl
      have e : ((i + 1 : Nat) : Int) - 1 = (i : Int) := by omega
      have q1 : (i : Int) ≥ 0 := by omega
      have w1 : IntKind.u64.wrap (IntKind.i64.wrap (8 * (i : Int))) = 8 * (i : Int) := by rw [i64_wrap (by omega) (by omega), u64_wrap (by omega) (by omega)]
      have w2 : IntKind.i64.wrap ((i : Int) - 1) = (i : Int) - 1 := i64_wrap (by omega) (by omega)
      have q2 : (0 : Int) ≤ 8 * (i : Int) := by omega
      have hlen : l.length ≤ x0.length + 8 := by
        have := congrArg List.length hl
        simp at this; omega
      have l1 : (l ++ [AV.int .u8 (v / 256 ^ i % 256)]).length * 2 < 70368744177664 := by simp; omega
      rw [e, run_inl (s := ((i : Int) - 1, l ++ [.int .u8 (v / 256 ^ i % 256)])) (by
        simp only [M_comptoirref01_Put, Tr.val_c, Tr.val_r, q1, w1, w2, q2, shr8 v i (by omega), l1, decide_true, cond_true, beq_self_eq_true])]
      exact ih _ (by omega) (by rw [List.append_assoc]; exact hl)
  exact key m x0 hm rfl
def cb (c : Nat) : Nat := if c % 2 = 1 then (c / 2) ^^^ 3988292384 else c / 2
def cbs : Nat → Nat → Nat
  | 0, c => c
  | k + 1, c => cbs k (cb c)
theorem cb_lt {c : Nat} (h : c < 4294967296) : cb c < 4294967296 := by
  unfold cb
  split
  · exact Nat.xor_lt_two_pow (n := 32) (by omega) (by omega)
  · omega
theorem cbs_lt : ∀ (k : Nat) {c : Nat}, c < 4294967296 → cbs k c < 4294967296
  | 0, _, h => h
  | k + 1, _, h => cbs_lt k (cb_lt h)
def crc1 (c : Nat) (y : AV) : Nat := cbs 8 (c ^^^ (IntKind.u32.wrap (getI y)).toNat)
theorem u32_nat (n : Int) : ((IntKind.u32.wrap n).toNat : Int) = IntKind.u32.wrap n ∧ (IntKind.u32.wrap n).toNat < 4294967296 := by
  rw [u32_mod]; omega
theorem xor_lt32 {a b : Nat} (ha : a < 4294967296) (hb : b < 4294967296) : a ^^^ b < 4294967296 := Nat.xor_lt_two_pow (n := 32) ha hb
theorem crc1_lt {c : Nat} (y : AV) (h : c < 4294967296) : crc1 c y < 4294967296 := cbs_lt 8 (xor_lt32 h (u32_nat _).2)
theorem crcF_lt : ∀ (l : List AV) {c : Nat}, c < 4294967296 → l.foldl crc1 c < 4294967296
  | [], _, h => h
  | y :: l, _, h => crcF_lt l (crc1_lt y h)
def crcN (l : List AV) : Nat := (l.foldl crc1 4294967295) ^^^ 4294967295
theorem crcN_lt (l : List AV) : crcN l < 4294967296 := xor_lt32 (crcF_lt l (by omega)) (by omega)
theorem xor32' {X Y : Nat} (hX : X < 4294967296) (hY : Y < 4294967296) : bitsA .xor .u32 (X : Int) (Y : Int) = ((X ^^^ Y : Nat) : Int) := xor32 hX hY
theorem step_eq (x : Int) (c : Nat) (hc : c < 4294967296) : g_crc_sum_step_p050 x (c : Int) = some ((cbs 8 (c ^^^ (IntKind.u32.wrap x).toNat) : Nat) : Int) := by
  obtain ⟨u1, u2⟩ := u32_nat x
  unfold g_crc_sum_step_p050
  have h0 : bitsA .xor .u32 (c : Int) (IntKind.u32.wrap x) = ((c ^^^ (IntKind.u32.wrap x).toNat : Nat) : Int) := by rw [← xor32' hc u2, u1]
  rw [run_inl (s := (((0 : Nat) : Int), ((c ^^^ (IntKind.u32.wrap x).toNat : Nat) : Int))) (by simp only [T_crc_sum_step_p050, Tr.val_r, h0]; rfl)]
  have key : ∀ k i d : Nat, i + k = 8 → d < 4294967296 → run (M_crc_sum_step_p050 x (c : Int)) (M_crc_sum_step_p050 x (c : Int) ((i : Int), (d : Int))) = some ((cbs k d : Nat) : Int) := by
    intro k
    induction k with
    | zero =>
      intro i d hi hd
      have q : ¬ ((i : Int) < 8) := by omega
      exact run_inr (by simp only [M_crc_sum_step_p050, Tr.val_c, Tr.val_r, q, decide_false, cond_false]; rfl)
    | succ k ih =>
      intro i d hi hd
      have q : (i : Int) < 8 := by omega
      have w : IntKind.i64.wrap ((i : Int) + 1) = ((i + 1 : Nat) : Int) := by rw [i64_wrap (by omega) (by omega)]; omega
      have o := odd32 (X := d) hd
      have hf := half32 d
      by_cases h1 : d % 2 = 1
      · have x1 : bitsA .xor .u32 ((d / 2 : Nat) : Int) 3988292384 = ((d / 2 ^^^ 3988292384 : Nat) : Int) := xor32' (Y := 3988292384) (by omega) (by omega)
        have e : (((d % 2 : Nat) : Int) == 1) = true := by rw [h1]; rfl
        have hb : cb d = d / 2 ^^^ 3988292384 := by unfold cb; rw [if_pos h1]
        rw [run_inl (s := (((i + 1 : Nat) : Int), ((cb d : Nat) : Int))) (by simp only [M_crc_sum_step_p050, Tr.val_c, Tr.val_r, q, w, o, hf, x1, e, hb, decide_true, cond_true])]
        exact ih (i + 1) (cb d) (by omega) (cb_lt hd)
      · have e : (((d % 2 : Nat) : Int) == 1) = false := by
          have : d % 2 = 0 := by omega
          rw [this]; rfl
        have hb : cb d = d / 2 := by unfold cb; rw [if_neg h1]
        rw [run_inl (s := (((i + 1 : Nat) : Int), ((cb d : Nat) : Int))) (by simp only [M_crc_sum_step_p050, Tr.val_c, Tr.val_r, q, w, o, hf, e, hb, decide_true, cond_true, cond_false])]
        exact ih (i + 1) (cb d) (by omega) (cb_lt hd)
  exact key 8 0 _ rfl (xor_lt32 hc u2)
theorem each_eq (A : List AV) (hA : A.length < 8796093022208) : g_crc_each_0fstep_p50 A 4294967295 = some ((A.foldl crc1 4294967295 : Nat) : Int) := by
  unfold g_crc_each_0fstep_p50
  rw [run_inl (s := (((0 : Nat) : Int), ((4294967295 : Nat) : Int))) rfl]
  have key : ∀ k i d : Nat, i + k = A.length → d < 4294967296 → run (M_crc_each_0fstep_p50 A 4294967295) (M_crc_each_0fstep_p50 A 4294967295 ((i : Int), (d : Int))) = some (((A.drop i).foldl crc1 d : Nat) : Int) := by
    intro k
    induction k with
    | zero =>
      intro i d hi hd
      have q : ¬ ((i : Int) < A.length) := by omega
      rw [List.drop_of_length_le (by omega)]
      exact run_inr (by simp only [M_crc_each_0fstep_p50, Tr.val_c, Tr.val_r, q, decide_false, cond_false]; rfl)
    | succ k ih =>
      intro i d hi hd
      have q : (i : Int) < A.length := by omega
      have q2 : (0 : Int) ≤ i := by omega
      have q3 : i < A.length := by omega
      have w : IntKind.i64.wrap ((i : Int) + 1) = ((i + 1 : Nat) : Int) := by rw [i64_wrap (by omega) (by omega)]; omega
      have hg : A.getD i (.int .u8 0) = A[i] := by simp [List.getD_eq_getElem?_getD, q3]
      have hs := step_eq (getI A[i]) d hd
      rw [run_inl (s := (((i + 1 : Nat) : Int), ((crc1 d A[i] : Nat) : Int))) (by simp only [M_crc_each_0fstep_p50, Tr.val_c, Tr.val_r, val_opt, q, q2, w, hg, Int.toNat_natCast, hs, Option.bind_some, decide_true, cond_true]; rfl), ih (i + 1) _ (by omega) (crc1_lt _ hd), List.drop_eq_getElem_cons q3, List.foldl_cons]
  have := key A.length 0 4294967295 (by omega) (by omega)
  rwa [List.drop_zero] at this
theorem Of_eq (A : List AV) (hA : A.length < 8796093022208) : g_crc_Of A = some ((crcN A : Nat) : Int) := by
  have x1 : bitsA .xor .u32 ((A.foldl crc1 4294967295 : Nat) : Int) 4294967295 = ((crcN A : Nat) : Int) := xor32' (Y := 4294967295) (crcF_lt A (by omega)) (by omega)
  unfold g_crc_Of
  simp only [T_crc_Of, Tr.val_r, val_opt, each_eq A hA, Option.bind_some, x1]
theorem u64_crc (A : List AV) : IntKind.u64.wrap ((crcN A : Nat) : Int) = ((crcN A : Nat) : Int) := by
  have := crcN_lt A
  exact u64_wrap (by omega) (by omega)
theorem Seal_eq (A : List AV) (hA : A.length < 8796093022208) : g_crc_Seal A = some (A ++ bex ((crcN A : Nat) : Int) 4) := by
  have p := Put_eq A ((crcN A : Nat) : Int) 4 4 hA (by omega) (by decide)
  unfold g_crc_Seal
  simp only [T_crc_Seal, Tr.val_c, Tr.val_r, val_opt, Of_eq A hA, u64_crc, p, Option.bind_some, beq_self_eq_true, Bool.true_and, cond_true]
noncomputable def openR (A : List AV) : List AV × Int :=
  if A.length < 4 then ([], 3) else if IntKind.u32.wrap (numOf (A.drop (A.length - 4))) = ((crcN (A.take (A.length - 4)) : Nat) : Int) then (A.take (A.length - 4), 0) else ([], 8)
theorem Open_eq (A : List AV) (hA : A.length < 8796093022208) : g_crc_Open A = some (openR A) := by
  have w0 : IntKind.i64.wrap ((A.length : Int) - 4) = (A.length : Int) - 4 := i64_wrap (by omega) (by omega)
  have nw := New_eq A hA
  unfold g_crc_Open openR
  by_cases h4 : A.length < 4
  · have q : (if (0 : Int) > (A.length : Int) - 4 then (0 : Int) else (A.length : Int) - 4) = 0 := if_pos (by omega)
    have t := Take_eq 0 A 0 (by omega) hA
    rw [if_neg (by omega), if_neg (by omega), show ((0 : Nat) : Int) + 0 = ((0 : Nat) : Int) from rfl] at t
    have n := Number_eq 4 A 0 (by omega) hA
    rw [if_neg (by decide), if_neg (by decide), if_pos (by omega)] at n
    have t' : g_cursor_Cursor_Take_p0500 0 A 0 = _ := t
    have n' : g_cursor_Cursor_Number_p0500 4 A ((0 : Nat) : Int) = _ := n
    rw [if_pos h4]
    simp only [T_crc_Open, Tr.val_c, Tr.val_r, val_opt, w0, q, nw, t', n', Option.bind_some, bne_self_eq_false, cond_false]
    rfl
  · have q : (if (0 : Int) > (A.length : Int) - 4 then (0 : Int) else (A.length : Int) - 4) = ((A.length - 4 : Nat) : Int) := by rw [if_neg (by omega)]; omega
    have t := Take_eq ((A.length - 4 : Nat) : Int) A 0 (by omega) hA
    rw [if_neg (by omega), if_neg (by omega), show ((0 : Nat) : Int) + ((A.length - 4 : Nat) : Int) = ((A.length - 4 : Nat) : Int) by omega, List.drop_zero, Int.toNat_natCast] at t
    have n := Number_eq 4 A (A.length - 4) (by omega) hA
    rw [if_neg (by decide), if_neg (by decide), if_neg (by omega)] at n
    have hd : (A.drop (A.length - 4)).take (4 : Int).toNat = A.drop (A.length - 4) := List.take_of_length_le (by rw [List.length_drop, show (4 : Int).toNat = 4 from rfl]; omega)
    rw [hd] at n
    have t' : g_cursor_Cursor_Take_p0500 ((A.length - 4 : Nat) : Int) A 0 = _ := t
    have o := Of_eq (A.take (A.length - 4)) (by rw [List.length_take]; omega)
    rw [if_neg h4]
    by_cases he : IntKind.u32.wrap (numOf (A.drop (A.length - 4))) = ((crcN (A.take (A.length - 4)) : Nat) : Int)
    · rw [if_pos he]
      simp only [T_crc_Open, Tr.val_c, Tr.val_r, val_opt, w0, q, nw, t', n, o, he, Option.bind_some, bne_self_eq_false, cond_false]
    · have he' : (IntKind.u32.wrap (numOf (A.drop (A.length - 4))) != ((crcN (A.take (A.length - 4)) : Nat) : Int)) = true := by simpa using he
      rw [if_neg he]
      simp only [T_crc_Open, Tr.val_c, Tr.val_r, val_opt, w0, q, nw, t', n, o, he', Option.bind_some, bne_self_eq_false, cond_false, cond_true]
theorem num4_lt (b : List UInt8) (h : b.length = 4) : 0 ≤ numOf (bl b) ∧ numOf (bl b) < 4294967296 := by
  match b, h with
  | [b0, b1, b2, b3], _ =>
    have e : ∀ a : Nat, a < 16777216 → ∀ c : UInt8, bitsA .or .u64 (shlA .u64 (a : Int) 8) (IntKind.u64.wrap (getI (.int .u8 (c.toNat : Int)))) = ((a * 256 + c.toNat : Nat) : Int) := fun a ha c => byte_behind (by omega) c.toNat_lt
    have z : numOf (bl [b0, b1, b2, b3]) = bitsA .or .u64 (shlA .u64 (bitsA .or .u64 (shlA .u64 (bitsA .or .u64 (shlA .u64 (bitsA .or .u64 (shlA .u64 ((0 : Nat) : Int) 8) (IntKind.u64.wrap (getI (.int .u8 (b0.toNat : Int))))) 8) (IntKind.u64.wrap (getI (.int .u8 (b1.toNat : Int))))) 8) (IntKind.u64.wrap (getI (.int .u8 (b2.toNat : Int))))) 8) (IntKind.u64.wrap (getI (.int .u8 (b3.toNat : Int)))) := rfl
    have l0 := b0.toNat_lt
    have l1 := b1.toNat_lt
    have l2 := b2.toNat_lt
    have l3 := b3.toNat_lt
    rw [z, e 0 (by omega), e _ (by omega), e _ (by omega), e _ (by omega)]
    omega
theorem refCrc_eq (A : List AV) (hA : A.length < 8796093022208) : g_comptoirref01_Crc A = some ((crcN A : Nat) : Int) := by
  unfold g_comptoirref01_Crc
  rw [run_inl (s := .inl (((4294967295 : Nat) : Int), ((0 : Nat) : Int))) rfl]
  have inner : ∀ (k i d : Nat) (j : Int), i + k = 8 → d < 4294967296 → run (M_comptoirref01_Crc A) (M_comptoirref01_Crc A (.inr ((d : Int), (i : Int), j))) = run (M_comptoirref01_Crc A) (M_comptoirref01_Crc A (.inl (((cbs k d : Nat) : Int), IntKind.i64.wrap (j + 1)))) := by
    intro k
    induction k with
    | zero =>
      intro i d j hi hd
      have q : ¬ ((i : Int) < 8) := by omega
      exact run_inl (by simp only [M_comptoirref01_Crc, Tr.val_c, Tr.val_r, q, decide_false, cond_false]; rfl)
    | succ k ih =>
      intro i d j hi hd
      have q : (i : Int) < 8 := by omega
      have w : IntKind.i64.wrap ((i : Int) + 1) = ((i + 1 : Nat) : Int) := by rw [i64_wrap (by omega) (by omega)]; omega
      have o : Int.tmod (d : Int) 2 = ((d % 2 : Nat) : Int) := by rw [tmod_eq (by omega)]; norm_cast
      have hf : IntKind.u32.wrap (Int.tdiv (d : Int) 2) = ((d / 2 : Nat) : Int) := by rw [tdiv_eq (by omega), u32_wrap (by omega) (by omega)]; norm_cast
      by_cases h1 : d % 2 = 1
      · have x1 : bitsA .xor .u32 ((d / 2 : Nat) : Int) 3988292384 = ((d / 2 ^^^ 3988292384 : Nat) : Int) := xor32' (Y := 3988292384) (by omega) (by omega)
        have e : (((d % 2 : Nat) : Int) == 1) = true := by rw [h1]; rfl
        have hb : cb d = d / 2 ^^^ 3988292384 := by unfold cb; rw [if_pos h1]
        rw [run_inl (s := .inr (((cb d : Nat) : Int), ((i + 1 : Nat) : Int), j)) (by simp only [M_comptoirref01_Crc, Tr.val_c, Tr.val_r, q, w, o, hf, x1, e, hb, decide_true, cond_true])]
        exact ih (i + 1) (cb d) j (by omega) (cb_lt hd)
      · have e : (((d % 2 : Nat) : Int) == 1) = false := by
          have : d % 2 = 0 := by omega
          rw [this]; rfl
        have hb : cb d = d / 2 := by unfold cb; rw [if_neg h1]
        rw [run_inl (s := .inr (((cb d : Nat) : Int), ((i + 1 : Nat) : Int), j)) (by simp only [M_comptoirref01_Crc, Tr.val_c, Tr.val_r, q, w, o, hf, e, hb, decide_true, cond_true, cond_false])]
        exact ih (i + 1) (cb d) j (by omega) (cb_lt hd)
  have key : ∀ k i d : Nat, i + k = A.length → d < 4294967296 → run (M_comptoirref01_Crc A) (M_comptoirref01_Crc A (.inl ((d : Int), (i : Int)))) = some (((A.drop i).foldl crc1 d ^^^ 4294967295 : Nat) : Int) := by
    intro k
    induction k with
    | zero =>
      intro i d hi hd
      have q : ¬ ((i : Int) < A.length) := by omega
      have x1 : bitsA .xor .u32 (d : Int) 4294967295 = ((d ^^^ 4294967295 : Nat) : Int) := xor32' (Y := 4294967295) hd (by omega)
      rw [List.drop_of_length_le (by omega)]
      exact run_inr (by simp only [M_comptoirref01_Crc, Tr.val_c, Tr.val_r, q, x1, decide_false, cond_false]; rfl)
    | succ k ih =>
      intro i d hi hd
      have q : (i : Int) < A.length := by omega
      have q2 : (0 : Int) ≤ i := by omega
      have q3 : i < A.length := by omega
      have w : IntKind.i64.wrap ((i : Int) + 1) = ((i + 1 : Nat) : Int) := by rw [i64_wrap (by omega) (by omega)]; omega
      have hg : A.getD i (.int .u8 0) = A[i] := by simp [List.getD_eq_getElem?_getD, q3]
      obtain ⟨u1, u2⟩ := u32_nat (getI A[i])
      have h0 : bitsA .xor .u32 (d : Int) (IntKind.u32.wrap (getI A[i])) = ((d ^^^ (IntKind.u32.wrap (getI A[i])).toNat : Nat) : Int) := by rw [← xor32' hd u2, u1]
      rw [run_inl (s := .inr (((d ^^^ (IntKind.u32.wrap (getI A[i])).toNat : Nat) : Int), ((0 : Nat) : Int), (i : Int))) (by simp only [M_comptoirref01_Crc, Tr.val_c, Tr.val_r, q, q2, hg, h0, Int.toNat_natCast, decide_true, cond_true]; rfl),
        inner 8 0 _ _ rfl (xor_lt32 hd u2), w, List.drop_eq_getElem_cons q3, List.foldl_cons]
      exact ih (i + 1) _ (by omega) (crc1_lt _ hd)
  have := key A.length 0 4294967295 (by omega) (by omega)
  rwa [List.drop_zero] at this
theorem refSeal_eq (A : List AV) (hA : A.length < 8796093022208) : g_comptoirref01_Seal A = some (A ++ bex ((crcN A : Nat) : Int) 4) := by
  have p := refPut_eq A ((crcN A : Nat) : Int) 4 4 hA (by omega) (by decide)
  unfold g_comptoirref01_Seal
  simp only [T_comptoirref01_Seal, Tr.val_c, Tr.val_r, val_opt, refCrc_eq A hA, u64_crc, p, Option.bind_some, beq_self_eq_true, cond_true]
def slb (b : List UInt8) : AV := .slice 1 (.int .u8) (bl b) .ro
@[simp] theorem getXs_slb (b : List UInt8) : getXs (slb b) = bl b := rfl
@[simp] theorem length_bl (b : List UInt8) : (bl b).length = b.length := by simp [bl]
theorem wf_rows : ∀ {xs : List AV}, (∀ y ∈ xs, Wf (.slice 1 (.int .u8)) y) → ∃ L : List (List UInt8), xs = L.map slb
  | [], _ => ⟨[], rfl⟩
  | x :: xs, h => by
    obtain ⟨L, hL⟩ := wf_rows (xs := xs) fun y hy => h y (by simp [hy])
    obtain ⟨b, hb, _⟩ := wf_bytes (h x (by simp))
    exact ⟨b :: L, by rw [hb, hL]; rfl⟩
theorem slb_getD (L : List (List UInt8)) (i : Nat) : (L.map slb).getD i (.slice 1 (.int .u8) [] .ro) = slb (L.getD i []) := by
  rw [List.getD_eq_getElem?_getD, List.getD_eq_getElem?_getD, List.getElem?_map]
  cases L[i]? <;> rfl
def recR (A : List AV) : List AV := (bex (A.length : Int) 4 ++ A) ++ bex ((crcN (bex (A.length : Int) 4 ++ A) : Nat) : Int) 4
theorem Record_eq (A : List AV) (hA : A.length < 1000000) : g_journal_Record A = some (recR A) := by
  have w : IntKind.u64.wrap (A.length : Int) = (A.length : Int) := u64_wrap (by omega) (by omega)
  have p := Put_eq [] (A.length : Int) 4 4 (by simp) (by omega) (by decide)
  rw [List.nil_append] at p
  have c := Concat_eq (bex (A.length : Int) 4) A (by simp; omega)
  have s := Seal_eq (bex (A.length : Int) 4 ++ A) (by simp; omega)
  unfold g_journal_Record
  simp only [T_journal_Record, Tr.val_c, Tr.val_r, val_opt, w, p, c, s, Option.bind_some, beq_self_eq_true, Bool.true_and, cond_true]
  rfl
theorem openR_len (A : List AV) (h : (openR A).2 = 0) : 4 ≤ A.length ∧ (openR A).1.length = A.length - 4 := by
  unfold openR at h ⊢
  by_cases h4 : A.length < 4
  · rw [if_pos h4] at h; exact absurd h (by decide)
  · rw [if_neg h4] at h ⊢
    by_cases he : IntKind.u32.wrap (numOf (A.drop (A.length - 4))) = ((crcN (A.take (A.length - 4)) : Nat) : Int)
    · rw [if_pos he]
      exact ⟨by omega, by simp⟩
    · rw [if_neg he] at h; exact absurd h (by decide)
noncomputable def nextR (B : List AV) : Option (List AV × Nat) :=
  if 8 ≤ B.length ∧ (numOf (B.take 4)).toNat + 8 ≤ B.length ∧ (openR (B.take ((numOf (B.take 4)).toNat + 8))).2 = 0 then
    some ((openR (B.take ((numOf (B.take 4)).toNat + 8))).1.drop 4, (numOf (B.take 4)).toNat + 8) else none
noncomputable def nextT (B : List AV) : List AV × Bool × List AV := match nextR B with
  | some (t, k) => (t, true, B.drop k)
  | none => ([], false, B)
theorem num_take (b : List UInt8) (h : 4 ≤ b.length) : ∃ n : Nat, numOf ((bl b).take 4) = (n : Int) ∧ n < 4294967296 := by
  have hs : (bl b).take 4 = bl (b.take 4) := by simp [bl, List.map_take]
  obtain ⟨v1, v2⟩ := num4_lt (b.take 4) (by rw [List.length_take]; omega)
  rw [← hs] at v1 v2
  exact ⟨(numOf ((bl b).take 4)).toNat, by omega, by omega⟩
theorem next_eq (b : List UInt8) (hb : b.length < 1000000) : g_journal_walk_next_p50 (bl b) = some (nextT (bl b)) := by
  have lb : (bl b).length = b.length := by simp [bl]
  have hA : (bl b).length < 8796093022208 := by omega
  have nw := New_eq (bl b) hA
  have n := Number_eq 4 (bl b) 0 (by omega) hA
  rw [if_neg (by decide), if_neg (by decide)] at n
  unfold g_journal_walk_next_p50 nextT nextR
  by_cases h4 : (bl b).length < 4
  · rw [if_pos (by omega)] at n
    have n' : g_cursor_Cursor_Number_p0500 4 (bl b) 0 = _ := n
    have e3 : ((3 : Int) != 0) = true := rfl
    rw [if_neg (by omega)]
    simp only [T_journal_walk_next_p50, Tr.val_c, Tr.val_r, val_opt, nw, n', e3, Option.bind_some, cond_true]
  · rw [if_neg (by omega), List.drop_zero, show (4 : Int).toNat = 4 from rfl] at n
    obtain ⟨N, hN, hN2⟩ := num_take b (by omega)
    rw [hN] at n ⊢
    have n' : g_cursor_Cursor_Number_p0500 4 (bl b) 0 = _ := n
    have wl : IntKind.u64.wrap ((bl b).length : Int) = ((bl b).length : Int) := u64_wrap (by omega) (by omega)
    have w8 : IntKind.i64.wrap (IntKind.i64.wrap (IntKind.i64.wrap (N : Int) + 4) + 4) = ((N + 8 : Nat) : Int) := by
      rw [i64_wrap (n := (N : Int)) (by omega) (by omega), i64_wrap (n := (N : Int) + 4) (by omega) (by omega), i64_wrap (by omega) (by omega)]; omega
    rw [Int.toNat_natCast]
    by_cases h8 : N + 8 ≤ (bl b).length
    · have q1 : ¬ ((N : Int) > ((bl b).length : Int)) := by omega
      have q2 : ¬ (((N + 8 : Nat) : Int) > ((bl b).length : Int)) := by omega
      have q3 : (0 : Int) ≤ ((N + 8 : Nat) : Int) := by omega
      have q4 : ((N + 8 : Nat) : Int) ≤ ((bl b).length : Int) := by omega
      have q5 : ((bl b).length : Int) ≤ ((bl b).length : Int) := by omega
      have o := Open_eq ((bl b).take (N + 8)) (by rw [List.length_take]; omega)
      by_cases he : (openR ((bl b).take (N + 8))).2 = 0
      · obtain ⟨l1, l2⟩ := openR_len _ he
        rw [List.length_take] at l2
        have q6 : (4 : Int) ≤ ((openR ((bl b).take (N + 8))).1.length : Int) := by omega
        have q7 : ((openR ((bl b).take (N + 8))).1.length : Int) ≤ ((openR ((bl b).take (N + 8))).1.length : Int) := by omega
        rw [if_pos ⟨by omega, h8, he⟩]
        simp only [T_journal_walk_next_p50, Tr.val_c, Tr.val_r, val_opt, nw, n', wl, w8, q1, q2, q3, q4, q5, q6, q7, o, he, Int.toNat_natCast, List.drop_zero, List.take_length, Option.bind_some, decide_true, decide_false, bne_self_eq_false, cond_true, cond_false]
      · have he' : ((openR ((bl b).take (N + 8))).2 != 0) = true := by simpa using he
        rw [if_neg (fun h => he h.2.2)]
        simp only [T_journal_walk_next_p50, Tr.val_c, Tr.val_r, val_opt, nw, n', wl, w8, q1, q2, q3, q4, q5, o, he', Int.toNat_natCast, List.drop_zero, Option.bind_some, decide_true, decide_false, bne_self_eq_false, cond_true, cond_false]
    · have q2 : ((N + 8 : Nat) : Int) > ((bl b).length : Int) := by omega
      rw [if_neg (fun h => h8 h.2.1)]
      by_cases q1 : (N : Int) > ((bl b).length : Int)
      · simp only [T_journal_walk_next_p50, Tr.val_c, Tr.val_r, val_opt, nw, n', wl, q1, Option.bind_some, decide_true, bne_self_eq_false, cond_true, cond_false]
      · simp only [T_journal_walk_next_p50, Tr.val_c, Tr.val_r, val_opt, nw, n', wl, w8, q1, q2, Option.bind_some, decide_true, decide_false, bne_self_eq_false, cond_true, cond_false]
def bexb (v : Nat) : Nat → List UInt8
  | 0 => []
  | i + 1 => UInt8.ofNat (v / 256 ^ i % 256) :: bexb v i
@[simp] theorem length_bexb (v i : Nat) : (bexb v i).length = i := by induction i <;> simp [bexb, *]
theorem bex_bl (v : Nat) : ∀ i : Nat, bex (v : Int) i = bl (bexb v i)
  | 0 => rfl
  | i + 1 => by
    have hy : v / 256 ^ i % 256 < 256 := Nat.mod_lt _ (by omega)
    have hc : ((v : Int) / 256 ^ i % 256) = ((v / 256 ^ i % 256 : Nat) : Int) := by rw [Int.natCast_emod, Int.natCast_ediv, Int.natCast_pow]; rfl
    rw [bex, bexb, hc, bex_bl v i, ← byte_ofNat hy]; rfl
noncomputable def recb (a : List UInt8) : List UInt8 := (bexb a.length 4 ++ a) ++ bexb (crcN (bl (bexb a.length 4 ++ a))) 4
@[simp] theorem length_recb (a : List UInt8) : (recb a).length = a.length + 8 := by simp [recb] <;> omega
theorem recR_bl (a : List UInt8) : recR (bl a) = bl (recb a) := by
  unfold recR recb
  have e : bex ((bl a).length : Int) 4 ++ bl a = bl (bexb a.length 4 ++ a) := by rw [length_bl, bex_bl, bl_append]
  rw [e, bex_bl, ← bl_append]
theorem openR_rec (a : List UInt8) : openR (bl (recb a)) = (bl (bexb a.length 4 ++ a), 0) := by
  have hl : (bl (recb a)).length = a.length + 8 := by simp
  have hx : (bexb a.length 4 ++ a).length = a.length + 4 := by simp <;> omega
  have ht : (bl (recb a)).take (a.length + 4) = bl (bexb a.length 4 ++ a) := by rw [bl_take]; congr 1; rw [recb, List.take_left' hx]
  have hd : (bl (recb a)).drop (a.length + 4) = bex ((crcN (bl (bexb a.length 4 ++ a)) : Nat) : Int) 4 := by rw [bl_drop, bex_bl]; congr 1; rw [recb, List.drop_left' hx]
  have hc := crcN_lt (bl (bexb a.length 4 ++ a))
  unfold openR
  rw [if_neg (by omega), hl, show a.length + 8 - 4 = a.length + 4 by omega, ht, hd, numOf_bex _ _ (by omega), Nat.mod_eq_of_lt (by simpa using hc), if_pos (u32_wrap (by omega) (by omega))]
theorem nextR_rec (a r : List UInt8) (ha : a.length < 1000000) : nextR (bl (recb a ++ r)) = some (bl a, a.length + 8) := by
  have hl : (bl (recb a ++ r)).length = a.length + 8 + r.length := by simp <;> omega
  have h4 : (bl (recb a ++ r)).take 4 = bex (a.length : Int) 4 := by
    rw [bl_take, bex_bl, recb, List.append_assoc, List.append_assoc, List.take_left' (by simp)]
  have hn : (numOf ((bl (recb a ++ r)).take 4)).toNat = a.length := by
    rw [h4, numOf_bex _ _ (by omega), Nat.mod_eq_of_lt (by omega), Int.toNat_natCast]
  have ht : (bl (recb a ++ r)).take (a.length + 8) = bl (recb a) := by rw [bl_take, List.take_left' (by simp)]
  unfold nextR
  rw [hn, ht, openR_rec, if_pos ⟨by omega, by omega, rfl⟩]
  have : (bl (bexb a.length 4 ++ a)).drop 4 = bl a := by rw [bl_drop, List.drop_left' (by simp)]
  simp only [this]
noncomputable def recsb (L : List (List UInt8)) : List UInt8 := L.flatMap recb
theorem recsb_cons (a : List UInt8) (L : List (List UInt8)) : recsb (a :: L) = recb a ++ recsb L := rfl
theorem recsb_append (K L : List (List UInt8)) : recsb (K ++ L) = recsb K ++ recsb L := by simp [recsb]
theorem recsb_len {L : List (List UInt8)} {m : Nat} (h : ∀ a ∈ L, a.length ≤ m) : (recsb L).length ≤ L.length * (m + 8) ∧ L.length * 8 ≤ (recsb L).length := by
  induction L with
  | nil => simp [recsb]
  | cons a L ih =>
    have h1 := h a (by simp)
    obtain ⟨i1, i2⟩ := ih fun b hb => h b (by simp [hb])
    rw [recsb_cons, List.length_append, length_recb, List.length_cons, Nat.succ_mul, Nat.succ_mul]
    omega
theorem nextT_rec (a r : List UInt8) (ha : a.length < 1000000) : nextT (bl (recb a ++ r)) = (bl a, true, bl r) := by
  unfold nextT
  rw [nextR_rec a r ha]
  have : (bl (recb a ++ r)).drop (a.length + 8) = bl r := by rw [bl_drop, List.drop_left' (by simp)]
  simp only [this]
theorem nextT_none {r : List UInt8} (h : nextR (bl r) = none) : nextT (bl r) = ([], false, bl r) := by unfold nextT; rw [h]
theorem every_recs (B : List AV) (r : List UInt8) (hr : nextR (bl r) = none) : ∀ (L : List (List UInt8)) (acc : List AV), (recsb L ++ r).length < 1000000 → acc.length + L.length < 100000 → (∀ a ∈ L, a.length < 1000000) →
    run (M_journal_every_fnext_p50 B) (M_journal_every_fnext_p50 B ((nextT (bl (recsb L ++ r))).1, (nextT (bl (recsb L ++ r))).2.1, (nextT (bl (recsb L ++ r))).2.2, acc)) = some (acc ++ L.map slb, bl r)
  | [], acc, _, _, _ => by
    show run _ (M_journal_every_fnext_p50 B ((nextT (bl r)).1, (nextT (bl r)).2.1, (nextT (bl r)).2.2, acc)) = _
    rw [nextT_none hr]
    exact run_inr (by simp only [M_journal_every_fnext_p50, Tr.val_c, Tr.val_r, beq_self_eq_true, cond_true, cond_false, List.map_nil, List.append_nil])
  | a :: L, acc, hl, hc, hL => by
    have ha := hL a (by simp)
    rw [recsb_cons, List.append_assoc, nextT_rec _ _ ha]
    have hl2 : (recsb L ++ r).length < 1000000 := by rw [recsb_cons, List.append_assoc, List.length_append] at hl; omega
    have nx := next_eq (recsb L ++ r) hl2
    simp only [List.length_cons] at hc
    have lacc : (acc ++ [AV.slice 1 (.int .u8) (bl a) .ro]).length * 25 < 70368744177664 := by simp <;> omega
    have ih := every_recs B r hr L (acc ++ [slb a]) hl2 (by simp <;> omega) fun b hb => hL b (by simp [hb])
    rw [run_inl (s := ((nextT (bl (recsb L ++ r))).1, (nextT (bl (recsb L ++ r))).2.1, (nextT (bl (recsb L ++ r))).2.2, acc ++ [slb a])) (by
      simp only [M_journal_every_fnext_p50, Tr.val_c, Tr.val_r, val_opt, lacc, nx, Option.bind_some, decide_true, beq_self_eq_true, cond_true]; rfl), ih]
    simp
theorem Scan_recs (L : List (List UInt8)) (r : List UInt8) (hr : nextR (bl r) = none) (hl : (recsb L ++ r).length < 1000000) (hc : L.length < 10000) (hL : ∀ a ∈ L, a.length < 1000000) :
    g_journal_Scan (bl (recsb L ++ r)) = some (L.map slb, ((recsb L).length : Int)) := by
  have nx := next_eq (recsb L ++ r) hl
  have ev : g_journal_every_fnext_p50 (bl (recsb L ++ r)) = some (L.map slb, bl r) := by
    unfold g_journal_every_fnext_p50
    rw [run_inl (s := ((nextT (bl (recsb L ++ r))).1, (nextT (bl (recsb L ++ r))).2.1, (nextT (bl (recsb L ++ r))).2.2, [])) (by simp only [T_journal_every_fnext_p50, Tr.val_r, val_opt, nx, Option.bind_some])]
    have := every_recs (bl (recsb L ++ r)) r hr L [] hl (by simp <;> omega) hL
    rwa [List.nil_append] at this
  have hw : IntKind.i64.wrap (((bl (recsb L ++ r)).length : Int) - ((bl r).length : Int)) = ((recsb L).length : Int) := by
    have e : ((bl (recsb L ++ r)).length : Int) - ((bl r).length : Int) = ((recsb L).length : Int) := by rw [length_bl, length_bl, List.length_append]; omega
    rw [e]; rw [List.length_append] at hl; exact i64_wrap (by omega) (by omega)
  unfold g_journal_Scan
  simp only [T_journal_Scan, Tr.val_r, val_opt, ev, hw, Option.bind_some]
theorem nextR_short {r : List UInt8} (h : r.length < 8) : nextR (bl r) = none := by unfold nextR; rw [if_neg (by rw [length_bl]; omega)]
theorem nextR_part (a r s : List UInt8) (hr : recb a = r ++ s) (h : r.length < a.length + 8) (ha : a.length < 1000000) : nextR (bl r) = none := by
  unfold nextR
  refine if_neg ?_
  rintro ⟨h8, hn, _⟩
  rw [length_bl] at h8 hn
  have h4 : (bl r).take 4 = bex (a.length : Int) 4 := by
    have : r.take 4 = (recb a).take 4 := by rw [hr, List.take_append_of_le_length (by omega)]
    rw [bl_take, this, bex_bl, recb, List.append_assoc, List.take_left' (by simp)]
  rw [h4, numOf_bex _ _ (by omega), Nat.mod_eq_of_lt (by omega), Int.toNat_natCast] at hn
  omega
def CAP : Nat := 1099511627776
theorem number_eq (v : Int) (m : Nat) (hm : m = 4 ∨ m = 8) (A : List AV) (hA : A.length < CAP) : g_pack_writer_number_p0050 v (m : Int) A = some (A ++ bex v m) := by
  unfold CAP at hA
  have p : g_cursor_Put A v (m : Int) = some (A ++ bex v m) := by
    rcases hm with rfl | rfl
    · exact Put_eq A v 4 4 (by omega) (by omega) (by decide)
    · exact Put_eq A v 8 8 (by omega) (by omega) (by decide)
  unfold g_pack_writer_number_p0050
  simp only [T_pack_writer_number_p0050, Tr.val_c, Tr.val_r, val_opt, p, Option.bind_some, beq_self_eq_true, Bool.true_and, cond_true]
theorem number4 (v : Int) (A : List AV) (hA : A.length < CAP) : g_pack_writer_number_p0050 v 4 A = some (A ++ bex v 4) := number_eq v 4 (.inl rfl) A hA
theorem number8 (v : Int) (A : List AV) (hA : A.length < CAP) : g_pack_writer_number_p0050 v 8 A = some (A ++ bex v 8) := number_eq v 8 (.inr rfl) A hA
theorem flat_take (W : AV → List AV) (xs : List AV) (d : AV) {i : Nat} (hi : i < xs.length) : (xs.take (i + 1)).flatMap W = (xs.take i).flatMap W ++ W (xs.getD i d) := by
  rw [List.take_succ_eq_append_getElem hi, List.flatMap_append, List.getD_eq_getElem?_getD, List.getElem?_eq_getElem hi]
  simp
theorem flat_take_len (W : AV → List AV) (xs : List AV) (i : Nat) : ((xs.take i).flatMap W).length ≤ (xs.flatMap W).length := by
  have : xs.flatMap W = (xs.take i).flatMap W ++ (xs.drop i).flatMap W := by rw [← List.flatMap_append, List.take_append_drop]
  rw [this, List.length_append]; omega
theorem flat_take_all (W : AV → List AV) (xs : List AV) : (xs.take xs.length).flatMap W = xs.flatMap W := by rw [List.take_length]
def intW (x : AV) : List AV := bex (IntKind.u64.wrap (getI x)) 8
theorem ints_eq (xs A : List AV) (h : A.length + (xs.flatMap intW).length < CAP) (hx : xs.length < CAP) : g_pack_writer_ints_p050 xs A = some (A ++ xs.flatMap intW) := by
  have hc := h
  unfold CAP at h hx
  unfold g_pack_writer_ints_p050
  rw [run_inl (s := (((0 : Nat) : Int), A ++ (xs.take 0).flatMap intW)) (by simp [T_pack_writer_ints_p050, Tr.val_r])]
  rw [run_count (step := M_pack_writer_ints_p050 xs A) (f := fun i => ((i : Int), A ++ (xs.take i).flatMap intW)) (n := xs.length) (fun i hi => by
    have q : (i : Int) < xs.length := by omega
    have q0 : (0 : Int) ≤ i := by omega
    have w : IntKind.i64.wrap ((i : Int) + 1) = ((i + 1 : Nat) : Int) := by rw [i64_wrap (by omega) (by omega)]; omega
    have l := flat_take_len intW xs i
    have p := number8 (IntKind.u64.wrap (getI (xs.getD i (.int .i64 0)))) (A ++ (xs.take i).flatMap intW) (by rw [List.length_append]; unfold CAP; omega)
    have e : A ++ (xs.take (i + 1)).flatMap intW = A ++ (xs.take i).flatMap intW ++ bex (IntKind.u64.wrap (getI (xs.getD i (.int .i64 0)))) 8 := by
      rw [flat_take intW xs (.int .i64 0) hi, ← List.append_assoc]; rfl
    simp only [M_pack_writer_ints_p050, Tr.val_c, Tr.val_r, val_opt, q, q0, w, p, e, Int.toNat_natCast, Option.bind_some, decide_true, beq_self_eq_true, cond_true])]
  have q : ¬ ((xs.length : Int) < xs.length) := by omega
  exact run_inr (by simp only [M_pack_writer_ints_p050, Tr.val_c, Tr.val_r, q, flat_take_all, decide_false, beq_self_eq_true, cond_true, cond_false])
def ints (l : List AV) : List AV := l.flatMap intW
theorem ints_eq' (xs A : List AV) (h : A.length + (ints xs).length < CAP) (hx : xs.length < 10) : g_pack_writer_ints_p050 xs A = some (A ++ ints xs) := ints_eq xs A h (by unfold CAP; omega)
theorem deedT (x1 x2 x3 x4 x5 x6 x7 x8 x9 x10 x11 : Int) (x12 x13 x14 x15 : List UInt8) (x16 : Int) (x17 x18 x19 x20 : List UInt8) (x21 : Int) (x22 x23 : List UInt8) (x24 : Int) (x25 : List UInt8) (x26 : List AV) (x27 x28 : List UInt8) (x29 x30 : List AV) (x31 x32 : Int) (x33 x34 x35 : List UInt8) (x36 x37 : List AV) (A : List AV) (hA : A.length < 1000000) : g_pack_writer_deed_p050 1 x1 x2 x3 x4 x5 x6 x7 x8 x9 x10 x11 x12 x13 x14 x15 x16 x17 x18 x19 x20 x21 x22 x23 x24 x25 x26 x27 x28 x29 x30 x31 x32 x33 x34 x35 x36 x37 A = some ((A ++ [.int .u8 1]) ++ bex x1 8) := by
  have l1 : (A ++ [AV.int .u8 (IntKind.u8.wrap 1)]).length * 2 < 70368744177664 := by rw [List.length_append, List.length_singleton]; omega
  have n := number8 x1 (A ++ [AV.int .u8 1]) (by rw [List.length_append, List.length_singleton]; unfold CAP; omega)
  have w : IntKind.u8.wrap 1 = 1 := rfl
  rw [w] at l1
  unfold g_pack_writer_deed_p050
  simp only [T_pack_writer_deed_p050, Tr.val_c, Tr.val_r, val_opt, w, l1, n, Option.bind_some, beq_self_eq_true, decide_true, cond_true]
theorem deedN (x1 x2 x3 x4 x5 x6 x7 x8 x9 x10 x11 : Int) (x12 x13 x14 x15 : List UInt8) (x16 : Int) (x17 x18 x19 x20 : List UInt8) (x21 : Int) (x22 x23 : List UInt8) (x24 : Int) (x25 : List UInt8) (x26 : List AV) (x27 x28 : List UInt8) (x29 x30 : List AV) (x31 x32 : Int) (x33 x34 x35 : List UInt8) (x36 x37 : List AV) (A : List AV) (hA : A.length < 1000000) : g_pack_writer_deed_p050 2 x1 x2 x3 x4 x5 x6 x7 x8 x9 x10 x11 x12 x13 x14 x15 x16 x17 x18 x19 x20 x21 x22 x23 x24 x25 x26 x27 x28 x29 x30 x31 x32 x33 x34 x35 x36 x37 A = some ((A ++ [.int .u8 2]) ++ (bex (IntKind.u64.wrap x2) 8 ++ bex (IntKind.u64.wrap x3) 8)) := by
  have w : IntKind.u8.wrap 2 = 2 := rfl
  have l1 : (A ++ [AV.int .u8 2]).length * 2 < 70368744177664 := by rw [List.length_append, List.length_singleton]; omega
  have n := ints_eq' [.int .i64 x2, .int .i64 x3] (A ++ [AV.int .u8 2]) (by simp only [ints, intW, List.flatMap_cons, List.flatMap_nil, List.length_append, length_bex, List.length_singleton, List.length_nil]; unfold CAP; omega) (by simp)
  have e : ints [AV.int .i64 x2, .int .i64 x3] = bex (IntKind.u64.wrap x2) 8 ++ bex (IntKind.u64.wrap x3) 8 := by simp only [ints, intW, List.flatMap_cons, List.flatMap_nil, getI_int, List.append_nil]
  have z : ((2 : Int) == 1) = false := rfl
  rw [e] at n
  unfold g_pack_writer_deed_p050
  simp only [T_pack_writer_deed_p050, Tr.val_c, Tr.val_r, val_opt, w, l1, n, z, Option.bind_some, beq_self_eq_true, decide_true, cond_true, cond_false]
def tD (t : Int) : AV := .agg [.int .i64 1, .int .u64 t, .int .i64 0, .int .i64 0, .int .i64 0, .int .i64 0, .int .i64 0, .int .i64 0, .int .i64 0, .int .u64 0, .int .i64 0, .int .i64 0, .str [], .str [], .str [], .str [], .int .u64 0, .str [], .str [], .str [], .str [], .int .i64 0, .str [], .str [], .int .i64 0, .str [], .slice 2 (.agg [.int .i64, .slice 1 (.int .u8)]) [] .ro, .str [], .str [], .slice 2 (.agg [.str, .str]) [] .ro, .slice 2 (.agg [.int .i64, .slice 1 (.int .u8)]) [] .ro, .int .i64 0, .int .u64 0, .str [], .str [], .str [], .slice 2 (.agg [.str, .str]) [] .ro, .slice 2 (.agg [.int .i64, .slice 1 (.int .u8)]) [] .ro]
def nD (a b : Int) : AV := .agg [.int .i64 2, .int .u64 0, .int .i64 a, .int .i64 b, .int .i64 0, .int .i64 0, .int .i64 0, .int .i64 0, .int .i64 0, .int .u64 0, .int .i64 0, .int .i64 0, .str [], .str [], .str [], .str [], .int .u64 0, .str [], .str [], .str [], .str [], .int .i64 0, .str [], .str [], .int .i64 0, .str [], .slice 2 (.agg [.int .i64, .slice 1 (.int .u8)]) [] .ro, .str [], .str [], .slice 2 (.agg [.str, .str]) [] .ro, .slice 2 (.agg [.int .i64, .slice 1 (.int .u8)]) [] .ro, .int .i64 0, .int .u64 0, .str [], .str [], .str [], .slice 2 (.agg [.str, .str]) [] .ro, .slice 2 (.agg [.int .i64, .slice 1 (.int .u8)]) [] .ro]
theorem Deeds_t (t : Int) : g_pack_Deeds [tD t] = some (([] ++ [.int .u8 1]) ++ bex t 8) := by
  have d := deedT t 0 0 0 0 0 0 0 0 0 0 [] [] [] [] 0 [] [] [] [] 0 [] [] 0 [] [] [] [] [] [] 0 0 [] [] [] [] [] [] (by simp)
  unfold g_pack_Deeds
  rw [run_inl (s := ((0 : Int), ([] : List AV))) rfl]
  rw [run_inl (s := ((1 : Int), ([] ++ [.int .u8 1]) ++ bex t 8)) ((show (M_pack_Deeds [tD t] ((0 : Int), [])).val = (opt (g_pack_writer_deed_p050 1 t 0 0 0 0 0 0 0 0 0 0 [] [] [] [] 0 [] [] [] [] 0 [] [] 0 [] [] [] [] [] [] 0 0 [] [] [] [] [] []) fun y => Tr.r (.inl ((1 : Int), y))).val from rfl).trans (by rw [val_opt, d]; rfl))]
  exact run_inr rfl
theorem Deeds_tn (t a b : Int) : g_pack_Deeds [tD t, nD a b] = some (((([] ++ [.int .u8 1]) ++ bex t 8) ++ [.int .u8 2]) ++ (bex (IntKind.u64.wrap a) 8 ++ bex (IntKind.u64.wrap b) 8)) := by
  have d := deedT t 0 0 0 0 0 0 0 0 0 0 [] [] [] [] 0 [] [] [] [] 0 [] [] 0 [] [] [] [] [] [] 0 0 [] [] [] [] [] [] (by simp)
  have d2 := deedN 0 a b 0 0 0 0 0 0 0 0 [] [] [] [] 0 [] [] [] [] 0 [] [] 0 [] [] [] [] [] [] 0 0 [] [] [] [] [] (([] ++ [.int .u8 1]) ++ bex t 8) (by simp)
  unfold g_pack_Deeds
  rw [run_inl (s := ((0 : Int), ([] : List AV))) rfl]
  rw [run_inl (s := ((1 : Int), ([] ++ [.int .u8 1]) ++ bex t 8)) ((show (M_pack_Deeds [tD t, nD a b] ((0 : Int), [])).val = (opt (g_pack_writer_deed_p050 1 t 0 0 0 0 0 0 0 0 0 0 [] [] [] [] 0 [] [] [] [] 0 [] [] 0 [] [] [] [] [] [] 0 0 [] [] [] [] [] []) fun y => Tr.r (.inl ((1 : Int), y))).val from rfl).trans (by rw [val_opt, d]; rfl))]
  rw [run_inl (s := ((2 : Int), ((([] ++ [.int .u8 1]) ++ bex t 8) ++ [.int .u8 2]) ++ (bex (IntKind.u64.wrap a) 8 ++ bex (IntKind.u64.wrap b) 8))) ((show (M_pack_Deeds [tD t, nD a b] ((1 : Int), ([] ++ [.int .u8 1]) ++ bex t 8)).val = (bif (([] ++ [AV.int .u8 1]) ++ bex t 8).length == (([] ++ [AV.int .u8 1]) ++ bex t 8).length then (opt (g_pack_writer_deed_p050 2 0 a b 0 0 0 0 0 0 0 0 [] [] [] [] 0 [] [] [] [] 0 [] [] 0 [] [] [] [] [] [] 0 0 [] [] [] [] [] (([] ++ [.int .u8 1]) ++ bex t 8)) fun y => Tr.r (.inl ((2 : Int), y))).val else none) from rfl).trans (by rw [val_opt, d2, beq_self_eq_true]; rfl))]
  exact run_inr rfl
theorem may_eq (s0 s1 : List AV) (l : Int) (td tn : Bool) (i : Int) : g_disk_Disk_may_p0 s0 s1 l td tn i = some (if i < 0 then 1 else if i ≥ 2 then 1 else if tn = true then 24 else 0) := by
  unfold g_disk_Disk_may_p0
  simp only [T_disk_Disk_may_p0, Tr.val_c, Tr.val_r]
  by_cases h1 : i < 0
  · simp [h1]
  · by_cases h2 : i ≥ 2
    · simp [h1, h2]
    · cases tn <;> simp [h1, h2]
theorem Slot_own (i : Int) (s0 s1 : List AV) (l : Int) (td tn : Bool) (h0 : s0.length < 8796093022208) (h1 : s1.length < 8796093022208) :
    g_disk_Disk_Slot_p0500000 i s0 s1 l td tn = some (s0, s1, l, td, tn, if i = 0 then s0 else if i = 1 then s1 else []) := by
  have e : g_disk_Disk_slot_p0500000 i s0 s1 l td tn = some (if i = 0 then s0 else if i = 1 then s1 else [], s0, s1, l, td, tn) := by
    unfold g_disk_Disk_slot_p0500000
    simp only [T_disk_Disk_slot_p0500000, Tr.val_c, Tr.val_r]
    by_cases a1 : i < 0
    · simp [a1, show ¬ i = 0 by omega, show ¬ i = 1 by omega]
    · by_cases a2 : i ≥ 2
      · simp [a1, a2, show ¬ i = 0 by omega, show ¬ i = 1 by omega]
      · rcases (show i = 0 ∨ i = 1 by omega) with rfl | rfl <;> simp
  have hl : (if i = 0 then s0 else if i = 1 then s1 else []).length * 2 < 70368744177664 := by
    split
    · omega
    · split
      · omega
      · simp
  have e2 : g_disk_own_fslot_0p500000 i s0 s1 l td tn = some (s0, s1, l, td, tn, if i = 0 then s0 else if i = 1 then s1 else []) := by
    unfold g_disk_own_fslot_0p500000
    simp only [T_disk_own_fslot_0p500000, Tr.val_c, Tr.val_r, val_opt, e, Option.bind_some, hl, decide_true, cond_true, beq_self_eq_true]
  unfold g_disk_Disk_Slot_p0500000
  simp only [T_disk_Disk_Slot_p0500000, Tr.val_c, Tr.val_r, val_opt, e2, Option.bind_some, beq_self_eq_true, cond_true]
theorem App0 (r s0 s1 : List AV) (l : Int) (h : s0.length + r.length ≤ 2000000) : g_disk_Disk_Append_p00500000 0 r s0 s1 l false false = some (0, s0 ++ r, s1, l, false, false) := by
  have w : IntKind.i64.wrap ((s0.length : Int) + r.length) = (s0.length : Int) + r.length := i64_wrap (by omega) (by omega)
  have q : ¬ (s0.length : Int) + r.length > 2000000 := by omega
  have qq : (r.length : Int) ≤ r.length := Int.le_refl _
  have q0 : (0 : Int) ≤ r.length := by omega
  have C := Concat_eq s0 r (by omega)
  have e01 : ¬ ((0 : Int) = 1) := by decide
  have z : ((0 : Int) != 0) = false := rfl
  unfold g_disk_Disk_Append_p00500000
  simp only [T_disk_Disk_Append_p00500000, Tr.val_c, Tr.val_r, val_opt, may_eq, w, q, qq, q0, Int.toNat_natCast, List.take_length, List.drop_zero, C, e01, z, Option.bind_some, beq_self_eq_true, decide_true, decide_false, cond_true, cond_false, show ¬ ((0 : Int) < 0) by decide, show ¬ ((0 : Int) ≥ 2) by decide, if_false, Bool.false_eq_true]
theorem App1 (r s0 s1 : List AV) (l : Int) (h : s1.length + r.length ≤ 2000000) : g_disk_Disk_Append_p00500000 1 r s0 s1 l false false = some (0, s0, s1 ++ r, l, false, false) := by
  have w : IntKind.i64.wrap ((s1.length : Int) + r.length) = (s1.length : Int) + r.length := i64_wrap (by omega) (by omega)
  have q : ¬ (s1.length : Int) + r.length > 2000000 := by omega
  have qq : (r.length : Int) ≤ r.length := Int.le_refl _
  have q0 : (0 : Int) ≤ r.length := by omega
  have C := Concat_eq s1 r (by omega)
  have z : ((0 : Int) != 0) = false := rfl
  unfold g_disk_Disk_Append_p00500000
  simp only [T_disk_Disk_Append_p00500000, Tr.val_c, Tr.val_r, val_opt, may_eq, w, q, qq, q0, Int.toNat_natCast, List.take_length, List.drop_zero, C, z, Option.bind_some, beq_self_eq_true, decide_true, decide_false, cond_true, cond_false, show ¬ ((1 : Int) < 0) by decide, show ¬ ((1 : Int) ≥ 2) by decide, if_false, Bool.false_eq_true]
theorem Era0 (s0 s1 : List AV) (l : Int) (td : Bool) : g_disk_Disk_Erase_p0500000 0 s0 s1 l td false = some (0, [], s1, l, td, false) := by
  unfold g_disk_Disk_Erase_p0500000
  simp only [T_disk_Disk_Erase_p0500000, Tr.val_c, Tr.val_r, val_opt, may_eq, Option.bind_some, show ¬ ((0 : Int) < 0) by decide, show ¬ ((0 : Int) ≥ 2) by decide, show ¬ ((0 : Int) = 1) by decide, if_false, Bool.false_eq_true, beq_self_eq_true, decide_true, decide_false, cond_true, cond_false]
theorem next_nil : g_journal_walk_next_p50 [] = some ([], false, []) := by
  have n := New_eq [] (by simp)
  have m := Number_eq 4 [] 0 (by simp) (by simp)
  have m' : g_cursor_Cursor_Number_p0500 4 [] 0 = some (0, 3, [], 0) := m
  unfold g_journal_walk_next_p50
  simp only [T_journal_walk_next_p50, Tr.val_c, Tr.val_r, val_opt, n, m', Option.bind_some]
  rfl
theorem Scan_nil : g_journal_Scan [] = some ([], 0) := by
  have e : g_journal_every_fnext_p50 [] = some ([], []) := by
    unfold g_journal_every_fnext_p50
    rw [run_inl (s := (([] : List AV), false, ([] : List AV), ([] : List AV))) (by simp only [T_journal_every_fnext_p50, Tr.val_r, val_opt, next_nil, Option.bind_some])]
    exact run_inr rfl
  unfold g_journal_Scan
  simp only [T_journal_Scan, Tr.val_r, val_opt, e, Option.bind_some]
  rfl
theorem read_nil : g_keeper_read [] = some (0, 0, 0, 0, [], [], 0) := by
  unfold g_keeper_read
  simp only [T_keeper_read, Tr.val_c, Tr.val_r, val_opt, Scan_nil, Option.bind_some]
  rfl
theorem Whole_nil (t a b : Int) : g_state_Whole t a b [] [] = some [tD t, nD a b] := by
  unfold g_state_Whole
  rw [run_inl (s := (.inl (()))) rfl, run_inl (s := (.inr (()))) rfl]
  exact run_inr rfl
theorem Apply_nil (t a b : Int) : g_state_Apply t a b [] [] [] = some (t, a, b, [], []) := by
  have e1 : g_state_each_api_Exchange_0fexchange_ [] = some [] := by
    unfold g_state_each_api_Exchange_0fexchange_
    rw [run_inl (s := ()) rfl]
    exact run_inr rfl
  have e2 : g_state_each_api_Parked_0fparked_ [] = some [] := by
    unfold g_state_each_api_Parked_0fparked_
    rw [run_inl (s := ()) rfl]
    exact run_inr rfl
  unfold g_state_Apply
  rw [run_inl (s := ((0 : Int), t, a, b, ([] : List AV), ([] : List AV))) (by simp only [T_state_Apply, Tr.val_r, val_opt, e1, e2, Option.bind_some])]
  exact run_inr rfl
theorem Apply_t (t a b v : Int) : g_state_Apply t a b [] [] [tD v] = some (v, a, b, [], []) := by
  have e1 : g_state_each_api_Exchange_0fexchange_ [] = some [] := by
    unfold g_state_each_api_Exchange_0fexchange_
    rw [run_inl (s := ()) rfl]
    exact run_inr rfl
  have e2 : g_state_each_api_Parked_0fparked_ [] = some [] := by
    unfold g_state_each_api_Parked_0fparked_
    rw [run_inl (s := ()) rfl]
    exact run_inr rfl
  unfold g_state_Apply
  rw [run_inl (s := ((0 : Int), t, a, b, ([] : List AV), ([] : List AV))) (by simp only [T_state_Apply, Tr.val_r, val_opt, e1, e2, Option.bind_some])]
  rw [run_inl (s := ((1 : Int), v, a, b, ([] : List AV), ([] : List AV))) rfl]
  exact run_inr rfl
theorem length_recR (A : List AV) : (recR A).length = A.length + 8 := by
  simp only [recR, List.length_append, length_bex]; omega
theorem anew_0 (t a b e : Int) (he : 0 ≤ e ∧ e < 1000000) (s0 s1 : List AV) (l : Int) : ∃ r : List AV, r.length = 42 ∧ g_keeper_Keeper_anew_p5p0000000 t a b [] [] e 1 s0 s1 l false false = some (0, t, a, b, [], [], e + 1, 0, r, s1, l, false, false) := by
  have w0 : IntKind.i64.wrap (1 - 1) = 0 := rfl
  have w1 : IntKind.u64.wrap (e + 1) = e + 1 := u64_wrap (by omega) (by omega)
  have p := Put_eq [] (e + 1) 8 8 (by simp) (by omega) (by decide)
  rw [List.nil_append] at p
  have d := Deeds_tn t a b
  generalize hD : (((([] ++ [AV.int .u8 1]) ++ bex t 8) ++ [.int .u8 2]) ++ (bex (IntKind.u64.wrap a) 8 ++ bex (IntKind.u64.wrap b) 8)) = D at d
  have lD : D.length = 26 := by rw [← hD]; simp only [List.length_append, length_bex, List.length_singleton, List.length_nil]
  have C := Concat_eq (bex (e + 1) 8) D (by rw [length_bex]; omega)
  have R := Record_eq (bex (e + 1) 8 ++ D) (by rw [List.length_append, length_bex]; omega)
  have lR : (recR (bex (e + 1) 8 ++ D)).length = 42 := by rw [length_recR, List.length_append, length_bex]; omega
  have A := App0 (recR (bex (e + 1) 8 ++ D)) [] s1 l (by rw [lR]; decide)
  rw [List.nil_append] at A
  have z : ((0 : Int) != 0) = false := rfl
  refine ⟨recR (bex (e + 1) 8 ++ D), by omega, ?_⟩
  unfold g_keeper_Keeper_anew_p5p0000000
  simp only [T_keeper_Keeper_anew_p5p0000000, Tr.val_c, Tr.val_r, val_opt, w0, w1, Era0, p, Whole_nil, d, C, R, A, z, Option.bind_some, beq_self_eq_true, cond_true, cond_false, List.nil_append]
theorem Open_new : ∃ r : List AV, r.length = 42 ∧ g_keeper_Open_p500000 [] [] 0 false false = some (r, [], 0, false, false, 0, 1, 1, [], [], 1, 0) := by
  obtain ⟨r, lr, hr⟩ := anew_0 0 1 1 0 (by decide) [] [] 0
  refine ⟨r, lr, ?_⟩
  have S := fun i => Slot_own i [] [] 0 false false (by simp) (by simp)
  have w1 : IntKind.i64.wrap (0 + 1) = 1 := rfl
  have w2 : IntKind.i64.wrap (1 + 1) = 2 := rfl
  unfold g_keeper_Open_p500000
  rw [run_inl (s := (true, (0 : Int), ([] : List AV), ([] : List AV), (0 : Int), false, false, (0 : Int), (1 : Int), (1 : Int), ([] : List AV), ([] : List AV), (0 : Int), (1 : Int))) rfl]
  rw [run_inl (s := (true, (1 : Int), ([] : List AV), ([] : List AV), (0 : Int), false, false, (0 : Int), (1 : Int), (1 : Int), ([] : List AV), ([] : List AV), (0 : Int), (1 : Int))) (by
    simp only [M_keeper_Open_p500000, Tr.val_c, Tr.val_r, val_opt, S, read_nil, w1, Option.bind_some, if_true, Bool.true_and, beq_self_eq_true, show (0 : Int) < 2 by decide, show ¬ ((0 : Int) > 0) by decide, decide_true, decide_false, cond_true, cond_false])]
  rw [run_inl (s := (true, (2 : Int), ([] : List AV), ([] : List AV), (0 : Int), false, false, (0 : Int), (1 : Int), (1 : Int), ([] : List AV), ([] : List AV), (0 : Int), (1 : Int))) (by
    simp only [M_keeper_Open_p500000, Tr.val_c, Tr.val_r, val_opt, S, read_nil, w2, Option.bind_some, if_true, if_false, Bool.true_and, beq_self_eq_true, show (1 : Int) < 2 by decide, show ¬ ((1 : Int) = 0) by decide, show ¬ ((0 : Int) > 0) by decide, decide_true, decide_false, cond_true, cond_false])]
  exact run_inr (by simp only [M_keeper_Open_p500000, Tr.val_c, Tr.val_r, val_opt, hr, Option.bind_some, show ¬ ((2 : Int) < 2) by decide, decide_false, cond_true, cond_false]; rfl)
theorem Commit_t (v t a b e : Int) (s0 s1 : List AV) (l : Int) (h : s0.length ≤ 10000) (h1 : s1.length ≤ 10000) : ∃ r : List AV, r.length = s0.length + 17 ∧
    g_keeper_Keeper_Commit_p05p0000000 [tD v] t a b [] [] e 0 s0 s1 l false false = some (0, v, a, b, [], [], e, 0, r, s1, l, false, false) := by
  have d := Deeds_t v
  generalize hD : (([] ++ [AV.int .u8 1]) ++ bex v 8) = D at d
  have lD : D.length = 9 := by rw [← hD]; simp only [List.length_append, length_bex, List.length_singleton, List.length_nil]
  have R := Record_eq D (by omega)
  have lR : (recR D).length = 17 := by rw [length_recR]; omega
  have A := App0 (recR D) s0 s1 l (by omega)
  have lA : (s0 ++ recR D).length = s0.length + 17 := by rw [List.length_append]; omega
  have S := Slot_own 0 (s0 ++ recR D) s1 l false false (by omega) (by omega)
  rw [if_pos rfl] at S
  have z : ((0 : Int) != 0) = false := rfl
  have zm : ((0 : Int) == -1) = false := rfl
  have q : ¬ (((s0 ++ recR D).length : Nat) : Int) > 20000 := by omega
  refine ⟨s0 ++ recR D, lA, ?_⟩
  unfold g_keeper_Keeper_Commit_p05p0000000
  simp only [T_keeper_Keeper_Commit_p05p0000000, Tr.val_c, Tr.val_r, val_opt, zm, d, R, A, z, Apply_t, S, q, Option.bind_some, decide_false, cond_true, cond_false]
theorem awake25 : g_comptoirlaw25_awake = some true := by
  obtain ⟨r, lr, ho⟩ := Open_new
  obtain ⟨r2, -, hc⟩ := Commit_t 5 0 1 1 1 r [] 0 (by omega) (by simp)
  have hc' : g_keeper_Keeper_Commit_p05p0000000 [.agg [.int .i64 1, .int .u64 5, .int .i64 0, .int .i64 0, .int .i64 0, .int .i64 0, .int .i64 0, .int .i64 0, .int .i64 0, .int .u64 0, .int .i64 0, .int .i64 0, .str [], .str [], .str [], .str [], .int .u64 0, .str [], .str [], .str [], .str [], .int .i64 0, .str [], .str [], .int .i64 0, .str [], .slice 2 (.agg [.int .i64, .slice 1 (.int .u8)]) [] .ro, .str [], .str [], .slice 2 (.agg [.str, .str]) [] .ro, .slice 2 (.agg [.int .i64, .slice 1 (.int .u8)]) [] .ro, .int .i64 0, .int .u64 0, .str [], .str [], .str [], .slice 2 (.agg [.str, .str]) [] .ro, .slice 2 (.agg [.int .i64, .slice 1 (.int .u8)]) [] .ro]] 0 1 1 [] [] 1 0 r [] 0 false false = some (0, 5, 1, 1, [], [], 1, 0, r2, [], 0, false, false) := hc
  unfold g_comptoirlaw25_awake
  simp only [T_comptoirlaw25_awake, g_keeper_Keeper_State_p5p0000000, T_keeper_Keeper_State_p5p0000000, Tr.val_c, Tr.val_r, val_opt, ho, hc', Apply_nil, Option.bind_some, beq_self_eq_true, cond_true]
theorem rnum_eq (n : Int) (b : List AV) (k : Int) : g_pack_reader_number_p05p0 n 0 b k = g_cursor_Cursor_Number_p0500 n b k := by
  unfold g_pack_reader_number_p05p0
  have z : ((0 : Int) != 0) = false := rfl
  simp only [T_pack_reader_number_p05p0, Tr.val_c, Tr.val_r, val_opt, z, cond_false]
  cases g_cursor_Cursor_Number_p0500 n b k <;> rfl
abbrev tB (t : Nat) : List UInt8 := 1 :: bexb t 8
theorem num_t {t : Nat} (ht : t < 18446744073709551616) : numOf (bl (bexb t 8)) = (t : Int) := by
  rw [← bex_bl, numOf_bex _ _ (by omega), Nat.mod_eq_of_lt (by simpa using ht)]
theorem deed_t {t : Nat} (ht : t < 18446744073709551616) : g_pack_reader_deed_p5p0 0 (bl (tB t)) 0 = some (1, (t : Int), 0, 0, 0, 0, 0, 0, 0, 0, 0, 0, [], [], [], [], 0, [], [], [], [], 0, [], [], 0, [], [], [], [], [], [], 0, 0, [], [], [], [], [], 0, bl (tB t), 9) := by
  have l : (bl (tB t)).length = 9 := by rw [length_bl]; simp
  have n1 := Number_eq 1 (bl (tB t)) 0 (by omega) (by omega)
  have n8 := Number_eq 8 (bl (tB t)) 1 (by omega) (by omega)
  rw [l, if_neg (by decide), if_neg (by decide), if_neg (by decide)] at n1
  rw [l, if_neg (by decide), if_neg (by decide), if_neg (by decide)] at n8
  have e1 : numOf (((bl (tB t)).drop 0).take (1 : Int).toNat) = 1 := by
    rw [List.drop_zero, show (1 : Int).toNat = 1 from rfl, bl_take]; rfl
  have e8 : numOf (((bl (tB t)).drop 1).take (8 : Int).toNat) = (t : Int) := by
    rw [bl_drop, show (8 : Int).toNat = 8 from rfl, bl_take, show (tB t).drop 1 = bexb t 8 from rfl, List.take_of_length_le (by simp), num_t ht]
  rw [e1] at n1
  rw [e8] at n8
  have n1' : g_cursor_Cursor_Number_p0500 1 (bl (tB t)) 0 = some (1, 0, bl (tB t), 1) := n1
  have n8' : g_cursor_Cursor_Number_p0500 8 (bl (tB t)) 1 = some ((t : Int), 0, bl (tB t), 9) := n8
  have w : IntKind.i64.wrap 1 = 1 := rfl
  unfold g_pack_reader_deed_p5p0
  simp only [T_pack_reader_deed_p5p0, Tr.val_c, Tr.val_r, val_opt, rnum_eq, n1', n8', w, Option.bind_some, beq_self_eq_true, cond_true]
theorem Parse_t {t : Nat} (ht : t < 18446744073709551616) : g_pack_Parse (bl (tB t)) = some ([tD (t : Int)], 0) := by
  have l : (bl (tB t)).length = 9 := by rw [length_bl]; simp
  have N := New_eq (bl (tB t)) (by omega)
  have d := deed_t ht
  have w0 : IntKind.i64.wrap (((9 : Nat) : Int) - 0) = 9 := rfl
  have w9 : IntKind.i64.wrap (((9 : Nat) : Int) - 9) = 0 := rfl
  have z : ((0 : Int) != 0) = false := rfl
  unfold g_pack_Parse
  rw [run_inl (s := (bl (tB t), (0 : Int), (0 : Int), ([] : List AV))) (by simp only [T_pack_Parse, Tr.val_r, val_opt, N, Option.bind_some])]
  rw [run_inl (s := (bl (tB t), (9 : Int), (0 : Int), [tD (t : Int)])) (by
    simp only [M_pack_Parse, Tr.val_c, Tr.val_r, val_opt, l, w0, d, z, Option.bind_some, beq_self_eq_true, show (9 : Int) > 0 by decide, decide_true, cond_true, cond_false, List.nil_append, List.length_singleton, show 1 * 513 < 70368744177664 by decide]
    rfl)]
  exact run_inr (by simp only [M_pack_Parse, Tr.val_c, Tr.val_r, l, w9, show ¬ ((0 : Int) > 0) by decide, decide_false, cond_false, beq_self_eq_true, cond_true])
theorem take_t {t : Nat} (ht : t < 18446744073709551616) (e t0 a b u : Int) (hu : 0 ≤ u ∧ u < 1000000) : g_keeper_found_take_p050000000 (bl (tB t)) e t0 a b [] [] u = some (true, e, (t : Int), a, b, [], [], u + 17) := by
  have l : (bl (tB t)).length = 9 := by rw [length_bl]; simp
  have w1 : IntKind.i64.wrap (((9 : Nat) : Int) + 8) = 17 := rfl
  have w2 : IntKind.i64.wrap (u + 17) = u + 17 := i64_wrap (by omega) (by omega)
  unfold g_keeper_found_take_p050000000
  simp only [T_keeper_found_take_p050000000, Tr.val_c, Tr.val_r, val_opt, Parse_t ht, Apply_t, l, w1, w2, Option.bind_some, beq_self_eq_true, cond_true]
abbrev eB (n t : Nat) : List UInt8 := bexb n 8 ++ tB t
theorem first_t {n t : Nat} (hn : 1 ≤ n) (hn2 : n < 1000) (ht : t < 18446744073709551616) : g_keeper_found_first_p050000000 (bl (eB n t)) 0 0 1 1 [] [] 0 = some (true, (n : Int), (t : Int), 1, 1, [], [], 25) := by
  have l : (bl (eB n t)).length = 17 := by rw [length_bl]; simp
  have N := New_eq (bl (eB n t)) (by omega)
  have n8 := Number_eq 8 (bl (eB n t)) 0 (by omega) (by omega)
  rw [l, if_neg (by decide), if_neg (by decide), if_neg (by decide)] at n8
  have e8 : numOf (((bl (eB n t)).drop 0).take (8 : Int).toNat) = (n : Int) := by
    rw [List.drop_zero, show (8 : Int).toNat = 8 from rfl, bl_take, List.take_left' (by simp), num_t (by omega)]
  rw [e8] at n8
  have n8' : g_cursor_Cursor_Number_p0500 8 (bl (eB n t)) 0 = some ((n : Int), 0, bl (eB n t), 8) := n8
  have ed : ((bl (eB n t)).take 17).drop 8 = bl (tB t) := by rw [bl_take, bl_drop, List.take_of_length_le (by simp), List.drop_left' (by simp)]
  have T := take_t ht 0 0 1 1 0 (by decide)
  have z : ((0 : Int) != 0) = false := rfl
  have z1 : ((n : Int) == 0) = false := beq_eq_false_iff_ne.2 (by omega)
  have z2 : ¬ (n : Int) ≥ 9223372036854775808 := by omega
  have w : IntKind.i64.wrap (0 + 17 + 8) = 25 := rfl
  have q : ((17 : Nat) : Int) ≤ ((17 : Nat) : Int) := Int.le_refl _
  have q8 : (8 : Int) ≤ ((17 : Nat) : Int) := by decide
  unfold g_keeper_found_first_p050000000
  simp only [T_keeper_found_first_p050000000, Tr.val_c, Tr.val_r, val_opt, N, n8', z, z1, z2, l, q, q8, ed, T, w, Option.bind_some, decide_true, decide_false, cond_true, cond_false, Bool.not_true]
theorem while_none (e t a b u : Int) : g_keeper_while_0ftake_p50000000 [] e t a b [] [] u = some (e, t, a, b, [], [], u) := by
  unfold g_keeper_while_0ftake_p50000000
  rw [run_inl (s := ((0 : Int), e, t, a, b, ([] : List AV), ([] : List AV), u)) rfl]
  exact run_inr rfl
theorem while_one {v : Nat} (hv : v < 18446744073709551616) (e t a b u : Int) (hu : 0 ≤ u ∧ u < 1000000) : g_keeper_while_0ftake_p50000000 [slb (tB v)] e t a b [] [] u = some (e, (v : Int), a, b, [], [], u + 17) := by
  have T := take_t hv e t a b u hu
  have g : getXs (List.getD [slb (tB v)] (Int.toNat 0) (.slice 1 (.int .u8) [] .ro)) = bl (tB v) := rfl
  have w : IntKind.i64.wrap (0 + 1) = 1 := rfl
  unfold g_keeper_while_0ftake_p50000000
  rw [run_inl (s := ((0 : Int), e, t, a, b, ([] : List AV), ([] : List AV), u)) rfl]
  rw [run_inl (s := ((1 : Int), e, (v : Int), a, b, ([] : List AV), ([] : List AV), u + 17)) (by
    simp only [M_keeper_while_0ftake_p50000000, Tr.val_c, Tr.val_r, val_opt, List.length_singleton, g, T, w, Option.bind_some, show (0 : Int) < ((1 : Nat) : Int) by decide, show (0 : Int) ≤ 0 by decide, decide_true, cond_true, cond_false, Bool.not_true])]
  exact run_inr rfl
theorem read_none' {r : List UInt8} (hr : nextR (bl r) = none) (hl : r.length < 1000000) : g_keeper_read (bl r) = some (0, 0, 0, 0, [], [], 0) := by
  have S := Scan_recs [] r hr (by simpa [recsb] using hl) (by simp) (by simp)
  have e : recsb [] ++ r = r := rfl
  rw [e] at S
  have S' : g_journal_Scan (bl r) = some ([], ((recsb []).length : Int)) := S
  unfold g_keeper_read
  simp only [T_keeper_read, Tr.val_c, Tr.val_r, val_opt, S', Option.bind_some]
  rfl
theorem nextR_nil : nextR (bl []) = none := nextR_short (by simp)
theorem read_one {n t : Nat} (hn : 1 ≤ n) (hn2 : n < 1000) (ht : t < 18446744073709551616) : g_keeper_read (bl (recsb [eB n t])) = some ((n : Int), (t : Int), 1, 1, [], [], 25) := by
  have S := Scan_recs [eB n t] [] nextR_nil (by simp [recsb]) (by simp) (by simp)
  rw [List.append_nil] at S
  have g : getXs (List.getD [slb (eB n t)] 0 (.slice 1 (.int .u8) [] .ro)) = bl (eB n t) := rfl
  have F := first_t hn hn2 ht
  have d : List.drop 1 (List.take 1 [slb (eB n t)]) = [] := rfl
  have S' : g_journal_Scan (bl (recsb [eB n t])) = some ([slb (eB n t)], ((recsb [eB n t]).length : Int)) := S
  have z : (((1 : Nat) : Int) == 0) = false := rfl
  unfold g_keeper_read
  simp only [T_keeper_read, Tr.val_c, Tr.val_r, val_opt, S', List.length_singleton, g, F, d, z, while_none, Option.bind_some, show (0 : Int) < ((1 : Nat) : Int) by decide, show ((1 : Nat) : Int) ≤ ((1 : Nat) : Int) by decide, show (1 : Int) ≤ ((1 : Nat) : Int) by decide, decide_true, cond_true, cond_false, Bool.not_true]
theorem read_two {n t v : Nat} (hn : 1 ≤ n) (hn2 : n < 1000) (ht : t < 18446744073709551616) (hv : v < 18446744073709551616) : g_keeper_read (bl (recsb [eB n t, tB v])) = some ((n : Int), (v : Int), 1, 1, [], [], 42) := by
  have S := Scan_recs [eB n t, tB v] [] nextR_nil (by simp [recsb]) (by simp) (by simp)
  rw [List.append_nil] at S
  have g : getXs (List.getD [slb (eB n t), slb (tB v)] 0 (.slice 1 (.int .u8) [] .ro)) = bl (eB n t) := rfl
  have F := first_t hn hn2 ht
  have d : List.drop 1 (List.take 2 [slb (eB n t), slb (tB v)]) = [slb (tB v)] := rfl
  have S' : g_journal_Scan (bl (recsb [eB n t, tB v])) = some ([slb (eB n t), slb (tB v)], ((recsb [eB n t, tB v]).length : Int)) := S
  have ll : [slb (eB n t), slb (tB v)].length = 2 := rfl
  have W := while_one hv (n : Int) (t : Int) 1 1 25 (by decide)
  have w : (25 : Int) + 17 = 42 := rfl
  rw [w] at W
  have z : (((2 : Nat) : Int) == 0) = false := rfl
  unfold g_keeper_read
  simp only [T_keeper_read, Tr.val_c, Tr.val_r, val_opt, S', ll, g, F, d, z, W, Option.bind_some, show (0 : Int) < ((2 : Nat) : Int) by decide, show ((2 : Nat) : Int) ≤ ((2 : Nat) : Int) by decide, show (1 : Int) ≤ ((2 : Nat) : Int) by decide, decide_true, cond_true, cond_false, Bool.not_true]
section
variable {A0 A1 : List AV} {e0 t0 n0 s0 u0 e1 t1 n1 s1 u1 : Int}
theorem Open_second (h0 : A0.length < 1000000) (h1 : A1.length < 1000000) (H0 : g_keeper_read A0 = some (e0, t0, n0, s0, [], [], u0)) (H1 : g_keeper_read A1 = some (e1, t1, n1, s1, [], [], u1)) (p0 : e0 > 0) (p1 : e1 > e0) (hu : u1 = A1.length) :
    g_keeper_Open_p500000 A0 A1 0 false false = some (A0, A1, 0, false, false, t1, n1, s1, [], [], e1, 1) := by
  have S := fun i => Slot_own i A0 A1 0 false false (by omega) (by omega)
  have w1 : IntKind.i64.wrap (0 + 1) = 1 := rfl
  have w2 : IntKind.i64.wrap (1 + 1) = 2 := rfl
  have q : ¬ u1 < (A1.length : Int) := by omega
  unfold g_keeper_Open_p500000
  rw [run_inl (s := (true, (0 : Int), A0, A1, (0 : Int), false, false, (0 : Int), (1 : Int), (1 : Int), ([] : List AV), ([] : List AV), (0 : Int), (1 : Int))) rfl]
  rw [run_inl (s := (decide (u0 < (A0.length : Int)), (1 : Int), A0, A1, (0 : Int), false, false, t0, n0, s0, ([] : List AV), ([] : List AV), e0, (0 : Int))) (by
    simp only [M_keeper_Open_p500000, Tr.val_c, Tr.val_r, val_opt, S, H0, w1, p0, Option.bind_some, if_true, Bool.true_and, beq_self_eq_true, show (0 : Int) < 2 by decide, decide_true, cond_true])]
  rw [run_inl (s := (false, (2 : Int), A0, A1, (0 : Int), false, false, t1, n1, s1, ([] : List AV), ([] : List AV), e1, (1 : Int))) (by
    simp only [M_keeper_Open_p500000, Tr.val_c, Tr.val_r, val_opt, S, H1, w2, p1, q, Option.bind_some, if_true, if_false, Bool.true_and, beq_self_eq_true, show (1 : Int) < 2 by decide, show ¬ ((1 : Int) = 0) by decide, decide_true, decide_false, cond_true])]
  exact run_inr (by simp only [M_keeper_Open_p500000, Tr.val_c, Tr.val_r, show ¬ ((2 : Int) < 2) by decide, decide_false, cond_false])
theorem Open_first (h0 : A0.length < 1000000) (h1 : A1.length < 1000000) (H0 : g_keeper_read A0 = some (e0, t0, n0, s0, [], [], u0)) (H1 : g_keeper_read A1 = some (e1, t1, n1, s1, [], [], u1)) (p0 : e0 > 0) (p1 : ¬ e1 > e0) (hu : u0 = A0.length) :
    g_keeper_Open_p500000 A0 A1 0 false false = some (A0, A1, 0, false, false, t0, n0, s0, [], [], e0, 0) := by
  have S := fun i => Slot_own i A0 A1 0 false false (by omega) (by omega)
  have w1 : IntKind.i64.wrap (0 + 1) = 1 := rfl
  have w2 : IntKind.i64.wrap (1 + 1) = 2 := rfl
  have q : ¬ u0 < (A0.length : Int) := by omega
  unfold g_keeper_Open_p500000
  rw [run_inl (s := (true, (0 : Int), A0, A1, (0 : Int), false, false, (0 : Int), (1 : Int), (1 : Int), ([] : List AV), ([] : List AV), (0 : Int), (1 : Int))) rfl]
  rw [run_inl (s := (false, (1 : Int), A0, A1, (0 : Int), false, false, t0, n0, s0, ([] : List AV), ([] : List AV), e0, (0 : Int))) (by
    simp only [M_keeper_Open_p500000, Tr.val_c, Tr.val_r, val_opt, S, H0, w1, p0, q, Option.bind_some, if_true, Bool.true_and, beq_self_eq_true, show (0 : Int) < 2 by decide, decide_true, decide_false, cond_true])]
  rw [run_inl (s := (false, (2 : Int), A0, A1, (0 : Int), false, false, t0, n0, s0, ([] : List AV), ([] : List AV), e0, (0 : Int))) (by
    simp only [M_keeper_Open_p500000, Tr.val_c, Tr.val_r, val_opt, S, H1, w2, p1, Option.bind_some, if_true, if_false, Bool.true_and, beq_self_eq_true, show (1 : Int) < 2 by decide, show ¬ ((1 : Int) = 0) by decide, decide_true, decide_false, cond_true, cond_false])]
  exact run_inr (by simp only [M_keeper_Open_p500000, Tr.val_c, Tr.val_r, show ¬ ((2 : Int) < 2) by decide, decide_false, cond_false])
theorem Open_neither (h0 : A0.length < 1000000) (h1 : A1.length < 1000000) (H0 : g_keeper_read A0 = some (e0, t0, n0, s0, [], [], u0)) (H1 : g_keeper_read A1 = some (e1, t1, n1, s1, [], [], u1)) (p0 : ¬ e0 > 0) (p1 : ¬ e1 > 0) :
    ∃ r : List AV, g_keeper_Open_p500000 A0 A1 0 false false = some (r, A1, 0, false, false, 0, 1, 1, [], [], 1, 0) := by
  obtain ⟨r, lr, hr⟩ := anew_0 0 1 1 0 (by decide) A0 A1 0
  refine ⟨r, ?_⟩
  have S := fun i => Slot_own i A0 A1 0 false false (by omega) (by omega)
  have w1 : IntKind.i64.wrap (0 + 1) = 1 := rfl
  have w2 : IntKind.i64.wrap (1 + 1) = 2 := rfl
  unfold g_keeper_Open_p500000
  rw [run_inl (s := (true, (0 : Int), A0, A1, (0 : Int), false, false, (0 : Int), (1 : Int), (1 : Int), ([] : List AV), ([] : List AV), (0 : Int), (1 : Int))) rfl]
  rw [run_inl (s := (true, (1 : Int), A0, A1, (0 : Int), false, false, (0 : Int), (1 : Int), (1 : Int), ([] : List AV), ([] : List AV), (0 : Int), (1 : Int))) (by
    simp only [M_keeper_Open_p500000, Tr.val_c, Tr.val_r, val_opt, S, H0, w1, p0, Option.bind_some, if_true, Bool.true_and, beq_self_eq_true, show (0 : Int) < 2 by decide, decide_true, decide_false, cond_true, cond_false])]
  rw [run_inl (s := (true, (2 : Int), A0, A1, (0 : Int), false, false, (0 : Int), (1 : Int), (1 : Int), ([] : List AV), ([] : List AV), (0 : Int), (1 : Int))) (by
    simp only [M_keeper_Open_p500000, Tr.val_c, Tr.val_r, val_opt, S, H1, w2, p1, Option.bind_some, if_true, if_false, Bool.true_and, beq_self_eq_true, show (1 : Int) < 2 by decide, show ¬ ((1 : Int) = 0) by decide, decide_true, decide_false, cond_true, cond_false])]
  exact run_inr (by simp only [M_keeper_Open_p500000, Tr.val_c, Tr.val_r, val_opt, hr, Option.bind_some, show ¬ ((2 : Int) < 2) by decide, decide_false, cond_true, cond_false]; rfl)
end
theorem refPack_t (t : Nat) : g_comptoirref21_Pack [tD (t : Int)] = some (bl (tB t)) := by
  have p := refPut_eq ([] ++ [.int .u8 1]) (t : Int) 8 8 (by simp) (by omega) (by decide)
  have e : ([] ++ [AV.int .u8 1]) ++ bex (t : Int) 8 = bl (tB t) := by rw [bex_bl]; rfl
  rw [e] at p
  unfold g_comptoirref21_Pack
  rw [run_inl (s := ((0 : Int), ([] : List AV))) rfl]
  rw [run_inl (s := ((1 : Int), bl (tB t))) ((show (M_comptoirref21_Pack [tD (t : Int)] ((0 : Int), ([] : List AV))).val = (opt (g_comptoirref01_Put ([] ++ [.int .u8 1]) (t : Int) 8) fun y => Tr.r (.inl ((1 : Int), y))).val from rfl).trans (by rw [val_opt, p]; rfl))]
  exact run_inr rfl
theorem refRecord_eq (A : List AV) (hA : A.length < 1000000) : g_comptoirref21_Record A = some (recR A) := by
  have w : IntKind.u64.wrap (A.length : Int) = (A.length : Int) := u64_wrap (by omega) (by omega)
  have p := refPut_eq [] (A.length : Int) 4 4 (by simp) (by omega) (by decide)
  rw [List.nil_append] at p
  have l : (bex (A.length : Int) 4 ++ A).length * 2 < 70368744177664 := by rw [List.length_append, length_bex]; omega
  have s := refSeal_eq (bex (A.length : Int) 4 ++ A) (by simp; omega)
  unfold g_comptoirref21_Record
  simp only [T_comptoirref21_Record, Tr.val_c, Tr.val_r, val_opt, w, p, l, s, Option.bind_some, beq_self_eq_true, Bool.true_and, decide_true, cond_true]
  rfl
theorem bexb_small {n : Nat} (hn : n < 256) : bl (bexb n 8) = [.int .u8 0, .int .u8 0, .int .u8 0, .int .u8 0, .int .u8 0, .int .u8 0, .int .u8 0, .int .u8 (n : Int)] := by
  have z : ∀ i, 1 ≤ i → n / 256 ^ i % 256 = 0 := fun i hi => by
    have : 256 ^ 1 ≤ 256 ^ i := Nat.pow_le_pow_right (by omega) hi
    rw [Nat.div_eq_of_lt (by omega)]
  simp only [bexb, z 7 (by omega), z 6 (by omega), z 5 (by omega), z 4 (by omega), z 3 (by omega), z 2 (by omega), z 1 (by omega), Nat.pow_zero, Nat.div_one, Nat.mod_eq_of_lt hn]
  have e : (UInt8.ofNat n).toNat = n := by rw [UInt8.toNat_ofNat']; exact Nat.mod_eq_of_lt hn
  simp only [bl, List.map_cons, List.map_nil, byte, e]
  rfl
theorem recR_eB (n t : Nat) : recR (bl (bexb n 8) ++ bl (tB t)) = bl (recsb [eB n t]) := by
  rw [← bl_append, recR_bl]
  simp [recsb]
theorem recsb_more (n t v : Nat) : bl (recsb [eB n t]) ++ recR (bl (tB v)) = bl (recsb [eB n t, tB v]) := by
  rw [recR_bl, ← bl_append]
  simp [recsb]
theorem Commit_0 (v : Nat) (t a b e : Int) (s0 s1 : List AV) (l : Int) (h : s0.length ≤ 10000) (h1 : s1.length ≤ 10000) :
    g_keeper_Keeper_Commit_p05p0000000 [tD (v : Int)] t a b [] [] e 0 s0 s1 l false false = some (0, (v : Int), a, b, [], [], e, 0, s0 ++ recR (bl (tB v)), s1, l, false, false) := by
  have d := Deeds_t (v : Int)
  have hD : (([] ++ [AV.int .u8 1]) ++ bex (v : Int) 8) = bl (tB v) := by rw [bex_bl]; rfl
  rw [hD] at d
  have lD : (bl (tB v)).length = 9 := by rw [length_bl]; simp
  have R := Record_eq (bl (tB v)) (by omega)
  have lR : (recR (bl (tB v))).length = 17 := by rw [length_recR]; omega
  have A := App0 (recR (bl (tB v))) s0 s1 l (by omega)
  have lA : (s0 ++ recR (bl (tB v))).length = s0.length + 17 := by rw [List.length_append]; omega
  have S := Slot_own 0 (s0 ++ recR (bl (tB v))) s1 l false false (by omega) (by omega)
  rw [if_pos rfl] at S
  have z : ((0 : Int) != 0) = false := rfl
  have zm : ((0 : Int) == -1) = false := rfl
  have q : ¬ (((s0 ++ recR (bl (tB v))).length : Nat) : Int) > 20000 := by omega
  unfold g_keeper_Keeper_Commit_p05p0000000
  simp only [T_keeper_Keeper_Commit_p05p0000000, Tr.val_c, Tr.val_r, val_opt, zm, d, R, A, z, Apply_t, S, q, Option.bind_some, decide_false, cond_true, cond_false]
theorem Commit_1 (v : Nat) (t a b e : Int) (s0 s1 : List AV) (l : Int) (h : s0.length ≤ 10000) (h1 : s1.length ≤ 10000) :
    g_keeper_Keeper_Commit_p05p0000000 [tD (v : Int)] t a b [] [] e 1 s0 s1 l false false = some (0, (v : Int), a, b, [], [], e, 1, s0, s1 ++ recR (bl (tB v)), l, false, false) := by
  have d := Deeds_t (v : Int)
  have hD : (([] ++ [AV.int .u8 1]) ++ bex (v : Int) 8) = bl (tB v) := by rw [bex_bl]; rfl
  rw [hD] at d
  have lD : (bl (tB v)).length = 9 := by rw [length_bl]; simp
  have R := Record_eq (bl (tB v)) (by omega)
  have lR : (recR (bl (tB v))).length = 17 := by rw [length_recR]; omega
  have A := App1 (recR (bl (tB v))) s0 s1 l (by omega)
  have lA : (s1 ++ recR (bl (tB v))).length = s1.length + 17 := by rw [List.length_append]; omega
  have S := Slot_own 1 s0 (s1 ++ recR (bl (tB v))) l false false (by omega) (by omega)
  rw [if_neg (by decide), if_pos rfl] at S
  have z : ((0 : Int) != 0) = false := rfl
  have zm : ((1 : Int) == -1) = false := rfl
  have q : ¬ (((s1 ++ recR (bl (tB v))).length : Nat) : Int) > 20000 := by omega
  unfold g_keeper_Keeper_Commit_p05p0000000
  simp only [T_keeper_Keeper_Commit_p05p0000000, Tr.val_c, Tr.val_r, val_opt, zm, d, R, A, z, Apply_t, S, q, Option.bind_some, decide_false, cond_true, cond_false]
theorem State_eq (t a b e sl : Int) (s0 s1 : List AV) (l : Int) (td tn : Bool) : g_keeper_Keeper_State_p5p0000000 t a b [] [] e sl s0 s1 l td tn = some (t, a, b, [], [], t, a, b, [], [], e, sl, s0, s1, l, td, tn) := by
  unfold g_keeper_Keeper_State_p5p0000000
  simp only [T_keeper_Keeper_State_p5p0000000, Tr.val_r, val_opt, Apply_nil, Option.bind_some]
theorem cut_none (n t c : Nat) (hc : c < 25) : nextR (bl ((recsb [eB n t]).take c)) = none := by
  have e : recsb [eB n t] = recb (eB n t) := by simp [recsb]
  rw [e]
  exact nextR_part (eB n t) ((recb (eB n t)).take c) ((recb (eB n t)).drop c) (List.take_append_drop _ _).symm (by rw [List.length_take]; simp; omega) (by simp)
theorem kreads_eq (x0 x1 x2 x3 : Int) (h0 : 0 ≤ x0 ∧ x0 < 18446744073709551616) (h1 : 0 ≤ x1 ∧ x1 < 18446744073709551616) (h3 : 0 ≤ x3 ∧ x3 < 18446744073709551616) : g_comptoirlaw25_KeeperReads x0 x1 x2 x3 = some true := by
  obtain ⟨a, ha, a1, a2⟩ : ∃ a : Nat, IntKind.u64.wrap (1 + Int.tmod x0 100) = (a : Int) ∧ 1 ≤ a ∧ a ≤ 100 := by
    refine ⟨(1 + x0 % 100).toNat, ?_, by omega, by omega⟩
    rw [tmod_eq h0.1, u64_wrap (by omega) (by omega)]; omega
  obtain ⟨b, hb, b1, b2⟩ : ∃ b : Nat, IntKind.u64.wrap (1 + Int.tmod x1 100) = (b : Int) ∧ 1 ≤ b ∧ b ≤ 100 := by
    refine ⟨(1 + x1 % 100).toNat, ?_, by omega, by omega⟩
    rw [tmod_eq h1.1, u64_wrap (by omega) (by omega)]; omega
  obtain ⟨v, rfl⟩ : ∃ v : Nat, x3 = (v : Int) := ⟨x3.toNat, by omega⟩
  have hv : v < 18446744073709551616 := by omega
  have wa : IntKind.u8.wrap (a : Int) = (a : Int) := by rw [u8_mod]; omega
  have wb : IntKind.u8.wrap (b : Int) = (b : Int) := by rw [u8_mod]; omega
  have pk1 : g_comptoirref21_Pack [.agg [.int .i64 1, .int .u64 1, .int .i64 0, .int .i64 0, .int .i64 0, .int .i64 0, .int .i64 0, .int .i64 0, .int .i64 0, .int .u64 0, .int .i64 0, .int .i64 0, .str [], .str [], .str [], .str [], .int .u64 0, .str [], .str [], .str [], .str [], .int .i64 0, .str [], .str [], .int .i64 0, .str [], .slice 2 (.agg [.int .i64, .slice 1 (.int .u8)]) [] .ro, .str [], .str [], .slice 2 (.agg [.str, .str]) [] .ro, .slice 2 (.agg [.int .i64, .slice 1 (.int .u8)]) [] .ro, .int .i64 0, .int .u64 0, .str [], .str [], .str [], .slice 2 (.agg [.str, .str]) [] .ro, .slice 2 (.agg [.int .i64, .slice 1 (.int .u8)]) [] .ro]] = some (bl (tB 1)) := refPack_t 1
  have pk2 : g_comptoirref21_Pack [.agg [.int .i64 1, .int .u64 2, .int .i64 0, .int .i64 0, .int .i64 0, .int .i64 0, .int .i64 0, .int .i64 0, .int .i64 0, .int .u64 0, .int .i64 0, .int .i64 0, .str [], .str [], .str [], .str [], .int .u64 0, .str [], .str [], .str [], .str [], .int .i64 0, .str [], .str [], .int .i64 0, .str [], .slice 2 (.agg [.int .i64, .slice 1 (.int .u8)]) [] .ro, .str [], .str [], .slice 2 (.agg [.str, .str]) [] .ro, .slice 2 (.agg [.int .i64, .slice 1 (.int .u8)]) [] .ro, .int .i64 0, .int .u64 0, .str [], .str [], .str [], .slice 2 (.agg [.str, .str]) [] .ro, .slice 2 (.agg [.int .i64, .slice 1 (.int .u8)]) [] .ro]] = some (bl (tB 2)) := refPack_t 2
  have lt : ∀ t, (bl (tB t)).length = 9 := fun t => by rw [length_bl]; simp
  have Ra : g_comptoirref21_Record ([.int .u8 0, .int .u8 0, .int .u8 0, .int .u8 0, .int .u8 0, .int .u8 0, .int .u8 0, .int .u8 (a : Int)] ++ bl (tB 1)) = some (bl (recsb [eB a 1])) := by
    rw [← bexb_small (by omega), refRecord_eq _ (by rw [List.length_append, length_bl, lt]; simp), recR_eB]
  have Rb : g_comptoirref21_Record ([.int .u8 0, .int .u8 0, .int .u8 0, .int .u8 0, .int .u8 0, .int .u8 0, .int .u8 0, .int .u8 (b : Int)] ++ bl (tB 2)) = some (bl (recsb [eB b 2])) := by
    rw [← bexb_small (by omega), refRecord_eq _ (by rw [List.length_append, length_bl, lt]; simp), recR_eB]
  have lo : ∀ n t, (bl (recsb [eB n t])).length = 25 := fun n t => by rw [length_bl]; simp [recsb]
  have lw : ∀ n t w, (bl (recsb [eB n t, tB w])).length = 42 := fun n t w => by rw [length_bl]; simp [recsb]
  have l8 : ∀ (x : Int) (t : Nat), ([AV.int .u8 0, .int .u8 0, .int .u8 0, .int .u8 0, .int .u8 0, .int .u8 0, .int .u8 0, .int .u8 x] ++ bl (tB t)).length * 2 < 70368744177664 := fun x t => by rw [List.length_append, lt]; simp only [List.length_cons, List.length_nil]; decide
  have k1 : ((1 : Nat) : Int) = (1 : Int) := rfl
  have k2 : ((2 : Nat) : Int) = (2 : Int) := rfl
  have u25 : IntKind.u64.wrap ((25 : Nat) : Int) = 25 := rfl
  have iz : isZ 25 = false := rfl
  have bu := u64_bounds x2
  obtain ⟨c, hc, hc2⟩ : ∃ c : Nat, IntKind.i64.wrap (Int.tmod (IntKind.u64.wrap x2) 25) = (c : Int) ∧ c < 25 := by
    refine ⟨(IntKind.u64.wrap x2 % 25).toNat, ?_, by omega⟩
    rw [tmod_eq bu.1, i64_wrap (by omega) (by omega)]; omega
  have c1 : (0 : Int) ≤ (c : Int) := by omega
  have c2 : (c : Int) ≤ ((25 : Nat) : Int) := by omega
  have lc : (bl ((recsb [eB b 2]).take c)).length ≤ 25 := by rw [length_bl, List.length_take]; omega
  have A0 := App0 (bl (recsb [eB a 1])) [] [] 0 (by rw [lo]; decide)
  have A1 := App1 (bl (recsb [eB b 2])) (bl (recsb [eB a 1])) [] 0 (by rw [lo]; decide)
  have A2 := App1 (bl ((recsb [eB b 2]).take c)) (bl (recsb [eB a 1])) [] 0 (by simp only [List.length_nil]; omega)
  have A3 := App1 (bl ((recsb [eB b 2]).take c)) [] [] 0 (by simp only [List.length_nil]; omega)
  rw [List.nil_append] at A0 A1 A2 A3
  have r1 := read_one a1 (by omega : a < 1000) (show 1 < 18446744073709551616 by decide)
  have r2 := read_one b1 (by omega : b < 1000) (show 2 < 18446744073709551616 by decide)
  have rc := read_none' (cut_none b 2 c hc2) (by rw [List.length_take]; omega)
  have O2 := Open_first (by rw [lo]; decide) (by omega) r1 rc (by omega) (by omega) (by rw [lo]; rfl)
  obtain ⟨rr, O3⟩ := Open_neither (by simp) (by omega) read_nil rc (by omega) (by omega)
  by_cases hab : b > a
  · have O1 := Open_second (by rw [lo]; decide) (by rw [lo]; decide) r1 r2 (by omega) (by omega) (by rw [lo]; rfl)
    have C := Commit_1 v 2 1 1 (b : Int) (bl (recsb [eB a 1])) (bl (recsb [eB b 2])) 0 (by rw [lo]; decide) (by rw [lo]; decide)
    rw [recsb_more] at C
    have C' : g_keeper_Keeper_Commit_p05p0000000 [.agg [.int .i64 1, .int .u64 (v : Int), .int .i64 0, .int .i64 0, .int .i64 0, .int .i64 0, .int .i64 0, .int .i64 0, .int .i64 0, .int .u64 0, .int .i64 0, .int .i64 0, .str [], .str [], .str [], .str [], .int .u64 0, .str [], .str [], .str [], .str [], .int .i64 0, .str [], .str [], .int .i64 0, .str [], .slice 2 (.agg [.int .i64, .slice 1 (.int .u8)]) [] .ro, .str [], .str [], .slice 2 (.agg [.str, .str]) [] .ro, .slice 2 (.agg [.int .i64, .slice 1 (.int .u8)]) [] .ro, .int .i64 0, .int .u64 0, .str [], .str [], .str [], .slice 2 (.agg [.str, .str]) [] .ro, .slice 2 (.agg [.int .i64, .slice 1 (.int .u8)]) [] .ro]] 2 1 1 [] [] (b : Int) 1 (bl (recsb [eB a 1])) (bl (recsb [eB b 2])) 0 false false = _ := C
    have r3 := read_two b1 (by omega : b < 1000) (show 2 < 18446744073709551616 by decide) hv
    have O4 := Open_second (by rw [lo]; decide) (by rw [lw]; decide) r1 r3 (by omega) (by omega) (by rw [lw]; rfl)
    have gt : (b : Int) > (a : Int) := by omega
    unfold g_comptoirlaw25_KeeperReads
    simp only [T_comptoirlaw25_KeeperReads, Tr.val_c, Tr.val_r, val_opt, awake25, ha, hb, wa, wb, pk1, pk2, Ra, Rb, lo, lt, u25, iz, hc, c1, c2, bl_take, List.drop_zero, Int.toNat_natCast, A0, A1, A2, A3, O1, O2, O3, O4, C', gt, State_eq, Option.bind_some, k1, k2, beq_self_eq_true, Bool.not_true, Bool.and_self, decide_true, decide_false, cond_true, cond_false, l8]
  · have O1 := Open_first (by rw [lo]; decide) (by rw [lo]; decide) r1 r2 (by omega) (by omega) (by rw [lo]; rfl)
    have C := Commit_0 v 1 1 1 (a : Int) (bl (recsb [eB a 1])) (bl (recsb [eB b 2])) 0 (by rw [lo]; decide) (by rw [lo]; decide)
    rw [recsb_more] at C
    have C' : g_keeper_Keeper_Commit_p05p0000000 [.agg [.int .i64 1, .int .u64 (v : Int), .int .i64 0, .int .i64 0, .int .i64 0, .int .i64 0, .int .i64 0, .int .i64 0, .int .i64 0, .int .u64 0, .int .i64 0, .int .i64 0, .str [], .str [], .str [], .str [], .int .u64 0, .str [], .str [], .str [], .str [], .int .i64 0, .str [], .str [], .int .i64 0, .str [], .slice 2 (.agg [.int .i64, .slice 1 (.int .u8)]) [] .ro, .str [], .str [], .slice 2 (.agg [.str, .str]) [] .ro, .slice 2 (.agg [.int .i64, .slice 1 (.int .u8)]) [] .ro, .int .i64 0, .int .u64 0, .str [], .str [], .str [], .slice 2 (.agg [.str, .str]) [] .ro, .slice 2 (.agg [.int .i64, .slice 1 (.int .u8)]) [] .ro]] 1 1 1 [] [] (a : Int) 0 (bl (recsb [eB a 1])) (bl (recsb [eB b 2])) 0 false false = _ := C
    have r3 := read_two a1 (by omega : a < 1000) (show 1 < 18446744073709551616 by decide) hv
    have O4 := Open_first (by rw [lw]; decide) (by rw [lo]; decide) r3 r2 (by omega) (by omega) (by rw [lw]; rfl)
    have gt : ¬ (b : Int) > (a : Int) := by omega
    unfold g_comptoirlaw25_KeeperReads
    simp only [T_comptoirlaw25_KeeperReads, Tr.val_c, Tr.val_r, val_opt, awake25, ha, hb, wa, wb, pk1, pk2, Ra, Rb, lo, lt, u25, iz, hc, c1, c2, bl_take, List.drop_zero, Int.toNat_natCast, A0, A1, A2, A3, O1, O2, O3, O4, C', gt, State_eq, Option.bind_some, k1, k2, beq_self_eq_true, Bool.not_true, Bool.and_self, decide_true, decide_false, cond_true, cond_false, l8]
end Go.Proofs.YtgjgfmeepgiddaaGreat
