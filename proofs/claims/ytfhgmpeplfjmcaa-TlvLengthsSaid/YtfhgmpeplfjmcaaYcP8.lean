/- What the printed functions come to, plainly. -/
import Derived.Test.YtfhgmpeplfjmcaaYcG8
import Derived.Test.YtfhgmpeplfjmcaaCxPl3
namespace Go.Proofs.Ytfhgmpeplfjmcaa
open Go.Cx Go.Cx.AV
set_option linter.unusedSimpArgs false
set_option linter.unusedVariables false

/- slices.Concat of two. -/
theorem Grow_eq (n : Int) (h0 : 0 ≤ n) (h : n < 35184372088832) : g_slices_Grow_byte_byte n = some [] := by
  unfold g_slices_Grow_byte_byte
  have w : IntKind.i64.wrap (n - 0) = n := by rw [Int.sub_zero]; exact i64_wrap (by omega) (by omega)
  have hn0 : ¬ (n < 0) := by omega
  have hT : (T_slices_Grow_byte_byte n).val = some (.inl (.inl ())) := by simp only [T_slices_Grow_byte_byte, Tr.val_c, Tr.val_r, hn0]; rfl
  rw [run_inl hT]
  rw [run_inl (s := .inr ())]
  · exact run_inr rfl
  · simp only [M_slices_Grow_byte_byte, Tr.val_c, Tr.val_r, w, List.length_replicate]
    by_cases hn : n > 0
    · have : n.toNat * 2 < 70368744177664 := by omega
      simp [hn, this]
    · simp [hn]

theorem Concat_eq (a b : List AV) (h : a.length + b.length < 17592186044416) : g_slices_Concat_byte_byte [.slice 1 (.int .u8) a .ro, .slice 1 (.int .u8) b .ro] = some (a ++ b) := by
  have e0 : getXs (List.getD [AV.slice 1 (.int .u8) a .ro, .slice 1 (.int .u8) b .ro] (Int.toNat 0) (.slice 1 (.int .u8) [] .ro)) = a := rfl
  have e1 : getXs (List.getD [AV.slice 1 (.int .u8) a .ro, .slice 1 (.int .u8) b .ro] (Int.toNat 1) (.slice 1 (.int .u8) [] .ro)) = b := rfl
  have w0 : IntKind.i64.wrap (0 + (a.length : Int)) = a.length := by rw [Int.zero_add]; exact i64_wrap (by omega) (by omega)
  have w1 : IntKind.i64.wrap ((a.length : Int) + b.length) = ((a.length + b.length : Nat) : Int) := by rw [i64_wrap (by omega) (by omega)]; omega
  have w2 : IntKind.i64.wrap (0 + 1) = 1 := rfl
  have w3 : IntKind.i64.wrap (1 + 1) = 2 := rfl
  have n0 : ¬ ((a.length : Int) < 0) := by omega
  have n1 : ¬ (((a.length + b.length : Nat) : Int) < 0) := by omega
  have l0 : a.length * 2 < 70368744177664 := by omega
  have l1 : (a.length + b.length) * 2 < 70368744177664 := by omega
  have gr := Grow_eq (((a.length + b.length : Nat) : Int)) (by omega) (by omega)
  unfold g_slices_Concat_byte_byte
  rw [run_inl (s := .inl (0, 0)) rfl]
  rw [run_inl (s := .inl ((a.length : Int), 1)) (by simp only [M_slices_Concat_byte_byte, Tr.val_c, Tr.val_r, e0, w0, w2, n0]; rfl)]
  rw [run_inl (s := .inl (((a.length + b.length : Nat) : Int), 2)) (by simp only [M_slices_Concat_byte_byte, Tr.val_c, Tr.val_r, e1, w1, w3, n1]; rfl)]
  rw [run_inl (s := .inr ([], 0)) (by simp only [M_slices_Concat_byte_byte, Tr.val_c, Tr.val_r, gr, opt_some]; rfl)]
  rw [run_inl (s := .inr (a, 1)) (by simp only [M_slices_Concat_byte_byte, Tr.val_c, Tr.val_r, e0, w2, List.nil_append, l0, decide_true, beq_self_eq_true]; rfl)]
  rw [run_inl (s := .inr (a ++ b, 2)) (by simp only [M_slices_Concat_byte_byte, Tr.val_c, Tr.val_r, e1, w3, List.length_append, l1, decide_true, beq_self_eq_true]; rfl)]
  exact run_inr (by simp only [M_slices_Concat_byte_byte, Tr.val_c, Tr.val_r, beq_self_eq_true]; rfl)

/- slices.Concat of three. -/
theorem Concat3_eq (a b c : List AV) (h : a.length + b.length + c.length < 17592186044416) : g_slices_Concat_byte_byte [.slice 1 (.int .u8) a .ro, .slice 1 (.int .u8) b .ro, .slice 1 (.int .u8) c .ro] = some (a ++ b ++ c) := by
  have e0 : getXs (List.getD [AV.slice 1 (.int .u8) a .ro, .slice 1 (.int .u8) b .ro, .slice 1 (.int .u8) c .ro] (Int.toNat 0) (.slice 1 (.int .u8) [] .ro)) = a := rfl
  have e1 : getXs (List.getD [AV.slice 1 (.int .u8) a .ro, .slice 1 (.int .u8) b .ro, .slice 1 (.int .u8) c .ro] (Int.toNat 1) (.slice 1 (.int .u8) [] .ro)) = b := rfl
  have e2 : getXs (List.getD [AV.slice 1 (.int .u8) a .ro, .slice 1 (.int .u8) b .ro, .slice 1 (.int .u8) c .ro] (Int.toNat 2) (.slice 1 (.int .u8) [] .ro)) = c := rfl
  have w0 : IntKind.i64.wrap (0 + (a.length : Int)) = a.length := by rw [Int.zero_add]; exact i64_wrap (by omega) (by omega)
  have w1 : IntKind.i64.wrap ((a.length : Int) + b.length) = ((a.length + b.length : Nat) : Int) := by rw [i64_wrap (by omega) (by omega)]; omega
  have w12 : IntKind.i64.wrap (((a.length + b.length : Nat) : Int) + c.length) = ((a.length + b.length + c.length : Nat) : Int) := by rw [i64_wrap (by omega) (by omega)]; omega
  have w2 : IntKind.i64.wrap (0 + 1) = 1 := rfl
  have w3 : IntKind.i64.wrap (1 + 1) = 2 := rfl
  have w4 : IntKind.i64.wrap (2 + 1) = 3 := rfl
  have n0 : ¬ ((a.length : Int) < 0) := by omega
  have n1 : ¬ (((a.length + b.length : Nat) : Int) < 0) := by omega
  have n2 : ¬ (((a.length + b.length + c.length : Nat) : Int) < 0) := by omega
  have l0 : a.length * 2 < 70368744177664 := by omega
  have l1 : (a.length + b.length) * 2 < 70368744177664 := by omega
  have l2 : (a.length + b.length + c.length) * 2 < 70368744177664 := by omega
  have gr := Grow_eq (((a.length + b.length + c.length : Nat) : Int)) (by omega) (by omega)
  unfold g_slices_Concat_byte_byte
  rw [run_inl (s := .inl (0, 0)) rfl]
  rw [run_inl (s := .inl ((a.length : Int), 1)) (by simp only [M_slices_Concat_byte_byte, Tr.val_c, Tr.val_r, e0, w0, w2, n0]; rfl)]
  rw [run_inl (s := .inl (((a.length + b.length : Nat) : Int), 2)) (by simp only [M_slices_Concat_byte_byte, Tr.val_c, Tr.val_r, e1, w1, w3, n1]; rfl)]
  rw [run_inl (s := .inl (((a.length + b.length + c.length : Nat) : Int), 3)) (by simp only [M_slices_Concat_byte_byte, Tr.val_c, Tr.val_r, e2, w12, w4, n2]; rfl)]
  rw [run_inl (s := .inr ([], 0)) (by simp only [M_slices_Concat_byte_byte, Tr.val_c, Tr.val_r, gr, opt_some]; rfl)]
  rw [run_inl (s := .inr (a, 1)) (by simp only [M_slices_Concat_byte_byte, Tr.val_c, Tr.val_r, e0, w2, List.nil_append, l0, decide_true, beq_self_eq_true]; rfl)]
  rw [run_inl (s := .inr (a ++ b, 2)) (by simp only [M_slices_Concat_byte_byte, Tr.val_c, Tr.val_r, e1, w3, List.length_append, l1, decide_true, beq_self_eq_true]; rfl)]
  rw [run_inl (s := .inr (a ++ b ++ c, 3)) (by simp only [M_slices_Concat_byte_byte, Tr.val_c, Tr.val_r, e2, w4, List.length_append, l2, decide_true, beq_self_eq_true]; rfl)]
  exact run_inr (by simp only [M_slices_Concat_byte_byte, Tr.val_c, Tr.val_r, beq_self_eq_true]; rfl)

/- the cursor -/
theorem shr8 (v : Int) : ∀ i : Nat, i < 8 → IntKind.u8.wrap (shrA .u64 v (8 * (i : Int))) = v / 256 ^ i % 256
  | 0, _ => by rw [u8_mod]; show v.fdiv 1 % 256 = _; rw [Int.fdiv_eq_ediv_of_nonneg _ (by decide)]; rfl
  | 1, _ => by rw [u8_mod]; show v.fdiv 256 % 256 = _; rw [Int.fdiv_eq_ediv_of_nonneg _ (by decide)]; rfl
  | 2, _ => by rw [u8_mod]; show v.fdiv 65536 % 256 = _; rw [Int.fdiv_eq_ediv_of_nonneg _ (by decide)]; rfl
  | 3, _ => by rw [u8_mod]; show v.fdiv 16777216 % 256 = _; rw [Int.fdiv_eq_ediv_of_nonneg _ (by decide)]; rfl
  | 4, _ => by rw [u8_mod]; show v.fdiv 4294967296 % 256 = _; rw [Int.fdiv_eq_ediv_of_nonneg _ (by decide)]; rfl
  | 5, _ => by rw [u8_mod]; show v.fdiv 1099511627776 % 256 = _; rw [Int.fdiv_eq_ediv_of_nonneg _ (by decide)]; rfl
  | 6, _ => by rw [u8_mod]; show v.fdiv 281474976710656 % 256 = _; rw [Int.fdiv_eq_ediv_of_nonneg _ (by decide)]; rfl
  | 7, _ => by rw [u8_mod]; show v.fdiv 72057594037927936 % 256 = _; rw [Int.fdiv_eq_ediv_of_nonneg _ (by decide)]; rfl
  | n + 8, h => by omega

/-- The lowest bytes of a number, the highest first. -/
def bex (v : Int) : Nat → List AV
  | 0 => []
  | i + 1 => .int .u8 (v / 256 ^ i % 256) :: bex v i
@[simp] theorem length_bex (v : Int) (i : Nat) : (bex v i).length = i := by induction i <;> simp [bex, *]

theorem set_last (r : List AV) (x y : AV) (j : Nat) : (List.replicate (j + 1) x ++ r).set j y = List.replicate j x ++ y :: r := by
  induction j with
  | zero => rfl
  | succ j ih => rw [List.replicate_succ (n := j + 1), List.cons_append, List.set_cons_succ, ih]; rfl

theorem Put_eq (x0 : List AV) (v n : Int) (m : Nat) (hx : x0.length < 8796093022208) (hm : m ≤ 8) (hn : (if 8 < (if 0 > n then 0 else n) then 8 else if 0 > n then 0 else n) = (m : Int)) : g_cursor_Put x0 v n = some (x0 ++ bex v m) := by
  unfold g_cursor_Put
  have hr : m * 2 < 70368744177664 := by omega
  have h0 : (0 : Int) ≤ m := by omega
  rw [run_inl (s := ((m : Int), (m : Int), List.replicate m (.int .u8 0), 0))]
  rotate_left
  · simp only [T_cursor_Put, Tr.val_c, Tr.val_r, hn, h0, Int.toNat_natCast, List.length_replicate, hr, decide_true, cond_true, beq_self_eq_true]
  have key : ∀ k i, i + k = m → run (M_cursor_Put x0 v n) (M_cursor_Put x0 v n ((m : Int), (m : Int), List.replicate k (.int .u8 0) ++ bex v i, (i : Int))) = some (x0 ++ bex v m) := by
    intro k
    induction k with
    | zero =>
      intro i hi
      have : i = m := by omega
      subst this
      have hlt : ¬ ((i : Int) < i) := by omega
      have hc := Concat_eq x0 (bex v i) (by simp; omega)
      exact run_inr (by simp only [M_cursor_Put, Tr.val_c, Tr.val_r, hlt, List.replicate_zero, List.nil_append, val_opt, hc, Option.bind_some, decide_false, cond_false, beq_self_eq_true, cond_true])
    | succ k ih =>
      intro i hi
      have q1 : (i : Int) < m := by omega
      have w1 : IntKind.i64.wrap (8 * (i : Int)) = 8 * i := i64_wrap (by omega) (by omega)
      have w2 : IntKind.i64.wrap ((m : Int) - 1) = m - 1 := i64_wrap (by omega) (by omega)
      have w3 : IntKind.i64.wrap ((m : Int) - 1 - i) = (k : Int) := by rw [i64_wrap (by omega) (by omega)]; omega
      have w4 : IntKind.i64.wrap ((i : Int) + 1) = ((i + 1 : Nat) : Int) := by rw [i64_wrap (by omega) (by omega)]; omega
      have q2 : (0 : Int) ≤ 8 * i := by omega
      have q3 : (0 : Int) ≤ k := by omega
      have hl : (List.replicate (k + 1) (AV.int .u8 0) ++ bex v i).length = m := by simp; omega
      have hl2 : (List.replicate k (AV.int .u8 0) ++ AV.int .u8 (v / 256 ^ i % 256) :: bex v i).length = m := by simp; omega
      have q4 : (k : Int) < m := by omega
      have q5 : k < m := by omega
      rw [run_inl (s := ((m : Int), (m : Int), List.replicate k (.int .u8 0) ++ bex v (i + 1), ((i + 1 : Nat) : Int)))]
      · exact ih (i + 1) (by omega)
      · simp only [M_cursor_Put, Tr.val_c, Tr.val_r, q1, w1, w2, w3, w4, q2, q3, q4, q5, hl, Int.toNat_natCast, shr8 v i (by omega), decide_true, cond_true, beq_self_eq_true, set_last, hl2]
        rfl
  have := key m 0 (by omega)
  simpa [bex] using this

theorem take_eq (n : Int) (b : List AV) (k : Nat) (hk : k ≤ b.length) (hb : b.length < 8796093022208) :
    g_cursor_Cursor_take_p0500 n b k = some (if n < 0 then ([], 1, b, (k : Int)) else if n > b.length - k then ([], 3, b, (k : Int)) else ((b.drop k).take n.toNat, 0, b, (k : Int) + n)) := by
  unfold g_cursor_Cursor_take_p0500
  have w0 : IntKind.i64.wrap ((b.length : Int) - k) = b.length - k := i64_wrap (by omega) (by omega)
  by_cases h1 : n < 0
  · simp only [T_cursor_Cursor_take_p0500, Tr.val_c, Tr.val_r, h1, decide_true, cond_true, if_true]
  · by_cases h2 : n > (b.length : Int) - k
    · simp only [T_cursor_Cursor_take_p0500, Tr.val_c, Tr.val_r, h1, h2, w0, decide_true, decide_false, cond_true, cond_false, if_true, if_false]
    · have w1 : IntKind.i64.wrap ((k : Int) + n) = k + n := i64_wrap (by omega) (by omega)
      have w2 : IntKind.i64.wrap ((k : Int) + n - n) = k := by rw [i64_wrap (by omega) (by omega)]; omega
      have q1 : (0 : Int) ≤ k + n := by omega
      have q2 : (k : Int) + n ≤ b.length := by omega
      have q3 : (0 : Int) ≤ k := by omega
      have q4 : (k : Int) ≤ k + n := by omega
      have hd : ((b.take ((k : Int) + n).toNat).drop (k : Int).toNat) = (b.drop k).take n.toNat := by
        rw [List.drop_take]; congr 1; omega
      simp only [T_cursor_Cursor_take_p0500, Tr.val_c, Tr.val_r, h1, h2, w0, w1, w2, q1, q2, q3, q4, hd, decide_true, decide_false, cond_true, cond_false, if_false]

theorem read_eq (n : Int) (b : List AV) (k : Int) : g_cursor_read_ftake_0p500 n b k = g_cursor_Cursor_take_p0500 n b k := by
  conv => lhs; unfold g_cursor_read_ftake_0p500
  simp only [T_cursor_read_ftake_0p500, Tr.val_c, Tr.val_r, val_opt]
  cases g_cursor_Cursor_take_p0500 n b k <;> rfl

/-- The number that bytes are. -/
def numOf (l : List AV) : Int := l.foldl (fun a x => bitsA .or .u64 (shlA .u64 a 8) (IntKind.u64.wrap (getI x))) 0

theorem Number_eq (n : Int) (b : List AV) (k : Nat) (hk : k ≤ b.length) (hb : b.length < 8796093022208) :
    g_cursor_Cursor_Number_p0500 n b k = some (if n < 1 then (0, 1, b, (k : Int)) else if n > 8 then (0, 1, b, (k : Int)) else if n > b.length - k then (0, 3, b, (k : Int)) else (numOf ((b.drop k).take n.toNat), 0, b, (k : Int) + n)) := by
  unfold g_cursor_Cursor_Number_p0500
  by_cases h1 : n < 1
  · rw [run_inr (x := (0, 1, b, (k : Int))) (by simp only [T_cursor_Cursor_Number_p0500, Tr.val_c, Tr.val_r, h1, decide_true, cond_true])]
    simp [h1]
  by_cases h2 : n > 8
  · rw [run_inr (x := (0, 1, b, (k : Int))) (by simp only [T_cursor_Cursor_Number_p0500, Tr.val_c, Tr.val_r, h1, h2, decide_true, decide_false, cond_true, cond_false])]
    simp [h1, h2]
  have loop : ∀ (e : Int) (l : List AV) (b2 : List AV) (at' : Int), l.length < 8796093022208 → ∀ m i v, i + m = l.length → run (M_cursor_Cursor_Number_p0500 n b k) (M_cursor_Cursor_Number_p0500 n b k (e, l, (l.length : Int), b2, at', v, (i : Int))) =
      some ((l.drop i).foldl (fun a x => bitsA .or .u64 (shlA .u64 a 8) (IntKind.u64.wrap (getI x))) v, e, b2, at') := by
    intro e l b2 at' hl m
    induction m with
    | zero =>
      intro i v hi
      have hlt : ¬ ((i : Int) < l.length) := by omega
      rw [List.drop_of_length_le (by omega)]
      exact run_inr (by simp only [M_cursor_Cursor_Number_p0500, Tr.val_c, Tr.val_r, hlt, decide_false, cond_false]; rfl)
    | succ m ih =>
      intro i v hi
      have q1 : (i : Int) < l.length := by omega
      have q2 : (0 : Int) ≤ i := by omega
      have q3 : i < l.length := by omega
      have w : IntKind.i64.wrap ((i : Int) + 1) = ((i + 1 : Nat) : Int) := by rw [i64_wrap (by omega) (by omega)]; omega
      have hg : l.getD i (.int .u8 0) = l[i] := by simp [List.getD_eq_getElem?_getD, q3]
      rw [run_inl (s := (e, l, (l.length : Int), b2, at', bitsA .or .u64 (shlA .u64 v 8) (IntKind.u64.wrap (getI l[i])), ((i + 1 : Nat) : Int))) (by simp only [M_cursor_Cursor_Number_p0500, Tr.val_c, Tr.val_r, q1, q2, w, hg, Int.toNat_natCast, decide_true, cond_true]), ih (i + 1) _ (by omega), List.drop_eq_getElem_cons q3, List.foldl_cons]
  have ht := take_eq n b k hk hb
  have h0 : ¬ n < 0 := by omega
  by_cases h3 : n > (b.length : Int) - k
  · rw [run_inl (s := (3, [], ((([] : List AV).length : Nat) : Int), b, (k : Int), 0, ((0 : Nat) : Int)))]
    · rw [loop 3 [] b k (by simp) 0 0 0 rfl]
      simp [h1, h2, h3]
    · simp only [T_cursor_Cursor_Number_p0500, Tr.val_c, Tr.val_r, val_opt, h1, h2, h0, h3, read_eq, ht, Option.bind_some, if_true, if_false, decide_false, cond_false]
      rfl
  · rw [run_inl (s := (0, (b.drop k).take n.toNat, ((((b.drop k).take n.toNat).length : Nat) : Int), b, (k : Int) + n, 0, ((0 : Nat) : Int)))]
    · rw [loop 0 _ b _ (by simp only [List.length_take, List.length_drop]; omega) ((b.drop k).take n.toNat).length 0 0 (by omega)]
      simp only [h1, h2, h3, if_false, List.drop_zero, numOf]
    · simp only [T_cursor_Cursor_Number_p0500, Tr.val_c, Tr.val_r, val_opt, h1, h2, h0, h3, read_eq, ht, Option.bind_some, if_true, if_false, decide_false, cond_false]
      rfl

theorem New_eq (b : List AV) (hb : b.length < 8796093022208) : g_cursor_New b = some (b, 0) := by
  have : b.length * 2 < 70368744177664 := by omega
  unfold g_cursor_New
  simp only [T_cursor_New, Tr.val_c, Tr.val_r, this, decide_true, cond_true]


theorem Take_eq (n : Int) (b : List AV) (k : Nat) (hk : k ≤ b.length) (hb : b.length < 8796093022208) :
    g_cursor_Cursor_Take_p0500 n b k = some (if n < 0 then ([], 1, b, (k : Int)) else if n > b.length - k then ([], 3, b, (k : Int)) else ((b.drop k).take n.toNat, 0, b, (k : Int) + n)) := by
  have h := take_eq n b k hk hb
  have hl : ∀ m : Nat, ((b.drop k).take m).length * 2 < 70368744177664 := by
    intro m; simp only [List.length_take, List.length_drop]; omega
  unfold g_cursor_Cursor_Take_p0500
  simp only [T_cursor_Cursor_Take_p0500, Tr.val_c, Tr.val_r, val_opt, read_eq, h, Option.bind_some]
  by_cases h1 : n < 0
  · simp [h1]
  · by_cases h2 : n > (b.length : Int) - k
    · simp [h1, h2]
    · simp only [h1, h2, if_false, hl, decide_true, cond_true]


theorem foldl_bex (v : Nat) : ∀ (i a : Nat), i ≤ 8 → a < 256 ^ (8 - i) → (bex (v : Int) i).foldl (fun a x => bitsA .or .u64 (shlA .u64 a 8) (IntKind.u64.wrap (getI x))) (a : Int) = ((a * 256 ^ i + v % 256 ^ i : Nat) : Int)
  | 0, a, _, _ => by
    show (a : Int) = _
    rw [Nat.pow_zero, Nat.mod_one, Nat.mul_one, Nat.add_zero]
  | i + 1, a, hi, ha => by
    have e8 : 8 - i = (8 - (i + 1)) + 1 := by omega
    have hp : 256 ^ (8 - i) = 256 * 256 ^ (8 - (i + 1)) := by rw [e8, Nat.pow_succ, Nat.mul_comm]
    have h7 : 256 ^ (8 - (i + 1)) ≤ 256 ^ 7 := Nat.pow_le_pow_right (by omega) (by omega)
    have hy : v / 256 ^ i % 256 < 256 := Nat.mod_lt _ (by omega)
    have hb := byte_behind (a := a) (y := v / 256 ^ i % 256) (by omega) hy
    have hc : ((v : Int) / 256 ^ i % 256) = ((v / 256 ^ i % 256 : Nat) : Int) := by rw [Int.natCast_emod, Int.natCast_ediv, Int.natCast_pow]; rfl
    rw [bex, List.foldl_cons, getI_int, hc, hb, foldl_bex v i _ (by omega) (by rw [hp]; omega)]
    congr 1
    rw [Nat.pow_succ, Nat.mod_mul, Nat.add_mul, Nat.mul_assoc, Nat.mul_comm 256 (256 ^ i), Nat.mul_comm (v / 256 ^ i % 256)]
    omega

theorem numOf_bex (v n : Nat) (hn : n ≤ 8) : numOf (bex (v : Int) n) = ((v % 256 ^ n : Nat) : Int) := by
  have := foldl_bex v n 0 hn (Nat.pow_pos (by omega))
  unfold numOf
  rw [Nat.zero_mul, Nat.zero_add] at this
  exact this

/- tags -/
@[simp] theorem length_bl (b : List UInt8) : (bl b).length = b.length := by simp [bl]
def tg (t : Int) (d : List AV) : AV := .agg [.int .i64 t, .slice 1 (.int .u8) d .ro]
@[simp] theorem tg_tag (t : Int) (d : List AV) : getI (getF (tg t d) 0) = t := rfl
@[simp] theorem tg_data (t : Int) (d : List AV) : getXs (getF (tg t d) 1) = d := rfl
def knownA (l : List AV) (t : Int) : Bool := l.any fun x => getI (getF x 0) == t
def AG : AV := .agg [.int .i64 0, .slice 1 (.int .u8) [] .ro]

/-- So many bytes a tag has; 0: it is none. -/
def rightN (t : Int) : Int :=
  if 0 < t ∧ t < 255 ∧ (bitsA .and .i64 t 31 != 31) = true then 1
  else if 255 < t ∧ shrA .i64 t 8 < 255 ∧ (bitsA .and .i64 (shrA .i64 t 8) 31 == 31) = true ∧ bitsA .and .i64 t 255 < 128 then 2 else 0

theorem more_eq (x : Int) : g_tlv_more x = some (bif bitsA .and .i64 x 31 == 31 then x != 255 else false) := by
  unfold g_tlv_more
  simp only [T_tlv_more, Tr.val_c, Tr.val_r]
  cases (bitsA .and .i64 x 31 == 31) <;> rfl

theorem right_eq (t : Int) : g_tlv_right t = some (rightN t != 0) := by
  unfold g_tlv_right rightN
  simp only [T_tlv_right, Tr.val_c, Tr.val_r, val_opt, more_eq, Option.bind_some]
  by_cases h1 : t > 0
  · by_cases h2 : t < 255
    · have h3 : ¬ (t > 255) := by omega
      cases h4 : (bitsA .and .i64 t 31 != 31) with
      | true => simp [h1, h2]
      | false => simp [h1, h2]; omega
    · by_cases h3 : t > 255
      · by_cases h5 : shrA .i64 t 8 < 255
        · have h6 : (shrA .i64 t 8 != 255) = true := by rw [bne_iff_ne]; omega
          cases h7 : (bitsA .and .i64 (shrA .i64 t 8) 31 == 31) with
          | true => by_cases h8 : bitsA .and .i64 t 255 < 128 <;> simp [h1, h2, h3, h5, h6, h8]
          | false => simp [h1, h2, h3, h5]
        · simp [h1, h2, h3, h5]
      · have : t = 255 := by omega
        subst this
        rfl
  · have h3 : ¬ (t > 255) := by omega
    by_cases h5 : shrA .i64 t 8 < 255 <;> simp [h1, h3, h5]

theorem index_eq (l : List AV) (t : Int) (hl : l.length < 8796093022208) : ∃ r : Int, g_slices_IndexFunc_api_Tag_api_Tag_0fthere1_p50 l t = some (r, t) ∧ decide (r ≥ 0) = knownA l t := by
  unfold g_slices_IndexFunc_api_Tag_api_Tag_0fthere1_p50
  have key : ∀ k i : Nat, i + k = l.length → ∃ r : Int, run (M_slices_IndexFunc_api_Tag_api_Tag_0fthere1_p50 l t) (M_slices_IndexFunc_api_Tag_api_Tag_0fthere1_p50 l t (i : Int)) = some (r, t) ∧ decide (r ≥ 0) = knownA (l.drop i) t := by
    intro k
    induction k with
    | zero =>
      intro i hi
      have q : ¬ ((i : Int) < l.length) := by omega
      refine ⟨-1, run_inr (by simp only [M_slices_IndexFunc_api_Tag_api_Tag_0fthere1_p50, Tr.val_c, Tr.val_r, q, decide_false, cond_false]), ?_⟩
      rw [List.drop_of_length_le (by omega)]; rfl
    | succ k ih =>
      intro i hi
      have q : (i : Int) < l.length := by omega
      have q0 : (0 : Int) ≤ i := by omega
      have q3 : i < l.length := by omega
      have w : IntKind.i64.wrap ((i : Int) + 1) = ((i + 1 : Nat) : Int) := by rw [i64_wrap (by omega) (by omega)]; omega
      have hg : l.getD i (.agg [.int .i64 0, .slice 1 (.int .u8) [] .ro]) = l[i] := by simp [List.getD_eq_getElem?_getD, q3]
      have hd : knownA (l.drop i) t = (getI (getF l[i] 0) == t || knownA (l.drop (i + 1)) t) := by rw [List.drop_eq_getElem_cons q3]; rfl
      cases hx : (getI (getF l[i] 0) == t) with
      | true =>
        refine ⟨(i : Int), run_inr (by simp only [M_slices_IndexFunc_api_Tag_api_Tag_0fthere1_p50, Tr.val_c, Tr.val_r, q, q0, Int.toNat_natCast, hg, hx, decide_true, cond_true]), ?_⟩
        rw [hd, hx, Bool.true_or]; simp
      | false =>
        obtain ⟨r, h1, h2⟩ := ih (i + 1) (by omega)
        refine ⟨r, ?_, by rw [hd, hx, Bool.false_or]; exact h2⟩
        rw [run_inl (s := ((i + 1 : Nat) : Int)) (by simp only [M_slices_IndexFunc_api_Tag_api_Tag_0fthere1_p50, Tr.val_c, Tr.val_r, q, q0, Int.toNat_natCast, hg, hx, w, decide_true, cond_true, cond_false])]
        exact h1
  obtain ⟨r, h1, h2⟩ := key l.length 0 (by omega)
  refine ⟨r, ?_, by simpa using h2⟩
  rw [run_inl (s := ((0 : Nat) : Int)) rfl]
  exact h1

theorem there_eq (l : List AV) (t : Int) (hl : l.length < 8796093022208) : g_tlv_there l t = some (knownA l t) := by
  obtain ⟨r, h1, h2⟩ := index_eq l t hl
  have c : g_slices_ContainsFunc_api_Tag_api_Tag_0fthere1_p50 l t = some (knownA l t, t) := by
    unfold g_slices_ContainsFunc_api_Tag_api_Tag_0fthere1_p50
    simp only [T_slices_ContainsFunc_api_Tag_api_Tag_0fthere1_p50, Tr.val_r, val_opt, h1, h2, Option.bind_some]
  unfold g_tlv_there
  simp only [T_tlv_there, Tr.val_r, val_opt, c, Option.bind_some]

theorem num1 (b : List UInt8) (k : Nat) (hk : k ≤ b.length) (hb : b.length < 1000000) :
    g_cursor_Cursor_Number_p0500 1 (bl b) (k : Int) = some (if k < b.length then (((b.getD k 0).toNat : Int), 0, bl b, ((k + 1 : Nat) : Int)) else (0, 3, bl b, (k : Int))) := by
  have n := Number_eq 1 (bl b) k (by rw [length_bl]; exact hk) (by rw [length_bl]; omega)
  rw [if_neg (by decide), if_neg (by decide)] at n
  rw [n]
  by_cases h : k < b.length
  · rw [if_pos h, if_neg (by rw [length_bl]; omega)]
    have e : ((bl b).drop k).take (1 : Int).toNat = [.int .u8 ((b.getD k 0).toNat : Int)] := by
      have q3 : k < (bl b).length := by rw [length_bl]; exact h
      rw [List.drop_eq_getElem_cons q3]
      show [(bl b)[k]] = _
      have := bl_getD (b := b) (i := k)
      rw [List.getD_eq_getElem?_getD, List.getElem?_eq_getElem q3, Option.getD_some] at this
      rw [this]
    have e1 := byte_behind (a := 0) (y := (b.getD k 0).toNat) (by omega) (b.getD k 0).toNat_lt
    have e2 : numOf [.int .u8 ((b.getD k 0).toNat : Int)] = (((b.getD k 0).toNat : Nat) : Int) := by
      rw [Nat.zero_mul, Nat.zero_add] at e1
      exact e1
    rw [e, e2]
    rfl
  · rw [if_neg h, if_pos (by rw [length_bl]; omega)]

def moreB (f : Nat) : Bool := bif bitsA .and .i64 (f : Int) 31 == 31 then (f : Int) != 255 else false

/-- A tag that is read. -/
def tagV (b : List UInt8) (k : Nat) : Int × Nat := bif moreB (b.getD k 0).toNat then (bitsA .or .i64 (shlA .i64 ((b.getD k 0).toNat : Int) 8) ((b.getD (k + 1) 0).toNat : Int), k + 2) else (((b.getD k 0).toNat : Int), k + 1)
def tagR (b : List UInt8) (k : Nat) (l : List AV) : Int × Int × Nat :=
  if b.length ≤ k then (0, 3, k) else if moreB (b.getD k 0).toNat = true ∧ b.length ≤ k + 1 then (0, 3, k + 1)
  else if rightN (tagV b k).1 = 0 ∨ knownA l (tagV b k).1 = true then (0, 18, (tagV b k).2) else ((tagV b k).1, 0, (tagV b k).2)
/-- A length that is read. -/
def sizeR (b : List UInt8) (k : Nat) : Nat × Int × Nat :=
  if b.length ≤ k then (0, 3, k) else if (b.getD k 0).toNat < 128 then ((b.getD k 0).toNat, 0, k + 1) else if (b.getD k 0).toNat ≠ 129 then (0, 17, k + 1)
  else if b.length ≤ k + 1 then (0, 3, k + 1) else if (b.getD (k + 1) 0).toNat < 128 then (0, 17, k + 2) else ((b.getD (k + 1) 0).toNat, 0, k + 2)
/-- A tag with its bytes that is read. -/
def stepR (b : List UInt8) (k : Nat) (l : List AV) : Int × Nat × List AV :=
  if 20 ≤ l.length then (4, k, l) else if (tagR b k l).2.1 ≠ 0 then ((tagR b k l).2.1, (tagR b k l).2.2, l)
  else if (sizeR b (tagR b k l).2.2).2.1 ≠ 0 then ((sizeR b (tagR b k l).2.2).2.1, (sizeR b (tagR b k l).2.2).2.2, l)
  else if b.length < (sizeR b (tagR b k l).2.2).2.2 + (sizeR b (tagR b k l).2.2).1 then (3, (sizeR b (tagR b k l).2.2).2.2, l)
  else (0, (sizeR b (tagR b k l).2.2).2.2 + (sizeR b (tagR b k l).2.2).1, l ++ [tg (tagR b k l).1 (bl ((b.drop (sizeR b (tagR b k l).2.2).2.2).take (sizeR b (tagR b k l).2.2).1))])
def parseR (b : List UInt8) : Nat → Nat → List AV → List AV × Int
  | 0, _, l => (l, 0)
  | m + 1, k, l => if b.length ≤ k then (l, 0) else if (stepR b k l).1 ≠ 0 then ([], (stepR b k l).1) else parseR b m (stepR b k l).2.1 (stepR b k l).2.2

theorem byte64 (c : UInt8) : IntKind.i64.wrap (c.toNat : Int) = (c.toNat : Int) := by
  have := c.toNat_lt; exact i64_wrap (by omega) (by omega)

theorem tagV_le (b : List UInt8) (k : Nat) : k + 1 ≤ (tagV b k).2 ∧ (tagV b k).2 ≤ k + 2 := by
  unfold tagV; cases moreB (b.getD k 0).toNat <;> simp

theorem tag_eq (b : List UInt8) (k : Nat) (l : List AV) (hk : k ≤ b.length) (hb : b.length < 1000000) (hl : l.length < 2000000) :
    g_tlv_walk_tag_p5p0 (bl b) (k : Int) l = some ((tagR b k l).1, (tagR b k l).2.1, bl b, ((tagR b k l).2.2 : Int), l) := by
  have n := num1 b k hk hb
  unfold g_tlv_walk_tag_p5p0 tagR
  by_cases h : k < b.length
  · rw [if_pos h] at n
    rw [if_neg (by omega)]
    have m := more_eq ((b.getD k 0).toNat : Int)
    have hm : moreB (b.getD k 0).toNat = (bif bitsA .and .i64 ((b.getD k 0).toNat : Int) 31 == 31 then ((b.getD k 0).toNat : Int) != 255 else false) := rfl
    rw [← hm] at m
    cases hmb : moreB (b.getD k 0).toNat with
    | true =>
      rw [hmb] at m
      have n2 := num1 b (k + 1) (by omega) hb
      by_cases h2 : k + 1 < b.length
      · rw [if_pos h2] at n2
        rw [if_neg (by omega)]
        have r := right_eq (tagV b k).1
        have t := there_eq l (tagV b k).1 (by omega)
        have hv : tagV b k = (bitsA .or .i64 (shlA .i64 ((b.getD k 0).toNat : Int) 8) ((b.getD (k + 1) 0).toNat : Int), k + 2) := by unfold tagV; rw [hmb]; rfl
        rw [hv] at r t ⊢
        by_cases hr : rightN (bitsA .or .i64 (shlA .i64 ((b.getD k 0).toNat : Int) 8) ((b.getD (k + 1) 0).toNat : Int)) = 0
        · rw [if_pos (.inl hr)]
          have hr' : (rightN (bitsA .or .i64 (shlA .i64 ((b.getD k 0).toNat : Int) 8) ((b.getD (k + 1) 0).toNat : Int)) != 0) = false := by rw [hr]; rfl
          simp only [T_tlv_walk_tag_p5p0, Tr.val_c, Tr.val_r, val_opt, n, n2, m, r, hr', byte64, Option.bind_some, bne_self_eq_false, beq_self_eq_true, Bool.not_false, cond_true, cond_false]
        · have hr' : (rightN (bitsA .or .i64 (shlA .i64 ((b.getD k 0).toNat : Int) 8) ((b.getD (k + 1) 0).toNat : Int)) != 0) = true := by rw [bne_iff_ne]; exact hr
          cases hkn : knownA l (bitsA .or .i64 (shlA .i64 ((b.getD k 0).toNat : Int) 8) ((b.getD (k + 1) 0).toNat : Int)) with
          | true =>
            rw [if_pos (.inr rfl)]
            rw [hkn] at t
            simp only [T_tlv_walk_tag_p5p0, Tr.val_c, Tr.val_r, val_opt, n, n2, m, r, hr', t, byte64, Option.bind_some, bne_self_eq_false, beq_self_eq_true, Bool.not_true, cond_true, cond_false]
          | false =>
            rw [if_neg (by rintro (h | h); exact hr h; exact absurd h (by decide))]
            rw [hkn] at t
            simp only [T_tlv_walk_tag_p5p0, Tr.val_c, Tr.val_r, val_opt, n, n2, m, r, hr', t, byte64, Option.bind_some, bne_self_eq_false, beq_self_eq_true, Bool.not_true, cond_true, cond_false]
      · rw [if_neg h2] at n2
        rw [if_pos ⟨rfl, by omega⟩]
        have e3 : ((3 : Int) != 0) = true := rfl
        simp only [T_tlv_walk_tag_p5p0, Tr.val_c, Tr.val_r, val_opt, n, n2, m, e3, byte64, Option.bind_some, bne_self_eq_false, beq_self_eq_true, cond_true, cond_false]
    | false =>
      rw [hmb] at m
      rw [if_neg (fun h => absurd h.1 (by decide))]
      have r := right_eq ((b.getD k 0).toNat : Int)
      have t := there_eq l ((b.getD k 0).toNat : Int) (by omega)
      have hv : tagV b k = (((b.getD k 0).toNat : Int), k + 1) := by unfold tagV; rw [hmb]; rfl
      rw [hv]
      by_cases hr : rightN ((b.getD k 0).toNat : Int) = 0
      · rw [if_pos (.inl hr)]
        have hr' : (rightN ((b.getD k 0).toNat : Int) != 0) = false := by rw [hr]; rfl
        simp only [T_tlv_walk_tag_p5p0, Tr.val_c, Tr.val_r, val_opt, n, m, r, hr', byte64, Option.bind_some, bne_self_eq_false, beq_self_eq_true, Bool.not_false, cond_true, cond_false]
      · have hr' : (rightN ((b.getD k 0).toNat : Int) != 0) = true := by rw [bne_iff_ne]; exact hr
        cases hkn : knownA l ((b.getD k 0).toNat : Int) with
        | true =>
          rw [if_pos (.inr rfl)]
          rw [hkn] at t
          simp only [T_tlv_walk_tag_p5p0, Tr.val_c, Tr.val_r, val_opt, n, m, r, hr', t, byte64, Option.bind_some, bne_self_eq_false, beq_self_eq_true, Bool.not_true, cond_true, cond_false]
        | false =>
          rw [if_neg (by rintro (h | h); exact hr h; exact absurd h (by decide))]
          rw [hkn] at t
          simp only [T_tlv_walk_tag_p5p0, Tr.val_c, Tr.val_r, val_opt, n, m, r, hr', t, byte64, Option.bind_some, bne_self_eq_false, beq_self_eq_true, Bool.not_true, cond_true, cond_false]
  · rw [if_neg h] at n
    rw [if_pos (by omega)]
    have e3 : ((3 : Int) != 0) = true := rfl
    simp only [T_tlv_walk_tag_p5p0, Tr.val_c, Tr.val_r, val_opt, n, e3, Option.bind_some, beq_self_eq_true, cond_true]

theorem size_eq (b : List UInt8) (k : Nat) (l : List AV) (hk : k ≤ b.length) (hb : b.length < 1000000) :
    g_tlv_walk_size_p5p0 (bl b) (k : Int) l = some (((sizeR b k).1 : Int), (sizeR b k).2.1, bl b, ((sizeR b k).2.2 : Int), l) := by
  have n := num1 b k hk hb
  have e3 : ((3 : Int) != 0) = true := rfl
  unfold g_tlv_walk_size_p5p0 sizeR
  by_cases h : k < b.length
  · rw [if_pos h] at n
    rw [if_neg (by omega)]
    by_cases h1 : (b.getD k 0).toNat < 128
    · have q : ((b.getD k 0).toNat : Int) < 128 := by omega
      rw [if_pos h1]
      simp only [T_tlv_walk_size_p5p0, Tr.val_c, Tr.val_r, val_opt, n, q, byte64, Option.bind_some, bne_self_eq_false, beq_self_eq_true, decide_true, cond_true, cond_false]
    · have q : ¬ ((b.getD k 0).toNat : Int) < 128 := by omega
      rw [if_neg h1]
      by_cases h2 : (b.getD k 0).toNat = 129
      · have q2 : (((b.getD k 0).toNat : Int) != 129) = false := by rw [h2]; rfl
        rw [if_neg (by omega)]
        have n2 := num1 b (k + 1) (by omega) hb
        by_cases h3 : k + 1 < b.length
        · rw [if_pos h3] at n2
          rw [if_neg (by omega)]
          by_cases h4 : (b.getD (k + 1) 0).toNat < 128
          · have q4 : ((b.getD (k + 1) 0).toNat : Int) < 128 := by omega
            rw [if_pos h4]
            simp only [T_tlv_walk_size_p5p0, Tr.val_c, Tr.val_r, val_opt, n, n2, q, q2, q4, byte64, Option.bind_some, bne_self_eq_false, beq_self_eq_true, decide_true, decide_false, cond_true, cond_false]
            rfl
          · have q4 : ¬ ((b.getD (k + 1) 0).toNat : Int) < 128 := by omega
            rw [if_neg h4]
            simp only [T_tlv_walk_size_p5p0, Tr.val_c, Tr.val_r, val_opt, n, n2, q, q2, q4, byte64, Option.bind_some, bne_self_eq_false, beq_self_eq_true, decide_true, decide_false, cond_true, cond_false]
        · rw [if_neg h3] at n2
          rw [if_pos (by omega)]
          simp only [T_tlv_walk_size_p5p0, Tr.val_c, Tr.val_r, val_opt, n, n2, q, q2, e3, Option.bind_some, bne_self_eq_false, beq_self_eq_true, decide_false, cond_true, cond_false]
          rfl
      · have q2 : (((b.getD k 0).toNat : Int) != 129) = true := by rw [bne_iff_ne]; omega
        rw [if_pos h2]
        simp only [T_tlv_walk_size_p5p0, Tr.val_c, Tr.val_r, val_opt, n, q, q2, Option.bind_some, bne_self_eq_false, beq_self_eq_true, decide_false, cond_true, cond_false]
        rfl
  · rw [if_neg h] at n
    rw [if_pos (by omega)]
    simp only [T_tlv_walk_size_p5p0, Tr.val_c, Tr.val_r, val_opt, n, e3, Option.bind_some, beq_self_eq_true, cond_true]
    rfl

theorem tagR_le (b : List UInt8) (k : Nat) (l : List AV) (hk : k ≤ b.length) : (tagR b k l).2.2 ≤ b.length ∧ ((tagR b k l).2.1 = 0 → k + 1 ≤ (tagR b k l).2.2) := by
  have hv := tagV_le b k
  have hv2 : moreB (b.getD k 0).toNat = false → (tagV b k).2 = k + 1 := fun h => by unfold tagV; rw [h]; rfl
  unfold tagR
  split
  · exact ⟨by simpa using hk, fun h => by simp at h⟩
  · split
    · exact ⟨by simp; omega, fun h => by simp at h⟩
    · rename_i h1 h2
      have hle : (tagV b k).2 ≤ b.length := by
        cases hm : moreB (b.getD k 0).toNat with
        | true => have : ¬ b.length ≤ k + 1 := fun h => h2 ⟨hm, h⟩; omega
        | false => rw [hv2 hm]; omega
      split
      · exact ⟨hle, fun h => by simp at h⟩
      · exact ⟨hle, fun _ => hv.1⟩
theorem sizeR_le (b : List UInt8) (k : Nat) (hk : k ≤ b.length) : (sizeR b k).2.2 ≤ b.length ∧ (sizeR b k).1 < 256 ∧ k ≤ (sizeR b k).2.2 := by
  have h0 := (b.getD k 0).toNat_lt
  have h1 := (b.getD (k + 1) 0).toNat_lt
  unfold sizeR
  repeat' split
  all_goals exact ⟨by simp only; omega, by simp only; omega, by simp only; omega⟩

theorem step_eq (b : List UInt8) (k : Nat) (l : List AV) (hk : k ≤ b.length) (hb : b.length < 1000000) (hl : l.length < 2000000) :
    g_tlv_walk_step_p5p0 (bl b) (k : Int) l = some ((stepR b k l).1, bl b, ((stepR b k l).2.1 : Int), (stepR b k l).2.2) := by
  unfold g_tlv_walk_step_p5p0 stepR
  by_cases h20 : 20 ≤ l.length
  · have q : ((l.length : Int) ≥ 20) := by omega
    rw [if_pos h20]
    exact run_inr (by simp only [T_tlv_walk_step_p5p0, Tr.val_c, Tr.val_r, q, decide_true, beq_self_eq_true, cond_true])
  have q : ¬ ((l.length : Int) ≥ 20) := by omega
  rw [if_neg h20, run_inl (s := (0, bl b, (k : Int), 0, l, 0)) (by simp only [T_tlv_walk_step_p5p0, Tr.val_c, Tr.val_r, q, decide_false, cond_false])]
  have t := tag_eq b k l hk hb hl
  obtain ⟨tl1, tl2⟩ := tagR_le b k l hk
  generalize tagR b k l = TR at t tl1 tl2 ⊢
  obtain ⟨tv, te, tk⟩ := TR
  simp only at t tl1 tl2 ⊢
  have p0 : ((0 : Int) < 2) := by decide
  have p1 : ¬ ((0 : Int) = 1) := by decide
  by_cases hte : te = 0
  rotate_left
  · have e : (te != 0) = true := by rw [bne_iff_ne]; exact hte
    rw [if_pos hte]
    exact run_inr (by simp only [M_tlv_walk_step_p5p0, Tr.val_c, Tr.val_r, val_opt, p0, p1, t, e, Option.bind_some, decide_true, decide_false, beq_self_eq_true, cond_true, cond_false])
  subst hte
  rw [if_neg (by simp), run_inl (s := (1, bl b, (tk : Int), tv, l, 0)) (by
    simp only [M_tlv_walk_step_p5p0, Tr.val_c, Tr.val_r, val_opt, p0, p1, t, Option.bind_some, decide_true, decide_false, beq_self_eq_true, bne_self_eq_false, cond_true, cond_false]; rfl)]
  have s := size_eq b tk l tl1 hb
  obtain ⟨sl1, sl2, sl3⟩ := sizeR_le b tk tl1
  generalize sizeR b tk = SR at s sl1 sl2 sl3 ⊢
  obtain ⟨sv, se, sk⟩ := SR
  simp only at s sl1 sl2 sl3 ⊢
  have p2 : ((1 : Int) < 2) := by decide
  by_cases hse : se = 0
  rotate_left
  · have e : (se != 0) = true := by rw [bne_iff_ne]; exact hse
    rw [if_pos hse]
    exact run_inr (by simp only [M_tlv_walk_step_p5p0, Tr.val_c, Tr.val_r, val_opt, p2, s, e, Option.bind_some, decide_true, beq_self_eq_true, cond_true])
  subst hse
  rw [if_neg (by simp), run_inl (s := (2, bl b, (sk : Int), tv, l, (sv : Int))) (by
    simp only [M_tlv_walk_step_p5p0, Tr.val_c, Tr.val_r, val_opt, p2, s, Option.bind_some, decide_true, beq_self_eq_true, bne_self_eq_false, cond_true, cond_false]; rfl)]
  have p3 : ¬ ((2 : Int) < 2) := by decide
  have tk3 := Take_eq (sv : Int) (bl b) sk (by rw [length_bl]; exact sl1) (by rw [length_bl]; omega)
  rw [if_neg (by omega), length_bl] at tk3
  by_cases hs : b.length < sk + sv
  · rw [if_pos (by omega)] at tk3
    rw [if_pos hs]
    have e3 : ((3 : Int) != 0) = true := rfl
    exact run_inr (by simp only [M_tlv_walk_step_p5p0, Tr.val_c, Tr.val_r, val_opt, p3, tk3, e3, Option.bind_some, decide_false, beq_self_eq_true, cond_true, cond_false])
  · rw [if_neg (by omega), Int.toNat_natCast, bl_drop, bl_take] at tk3
    rw [if_neg hs]
    have l1 : (l ++ [AV.agg [.int .i64 tv, .slice 1 (.int .u8) (bl ((b.drop sk).take sv)) .ro]]).length * 33 < 70368744177664 := by simp; omega
    have ek : ((sk : Int) + (sv : Int)) = ((sk + sv : Nat) : Int) := by omega
    exact run_inr (by simp only [M_tlv_walk_step_p5p0, Tr.val_c, Tr.val_r, val_opt, p3, tk3, l1, ek, Option.bind_some, decide_true, decide_false, beq_self_eq_true, bne_self_eq_false, cond_true, cond_false]; rfl)

theorem stepR_le (b : List UInt8) (k : Nat) (l : List AV) (hk : k < b.length) : (stepR b k l).1 = 0 → k + 1 ≤ (stepR b k l).2.1 ∧ (stepR b k l).2.1 ≤ b.length ∧ (stepR b k l).2.2.length = l.length + 1 := by
  obtain ⟨tl1, tl2⟩ := tagR_le b k l (by omega)
  have hs := sizeR_le b (tagR b k l).2.2 tl1
  intro h
  unfold stepR at h ⊢
  split at h
  · simp at h
  · split at h
    · rename_i h2; exact absurd h h2
    · rename_i h2
      have := tl2 (by simpa using h2)
      split at h
      · rename_i h3; exact absurd h h3
      · split at h
        · simp at h
        · rename_i h20 h3 h4
          rw [if_neg h20, if_neg h2, if_neg h3, if_neg h4]
          exact ⟨by simp only; omega, by simp only; omega, by simp⟩
theorem stepR_20 {b : List UInt8} {k : Nat} {l : List AV} (h : (stepR b k l).1 = 0) : l.length < 20 := by
  unfold stepR at h
  split at h
  · simp at h
  · omega

theorem parse_from (b : List UInt8) (hb : b.length < 1000000) : ∀ (m k : Nat) (l : List AV), b.length - k ≤ m → k ≤ b.length → l.length ≤ k → run (M_tlv_Parse (bl b)) (M_tlv_Parse (bl b) (bl b, (k : Int), l)) = some (parseR b m k l) := by
  intro m
  induction m with
  | zero =>
    intro k l hm hk hl
    have w : IntKind.i64.wrap (((bl b).length : Int) - (k : Int)) = 0 := by rw [length_bl, i64_wrap (by omega) (by omega)]; omega
    have q : ¬ ((0 : Int) > 0) := by decide
    exact run_inr (by simp only [M_tlv_Parse, Tr.val_c, Tr.val_r, w, q, decide_false, beq_self_eq_true, cond_true, cond_false]; rfl)
  | succ m ih =>
    intro k l hm hk hl
    have w : IntKind.i64.wrap (((bl b).length : Int) - (k : Int)) = (b.length : Int) - k := by rw [length_bl, i64_wrap (by omega) (by omega)]
    by_cases h : b.length ≤ k
    · have q : ¬ ((b.length : Int) - k > 0) := by omega
      rw [parseR, if_pos h]
      exact run_inr (by simp only [M_tlv_Parse, Tr.val_c, Tr.val_r, w, q, decide_false, beq_self_eq_true, cond_true, cond_false])
    · have q : ((b.length : Int) - k > 0) := by omega
      have s := step_eq b k l hk hb (by omega)
      rw [parseR, if_neg h]
      by_cases he : (stepR b k l).1 = 0
      · obtain ⟨s1, s2, s3⟩ := stepR_le b k l (by omega) he
        rw [if_neg (by simpa using he)]
        rw [he] at s
        rw [← ih _ _ (by omega) s2 (by omega)]
        exact run_inl (by simp only [M_tlv_Parse, Tr.val_c, Tr.val_r, val_opt, w, q, s, Option.bind_some, decide_true, beq_self_eq_true, bne_self_eq_false, cond_true, cond_false])
      · have e : ((stepR b k l).1 != 0) = true := by rw [bne_iff_ne]; exact he
        rw [if_pos he]
        exact run_inr (by simp only [M_tlv_Parse, Tr.val_c, Tr.val_r, val_opt, w, q, s, e, Option.bind_some, decide_true, beq_self_eq_true, cond_true])

theorem Parse_eq (b : List UInt8) (hb : b.length < 1000000) : g_tlv_Parse (bl b) = some (parseR b b.length 0 []) := by
  have nw := New_eq (bl b) (by rw [length_bl]; omega)
  unfold g_tlv_Parse
  rw [run_inl (s := (bl b, ((0 : Nat) : Int), [])) (by simp only [T_tlv_Parse, Tr.val_r, val_opt, nw, Option.bind_some]; rfl)]
  exact parse_from b hb b.length 0 [] (by omega) (by omega) (by simp)

/- tags that are written -/
def tgs (L : List (Int × List UInt8)) : List AV := L.map fun p => tg p.1 (bl p.2)
theorem tgs_getD (L : List (Int × List UInt8)) (i : Nat) (h : i < L.length) : (tgs L).getD i (.agg [.int .i64 0, .slice 1 (.int .u8) [] .ro]) = tg L[i].1 (bl L[i].2) := by
  simp [tgs, List.getD_eq_getElem?_getD, h]
theorem wf_tgs : ∀ {xs : List AV}, (∀ y ∈ xs, Wf (.agg [.int .i64, .slice 1 (.int .u8)]) y) → ∃ L : List (Int × List UInt8), xs = tgs L ∧ ∀ p ∈ L, (Lit.int .i64 p.1).wf = true
  | [], _ => ⟨[], rfl, fun p hp => by simp at hp⟩
  | x :: xs, h => by
    obtain ⟨L, hL, hw⟩ := wf_tgs (xs := xs) fun y hy => h y (by simp [hy])
    obtain ⟨cs, hcs, hwl⟩ : ∃ cs, x = .agg cs ∧ WfL [.int .i64, .slice 1 (.int .u8)] cs := h x (by simp)
    have hlen : cs.length = 2 := WfL.length hwl
    obtain ⟨a, b, rfl⟩ : ∃ a b, cs = [a, b] := by
      match cs, hlen with
      | [a, b], _ => exact ⟨a, b, rfl⟩
    simp only [WfL, and_true] at hwl
    obtain ⟨⟨ha, -⟩, hb, -⟩ := hwl
    obtain ⟨n, rfl, hn⟩ := ha
    obtain ⟨d, rfl, -⟩ := wf_bytes hb
    exact ⟨(n, d) :: L, by rw [hcs, hL]; rfl, fun p hp => by
      rcases List.mem_cons.1 hp with rfl | hp
      · exact hn
      · exact hw p hp⟩

def headW (t : Int) (n : Nat) : List AV := bex (IntKind.u64.wrap t) (rightN t).toNat ++ (if 128 ≤ n then [.int .u8 129] else []) ++ [.int .u8 (IntKind.u8.wrap (n : Int))]
def writeS (pre : List (Int × List UInt8)) (acc : List AV) : List (Int × List UInt8) → List AV × Int
  | [] => (acc, 0)
  | (t, d) :: r => if rightN t = 0 ∨ knownA (tgs pre) t = true then ([], 18) else if 255 < d.length then ([], 17) else writeS (pre ++ [(t, d)]) (acc ++ headW t d.length ++ bl d) r

theorem rightN_cases (t : Int) : rightN t = 0 ∨ (rightN t = 1 ∧ 0 < t ∧ t < 255) ∨ (rightN t = 2 ∧ 255 < t ∧ t < 65536) := by
  unfold rightN
  split
  · rename_i h; exact .inr (.inl ⟨rfl, h.1, h.2.1⟩)
  · split
    · rename_i h
      refine .inr (.inr ⟨rfl, h.1, ?_⟩)
      have h2 : t.fdiv 256 < 255 := h.2.1
      rw [Int.fdiv_eq_ediv_of_nonneg _ (by decide)] at h2
      omega
    · exact .inl rfl

theorem write_from (L : List (Int × List UInt8)) (hL : L.length ≤ 20) : ∀ (r pre : List (Int × List UInt8)) (acc : List AV), L = pre ++ r → acc.length ≤ 300 * pre.length →
    run (M_tlv_Write (tgs L)) (M_tlv_Write (tgs L) ((pre.length : Int), acc)) = some (writeS pre acc r)
  | [], pre, acc, h, ha => by
    have lL : (tgs L).length = pre.length := by rw [h]; simp [tgs]
    have q : ¬ ((pre.length : Int) < (tgs L).length) := by omega
    exact run_inr (by simp only [M_tlv_Write, Tr.val_c, Tr.val_r, q, decide_false, beq_self_eq_true, cond_true, cond_false]; rfl)
  | (t, d) :: r, pre, acc, h, ha => by
    have l0 : L.length = pre.length + (r.length + 1) := by rw [h]; simp
    have lL : (tgs L).length = L.length := by simp [tgs]
    have q : (pre.length : Int) < (tgs L).length := by omega
    have q0 : (0 : Int) ≤ pre.length := by omega
    have q1 : (pre.length : Int) ≤ (tgs L).length := by omega
    have hg : (tgs L).getD pre.length (.agg [.int .i64 0, .slice 1 (.int .u8) [] .ro]) = tg t (bl d) := by
      rw [tgs_getD L pre.length (by omega)]
      have : L[pre.length]'(by omega) = (t, d) := by simp [h]
      rw [this]
    have ht : (tgs L).take pre.length = tgs pre := by rw [h]; simp [tgs]
    have w : IntKind.i64.wrap ((pre.length : Int) + 1) = ((pre.length + 1 : Nat) : Int) := by rw [i64_wrap (by omega) (by omega)]; omega
    have rq := right_eq t
    have tq := there_eq (tgs pre) t (by simp [tgs]; omega)
    rw [writeS]
    by_cases hr : rightN t = 0
    · have e : (rightN t != 0) = false := by rw [hr]; rfl
      rw [if_pos (.inl hr)]
      exact run_inr (by simp only [M_tlv_Write, Tr.val_c, Tr.val_r, val_opt, q, q0, Int.toNat_natCast, hg, tg_tag, rq, e, Option.bind_some, Bool.not_false, decide_true, cond_true])
    have e : (rightN t != 0) = true := by rw [bne_iff_ne]; exact hr
    cases hk : knownA (tgs pre) t with
    | true =>
      rw [hk] at tq
      rw [if_pos (.inr rfl)]
      exact run_inr (by simp only [M_tlv_Write, Tr.val_c, Tr.val_r, val_opt, q, q0, q1, Int.toNat_natCast, hg, tg_tag, List.drop_zero, ht, rq, e, tq, Option.bind_some, Bool.not_true, decide_true, cond_true, cond_false])
    | false =>
      rw [hk] at tq
      rw [if_neg (by rintro (h | h); exact hr h; exact absurd h (by decide))]
      by_cases h5 : 255 < d.length
      · have q5 : ((bl d).length : Int) > 255 := by rw [length_bl]; omega
        rw [if_pos h5]
        exact run_inr (by simp only [M_tlv_Write, Tr.val_c, Tr.val_r, val_opt, q, q0, q1, Int.toNat_natCast, hg, tg_tag, tg_data, List.drop_zero, ht, rq, e, tq, q5, Option.bind_some, Bool.not_true, decide_true, cond_true, cond_false])
      have q5 : ¬ ((bl d).length : Int) > 255 := by rw [length_bl]; omega
      rw [if_neg h5]
      have hw : ∀ m : Nat, rightN t = (m : Int) → (m = 1 ∨ m = 2) → decide (t > 255) = decide (m = 2) := by
        intro m hm h12
        rcases rightN_cases t with hc | ⟨hc, h1, h2⟩ | ⟨hc, h1, h2⟩
        · exact absurd hc hr
        · have : m = 1 := by omega
          subst this
          rw [decide_eq_false (by omega), decide_eq_false (by omega)]
        · have : m = 2 := by omega
          subst this
          rw [decide_eq_true (by omega), decide_eq_true rfl]
      obtain ⟨m, hm, h12⟩ : ∃ m : Nat, rightN t = (m : Int) ∧ (m = 1 ∨ m = 2) := by
        rcases rightN_cases t with hc | ⟨hc, h1, h2⟩ | ⟨hc, h1, h2⟩
        · exact absurd hc hr
        · exact ⟨1, hc, .inl rfl⟩
        · exact ⟨2, hc, .inr rfl⟩
      have hw2 := hw m hm h12
      have hmn : (rightN t).toNat = m := by omega
      have p1 := Put_eq acc (IntKind.u64.wrap t) 1 1 (by omega) (by omega) (by decide)
      have p2 := Put_eq acc (IntKind.u64.wrap t) 2 2 (by omega) (by omega) (by decide)
      obtain ⟨P, hP⟩ : ∃ P, P = acc ++ bex (IntKind.u64.wrap t) m := ⟨_, rfl⟩
      have lP : P.length ≤ 300 * pre.length + 2 := by rw [hP]; simp; omega
      have ih := write_from L hL r (pre ++ [(t, d)]) (acc ++ headW t d.length ++ bl d) (by rw [h]; simp) (by simp [headW]; split <;> simp <;> omega)
      rw [← ih]
      have lp : (pre ++ [(t, d)]).length = pre.length + 1 := by simp
      rw [lp]
      refine run_inl ?_
      have hh : acc ++ headW t d.length ++ bl d = (P ++ (if 128 ≤ d.length then [AV.int .u8 129] else [])) ++ [AV.int .u8 (IntKind.u8.wrap (d.length : Int))] ++ bl d := by
        unfold headW; rw [hmn, hP]; simp only [List.append_assoc]
      rw [hh]
      by_cases h8 : 128 ≤ d.length
      · have q8 : ((bl d).length : Int) ≥ 128 := by rw [length_bl]; omega
        have lz : (P ++ [AV.int .u8 129]).length * 2 < 70368744177664 := by simp; omega
        have c3 := Concat3_eq (P ++ [.int .u8 129]) [.int .u8 (IntKind.u8.wrap (d.length : Int))] (bl d) (by simp; omega)
        rw [if_pos h8]
        rcases h12 with rfl | rfl
        · rw [← hP] at p1
          simp only [M_tlv_Write, Tr.val_c, Tr.val_r, val_opt, q, q0, q1, Int.toNat_natCast, hg, tg_tag, tg_data, List.drop_zero, ht, rq, e, tq, q5, hw2, p1, q8, lz, w, length_bl, c3, Option.bind_some, Bool.not_true, Bool.true_and, beq_self_eq_true, decide_true, decide_false, cond_true, cond_false, show decide (1 = 2) = false from rfl]
          simp only [length_bl] at q5 q8
          simp only [q5, q8, decide_true, decide_false, cond_true, cond_false, c3, Option.bind_some]
        · rw [← hP] at p2
          simp only [M_tlv_Write, Tr.val_c, Tr.val_r, val_opt, q, q0, q1, Int.toNat_natCast, hg, tg_tag, tg_data, List.drop_zero, ht, rq, e, tq, q5, hw2, p2, q8, lz, w, length_bl, c3, Option.bind_some, Bool.not_true, Bool.true_and, beq_self_eq_true, decide_true, decide_false, cond_true, cond_false]
          simp only [length_bl] at q5 q8
          simp only [q5, q8, decide_true, decide_false, cond_true, cond_false, c3, Option.bind_some]
      · have q8 : ¬ ((bl d).length : Int) ≥ 128 := by rw [length_bl]; omega
        have c3 := Concat3_eq P [.int .u8 (IntKind.u8.wrap (d.length : Int))] (bl d) (by simp; omega)
        rw [if_neg h8, List.append_nil]
        rcases h12 with rfl | rfl
        · rw [← hP] at p1
          simp only [M_tlv_Write, Tr.val_c, Tr.val_r, val_opt, q, q0, q1, Int.toNat_natCast, hg, tg_tag, tg_data, List.drop_zero, ht, rq, e, tq, q5, hw2, p1, q8, w, length_bl, c3, Option.bind_some, Bool.not_true, Bool.true_and, beq_self_eq_true, decide_true, decide_false, cond_true, cond_false, show decide (1 = 2) = false from rfl]
          simp only [length_bl] at q5 q8
          simp only [q5, q8, decide_true, decide_false, cond_true, cond_false, c3, Option.bind_some]
        · rw [← hP] at p2
          simp only [M_tlv_Write, Tr.val_c, Tr.val_r, val_opt, q, q0, q1, Int.toNat_natCast, hg, tg_tag, tg_data, List.drop_zero, ht, rq, e, tq, q5, hw2, p2, q8, w, length_bl, c3, Option.bind_some, Bool.not_true, Bool.true_and, beq_self_eq_true, decide_true, decide_false, cond_true, cond_false]
          simp only [length_bl] at q5 q8
          simp only [q5, q8, decide_true, decide_false, cond_true, cond_false, c3, Option.bind_some]

theorem Write_eq (L : List (Int × List UInt8)) (hL : L.length < TOP) : g_tlv_Write (tgs L) = some (if 20 < L.length then ([], 4) else writeS [] [] L) := by
  have lL : (tgs L).length = L.length := by simp [tgs]
  unfold g_tlv_Write
  by_cases h : 20 < L.length
  · have q : ((tgs L).length : Int) > 20 := by omega
    rw [if_pos h]
    exact run_inr (by simp only [T_tlv_Write, Tr.val_c, Tr.val_r, q, decide_true, cond_true])
  · have q : ¬ ((tgs L).length : Int) > 20 := by omega
    rw [if_neg h, run_inl (s := (((0 : Nat) : Int), [])) (by simp only [T_tlv_Write, Tr.val_c, Tr.val_r, q, decide_false, cond_false]; rfl)]
    exact write_from L (by omega) L [] [] rfl (by simp)

theorem awake14 : g_comptoirlaw14_awake = some true := by
  have p := Parse_eq [149, 1, 7] (by simp)
  have e : bl [149, 1, 7] = [AV.int .u8 149, .int .u8 1, .int .u8 7] := rfl
  have r : parseR [149, 1, 7] ([149, 1, 7] : List UInt8).length 0 [] = ([tg 149 [.int .u8 7]], 0) := by kernel_rfl
  rw [e, r] at p
  unfold g_comptoirlaw14_awake
  simp only [T_comptoirlaw14_awake, Tr.val_c, Tr.val_r, val_opt, p, Option.bind_some]
  rfl

theorem andi64 {X Y : Nat} (hX : X < 2 ^ 63) (hY : Y < 2 ^ 63) : bitsA .and .i64 (X : Int) (Y : Int) = ((X &&& Y : Nat) : Int) := by
  show IntKind.i64.wrap ((BitVec.ofInt 64 (X : Int) &&& BitVec.ofInt 64 (Y : Int)).toNat : Int) = _
  rw [BitVec.toNat_and, ofInt_toNat 64 X (by omega), ofInt_toNat 64 Y (by omega)]
  have : X &&& Y ≤ X := Nat.and_le_left
  exact i64_wrap (by omega) (by omega)
theorem and31 {X : Nat} (h : X < 2 ^ 63) : bitsA .and .i64 (X : Int) 31 = ((X % 32 : Nat) : Int) := by
  have := andi64 h (Y := 31) (by omega)
  rw [show (31 : Nat) = 2 ^ 5 - 1 from rfl, Nat.and_two_pow_sub_one_eq_mod] at this
  exact this
theorem and255 {X : Nat} (h : X < 2 ^ 63) : bitsA .and .i64 (X : Int) 255 = ((X % 256 : Nat) : Int) := by
  have := andi64 h (Y := 255) (by omega)
  rw [show (255 : Nat) = 2 ^ 8 - 1 from rfl, Nat.and_two_pow_sub_one_eq_mod] at this
  exact this
theorem shri8 (X : Nat) : shrA .i64 (X : Int) 8 = ((X / 256 : Nat) : Int) := by
  show (X : Int).fdiv 256 = _
  rw [Int.fdiv_eq_ediv_of_nonneg _ (by decide)]; omega
/-- Whether a number is a tag, in plain words. -/
theorem rightN_nat {X : Nat} (h : X < 2 ^ 63) : rightN (X : Int) = if 0 < X ∧ X < 255 ∧ X % 32 ≠ 31 then 1 else if 255 < X ∧ X / 256 < 255 ∧ X / 256 % 32 = 31 ∧ X % 256 < 128 then 2 else 0 := by
  unfold rightN
  rw [shri8, and31 h, and31 (X := X / 256) (by omega), and255 h]
  have e1 : (0 < (X : Int) ∧ (X : Int) < 255 ∧ (((X % 32 : Nat) : Int) != 31) = true) ↔ (0 < X ∧ X < 255 ∧ X % 32 ≠ 31) := by
    rw [bne_iff_ne]; omega
  have e2 : (255 < (X : Int) ∧ ((X / 256 : Nat) : Int) < 255 ∧ (((X / 256 % 32 : Nat) : Int) == 31) = true ∧ ((X % 256 : Nat) : Int) < 128) ↔ (255 < X ∧ X / 256 < 255 ∧ X / 256 % 32 = 31 ∧ X % 256 < 128) := by
    rw [beq_iff_eq]; omega
  by_cases h1 : 0 < X ∧ X < 255 ∧ X % 32 ≠ 31
  · rw [if_pos h1, if_pos (e1.2 h1)]
  · rw [if_neg h1, if_neg (fun h => h1 (e1.1 h))]
    by_cases h2 : 255 < X ∧ X / 256 < 255 ∧ X / 256 % 32 = 31 ∧ X % 256 < 128
    · rw [if_pos h2, if_pos (e2.2 h2)]
    · rw [if_neg h2, if_neg (fun h => h2 (e2.1 h))]

theorem Write_one (t : Int) (d : List UInt8) : g_tlv_Write [tg t (bl d)] = some (if rightN t = 0 then ([], 18) else if 255 < d.length then ([], 17) else (headW t d.length ++ bl d, 0)) := by
  have w := Write_eq [(t, d)] (by simp [TOP])
  rw [if_neg (by simp)] at w
  have e : tgs [(t, d)] = [tg t (bl d)] := rfl
  rw [e] at w
  rw [w, writeS]
  have k : knownA (tgs []) t = false := rfl
  rw [k]
  by_cases h : rightN t = 0
  · simp [h]
  · by_cases h5 : 255 < d.length
    · simp [h, h5]
    · simp [h, h5, writeS]

theorem or128 (c : UInt8) : 128 ≤ bitsA .or .u8 128 (c.toNat : Int) ∧ bitsA .or .u8 128 (c.toNat : Int) < 256 := all_bytes (p := fun c => 128 ≤ bitsA .or .u8 128 (c.toNat : Int) ∧ bitsA .or .u8 128 (c.toNat : Int) < 256) (by decide +kernel) c

theorem tag149 (r : List UInt8) : tagR (149 :: r) 0 [] = (149, 0, 1) := by
  have m : moreB ((149 :: r).getD 0 0).toNat = false := by show moreB 149 = false; kernel_rfl
  have v : tagV (149 :: r) 0 = (149, 1) := by unfold tagV; rw [m]; rfl
  have r149 : rightN 149 = 1 := by kernel_rfl
  unfold tagR
  rw [if_neg (by simp), if_neg (by rw [m]; simp), v, if_neg (by rw [r149]; simp [knownA])]

/-- One tag whose length may not be. -/
theorem parse_badlen (r : List UInt8) (hl : r.length < 1000) (e : Int) (he : e ≠ 0) (h : (sizeR (149 :: r) 1).2.1 = e) : g_tlv_Parse (bl (149 :: r)) = some ([], e) := by
  have p := Parse_eq (149 :: r) (by simp; omega)
  rw [List.length_cons, parseR, if_neg (by simp)] at p
  have hs : (stepR (149 :: r) 0 []).1 = e := by
    unfold stepR
    rw [if_neg (by simp), tag149, if_neg (by simp)]
    simp only
    rw [h, if_pos he]
  rw [hs, if_pos he] at p
  exact p

theorem parse_one (r : List UInt8) (hl : r.length < 1000) (n k : Nat) (h : sizeR (149 :: r) 1 = (n, 0, k)) (hn : k + n = r.length + 1) : ∃ o, g_tlv_Parse (bl (149 :: r)) = some (o, 0) := by
  have p := Parse_eq (149 :: r) (by simp; omega)
  rw [List.length_cons, parseR, if_neg (by simp)] at p
  have hs : ∃ l, stepR (149 :: r) 0 [] = (0, r.length + 1, l) := by
    unfold stepR
    rw [if_neg (by simp), tag149, if_neg (by simp)]
    simp only
    rw [h, if_neg (by simp), if_neg (by simp; omega), hn]
    exact ⟨_, rfl⟩
  obtain ⟨l, hs⟩ := hs
  rw [hs, if_neg (by simp)] at p
  refine ⟨l, ?_⟩
  rw [p]
  congr 1
  cases hm : r.length with
  | zero => rfl
  | succ m => rw [parseR, if_pos (by simp; omega)]

theorem lengths_eq (x0 : Int) (c : UInt8) : g_comptoirlaw14_TlvLengths x0 (c.toNat : Int) = some true := by
  obtain ⟨a0, a1⟩ := u64_bounds x0
  obtain ⟨n, hn, hn7⟩ : ∃ t : Nat, IntKind.i64.wrap (Int.tmod (IntKind.u64.wrap x0) 256) = (t : Int) ∧ t < 256 := ⟨(IntKind.u64.wrap x0 % 256).toNat, by rw [tmod_eq a0, i64_wrap (by omega) (by omega)]; omega, by omega⟩
  obtain ⟨d, hd⟩ : ∃ d : List UInt8, d = List.replicate n 0 := ⟨_, rfl⟩
  have ld : d.length = n := by rw [hd]; simp
  have hD : List.replicate n (AV.int .u8 0) = bl d := by rw [bl_replicate, hd]
  have W := Write_one 149 d
  have r149 : rightN 149 = 1 := by kernel_rfl
  rw [r149, if_neg (by decide), if_neg (by omega)] at W
  have lh : (headW 149 d.length ++ bl d).length = n + (if n > 127 then 3 else 2) := by
    unfold headW
    rw [r149]
    by_cases h : 128 ≤ d.length
    · rw [if_pos h, if_pos (by omega)]; simp; omega
    · rw [if_neg h, if_neg (by omega)]; simp; omega
  have tgd : AV.agg [.int .i64 149, .slice 1 (.int .u8) (bl d) .ro] = tg 149 (bl d) := rfl
  have q0 : (0 : Int) ≤ n := by omega
  have l2 : (bl d).length * 2 < 70368744177664 := by rw [length_bl]; omega
  obtain ⟨hd2, hh⟩ : ∃ hd2 : Int, hd2 = if n > 127 then 3 else 2 := ⟨_, rfl⟩
  unfold g_comptoirlaw14_TlvLengths
  rw [run_inl (s := .inl (bl d, headW 149 d.length ++ bl d, 0, hd2)) (by
    by_cases h : n > 127
    · have e : (n : Int) > 127 := by omega
      rw [hh, if_pos h]
      simp only [T_comptoirlaw14_TlvLengths, Tr.val_c, Tr.val_r, val_opt, hn, q0, Int.toNat_natCast, hD, l2, tgd, W, e, Option.bind_some, decide_true, beq_self_eq_true, cond_true]
    · have e : ¬ (n : Int) > 127 := by omega
      rw [hh, if_neg h]
      simp only [T_comptoirlaw14_TlvLengths, Tr.val_c, Tr.val_r, val_opt, hn, q0, Int.toNat_natCast, hD, l2, tgd, W, e, Option.bind_some, decide_true, decide_false, beq_self_eq_true, cond_true, cond_false])]
  -- long form
  have wn : IntKind.u8.wrap (n : Int) = (n : Int) := by rw [u8_mod]; omega
  have b3 : [AV.int .u8 149, .int .u8 129, .int .u8 (n : Int)] ++ bl d = bl (149 :: (129 :: UInt8.ofNat n :: d)) := by
    have : AV.int .u8 (n : Int) = byte (UInt8.ofNat n) := (byte_ofNat hn7).symm
    rw [this]; rfl
  have nn : (UInt8.ofNat n).toNat = n := by simp; omega
  have f : ∃ o, g_tlv_Parse (bl (149 :: (129 :: UInt8.ofNat n :: d))) = some (o, if n > 127 then 0 else 17) := by
    by_cases h : n > 127
    · have s : sizeR (149 :: (129 :: UInt8.ofNat n :: d)) 1 = (n, 0, 3) := by
        unfold sizeR
        rw [if_neg (by simp)]
        show (if (129 : UInt8).toNat < 128 then _ else _) = _
        rw [if_neg (by decide)]
        show (if (129 : UInt8).toNat ≠ 129 then _ else _) = _
        rw [if_neg (by decide), if_neg (by simp)]
        show (if (UInt8.ofNat n).toNat < 128 then _ else ((UInt8.ofNat n).toNat, _, _)) = _
        rw [nn, if_neg (by omega)]
      obtain ⟨o, ho⟩ := parse_one (129 :: UInt8.ofNat n :: d) (by simp; omega) n 3 s (by simp; omega)
      exact ⟨o, by rw [if_pos h]; exact ho⟩
    · have s : (sizeR (149 :: (129 :: UInt8.ofNat n :: d)) 1).2.1 = 17 := by
        unfold sizeR
        rw [if_neg (by simp)]
        show (if (129 : UInt8).toNat < 128 then _ else _ : Nat × Int × Nat).2.1 = _
        rw [if_neg (by decide)]
        show (if (129 : UInt8).toNat ≠ 129 then _ else _ : Nat × Int × Nat).2.1 = _
        rw [if_neg (by decide), if_neg (by simp)]
        show (if (UInt8.ofNat n).toNat < 128 then _ else _ : Nat × Int × Nat).2.1 = _
        rw [nn, if_pos (by omega)]
      exact ⟨[], by rw [if_neg h]; exact parse_badlen _ (by simp; omega) 17 (by decide) s⟩
  obtain ⟨o3, f⟩ := f
  rw [← b3] at f
  -- any form
  obtain ⟨v0, v1⟩ := or128 c
  obtain ⟨w, hw⟩ : ∃ w : Nat, bitsA .or .u8 128 (c.toNat : Int) = (w : Int) := ⟨(bitsA .or .u8 128 (c.toNat : Int)).toNat, by omega⟩
  rw [hw] at v0 v1
  have b2 : [AV.int .u8 149, .int .u8 (w : Int)] ++ bl d = bl (149 :: (UInt8.ofNat w :: d)) := by
    have : AV.int .u8 (w : Int) = byte (UInt8.ofNat w) := (byte_ofNat (by omega)).symm
    rw [this]; rfl
  have nw : (UInt8.ofNat w).toNat = w := by simp; omega
  obtain ⟨p, hp⟩ : ∃ p, g_tlv_Parse (bl (149 :: (UInt8.ofNat w :: d))) = some p ∧ (w ≠ 129 → p.2 = 17) := by
    by_cases h : w = 129
    · have := Parse_eq (149 :: (UInt8.ofNat w :: d)) (by simp; omega)
      exact ⟨_, this, fun hh => absurd h hh⟩
    · have s : (sizeR (149 :: (UInt8.ofNat w :: d)) 1).2.1 = 17 := by
        unfold sizeR
        rw [if_neg (by simp)]
        show (if (UInt8.ofNat w).toNat < 128 then _ else if (UInt8.ofNat w).toNat ≠ 129 then _ else _ : Nat × Int × Nat).2.1 = _
        rw [nw, if_neg (by omega), if_pos h]
      exact ⟨_, parse_badlen _ (by simp; omega) 17 (by decide) s, fun _ => rfl⟩
  obtain ⟨g, hg⟩ := hp
  rw [← b2] at g
  obtain ⟨wt, hwt⟩ : ∃ wt : Int, wt = if n > 127 then 0 else 17 := ⟨_, rfl⟩
  rw [← hwt] at f
  have step : (M_comptoirlaw14_TlvLengths x0 (c.toNat : Int) (.inl (bl d, headW 149 d.length ++ bl d, 0, hd2))).val = some (.inl (.inr (headW 149 d.length ++ bl d, 0, hd2, wt, p.2, wt))) := by
    have k3 : ([AV.int .u8 149, .int .u8 129, .int .u8 (n : Int)] ++ bl d).length * 2 < 70368744177664 := by simp; omega
    have k2 : ([AV.int .u8 149, .int .u8 (w : Int)] ++ bl d).length * 2 < 70368744177664 := by simp; omega
    by_cases h0 : n = 0
    · have hz : bl d = [] := List.eq_nil_of_length_eq_zero (by rw [length_bl]; omega)
      have e0 : ((bl d).length == 0) = true := by rw [hz]; rfl
      have e7 : ¬ (n : Int) > 127 := by omega
      have hw17 : wt = 17 := by rw [hwt, if_neg (by omega)]
      rw [hz, List.append_nil] at f g
      simp only [M_comptoirlaw14_TlvLengths, Tr.val_c, Tr.val_r, val_opt, e0, hn, wn, hw, f, g, e7, hw17, Option.bind_some, decide_false, cond_true, cond_false]
    · have e0 : ((bl d).length == 0) = false := by rw [beq_eq_false_iff_ne, length_bl]; omega
      have e1 : 0 < (bl d).length := by rw [length_bl]; omega
      by_cases h7 : n > 127
      · have e7 : (n : Int) > 127 := by omega
        have hw17 : wt = 0 := by rw [hwt, if_pos h7]
        simp only [M_comptoirlaw14_TlvLengths, Tr.val_c, Tr.val_r, val_opt, e0, e1, hn, wn, hw, k2, k3, f, g, e7, hw17, Option.bind_some, decide_true, beq_self_eq_true, Bool.true_and, cond_true, cond_false]
      · have e7 : ¬ (n : Int) > 127 := by omega
        have hw17 : wt = 17 := by rw [hwt, if_neg h7]
        simp only [M_comptoirlaw14_TlvLengths, Tr.val_c, Tr.val_r, val_opt, e0, e1, hn, wn, hw, k2, k3, f, g, e7, hw17, Option.bind_some, decide_true, decide_false, beq_self_eq_true, Bool.true_and, cond_true, cond_false]
  rw [run_inl step]
  have wl : (((headW 149 d.length ++ bl d).length : Int) == IntKind.i64.wrap ((n : Int) + hd2)) = true := by
    rw [lh, beq_iff_eq, hh]
    split
    · rw [i64_wrap (by omega) (by omega)]; omega
    · rw [i64_wrap (by omega) (by omega)]; omega
  by_cases h9 : w = 129
  · have e9 : (!(bitsA .or .u8 128 (c.toNat : Int) != 129)) = true := by rw [hw, h9]; rfl
    exact run_inr (by simp only [M_comptoirlaw14_TlvLengths, Tr.val_c, Tr.val_r, val_opt, awake14, hn, wl, e9, Option.bind_some, beq_self_eq_true, cond_true])
  · have e9 : (!(bitsA .or .u8 128 (c.toNat : Int) != 129)) = false := by
      rw [hw, Bool.not_eq_false', bne_iff_ne]; omega
    have e17 : (p.2 == 17) = true := by rw [hg h9]; rfl
    exact run_inr (by simp only [M_comptoirlaw14_TlvLengths, Tr.val_c, Tr.val_r, val_opt, awake14, hn, wl, e9, e17, Option.bind_some, beq_self_eq_true, cond_true, cond_false])

theorem lengths_all (n0 : Int) {n1 : Int} (h : 0 ≤ n1 ∧ n1 < 256) : g_comptoirlaw14_TlvLengths n0 n1 = some true := by
  have e : ((UInt8.ofNat n1.toNat).toNat : Int) = n1 := by simp; omega
  have := lengths_eq n0 (UInt8.ofNat n1.toNat)
  rw [e] at this
  exact this

end Go.Proofs.Ytfhgmpeplfjmcaa
