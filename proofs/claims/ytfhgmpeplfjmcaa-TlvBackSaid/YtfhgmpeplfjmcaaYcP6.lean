/- What the printed functions come to, plainly. -/
import Derived.Test.YtfhgmpeplfjmcaaYcG6
import Derived.Test.YtfhgmpeplfjmcaaCxPl3
import Derived.Test.YtfhgmpeplfjmcaaCxAm
namespace Go.Proofs.Ytfhgmpeplfjmcaa
open Go.Cx Go.Cx.AV
set_option linter.unusedSimpArgs false
set_option linter.unusedVariables false

/- slices.Concat of two. -/
theorem Grow_eq (n : Int) (h0 : 0 ≤ n) (h : n < 35184372088832) : g_slices_Grow_byte_byte n = some [] := by
  unfold g_slices_Grow_byte_byte
  have w : IntKind.i64.wrap (n - 0) = n := by rw [Int.sub_zero]; exact i64_wrap (by omega) (by omega)
  have hn0 : ¬ (n < 0) := by omega
  have hT : (T_slices_Grow_byte_byte n).val = some (.inl (.inl ())) := by simp only [T_slices_Grow_byte_byte, Tr.val_c, Tr.val_r, hn0]; rfl
  rw [run_inl hT]
  rw [run_inl (s := .inr ())]
  · exact run_inr rfl
  · simp only [M_slices_Grow_byte_byte, Tr.val_c, Tr.val_r, w, List.length_replicate]
    by_cases hn : n > 0
    · have : n.toNat * 2 < 70368744177664 := by omega
      simp [hn, this]
    · simp [hn]

theorem Concat_eq (a b : List AV) (h : a.length + b.length < 17592186044416) : g_slices_Concat_byte_byte [.slice 1 (.int .u8) a .ro, .slice 1 (.int .u8) b .ro] = some (a ++ b) := by
  have e0 : getXs (List.getD [AV.slice 1 (.int .u8) a .ro, .slice 1 (.int .u8) b .ro] (Int.toNat 0) (.slice 1 (.int .u8) [] .ro)) = a := rfl
  have e1 : getXs (List.getD [AV.slice 1 (.int .u8) a .ro, .slice 1 (.int .u8) b .ro] (Int.toNat 1) (.slice 1 (.int .u8) [] .ro)) = b := rfl
  have w0 : IntKind.i64.wrap (0 + (a.length : Int)) = a.length := by rw [Int.zero_add]; exact i64_wrap (by omega) (by omega)
  have w1 : IntKind.i64.wrap ((a.length : Int) + b.length) = ((a.length + b.length : Nat) : Int) := by rw [i64_wrap (by omega) (by omega)]; omega
  have w2 : IntKind.i64.wrap (0 + 1) = 1 := rfl
  have w3 : IntKind.i64.wrap (1 + 1) = 2 := rfl
  have n0 : ¬ ((a.length : Int) < 0) := by omega
  have n1 : ¬ (((a.length + b.length : Nat) : Int) < 0) := by omega
  have l0 : a.length * 2 < 70368744177664 := by omega
  have l1 : (a.length + b.length) * 2 < 70368744177664 := by omega
  have gr := Grow_eq (((a.length + b.length : Nat) : Int)) (by omega) (by omega)
  unfold g_slices_Concat_byte_byte
  rw [run_inl (s := .inl (0, 0)) rfl]
  rw [run_inl (s := .inl ((a.length : Int), 1)) (by simp only [M_slices_Concat_byte_byte, Tr.val_c, Tr.val_r, e0, w0, w2, n0]; rfl)]
  rw [run_inl (s := .inl (((a.length + b.length : Nat) : Int), 2)) (by simp only [M_slices_Concat_byte_byte, Tr.val_c, Tr.val_r, e1, w1, w3, n1]; rfl)]
  rw [run_inl (s := .inr ([], 0)) (by simp only [M_slices_Concat_byte_byte, Tr.val_c, Tr.val_r, gr, opt_some]; rfl)]
  rw [run_inl (s := .inr (a, 1)) (by simp only [M_slices_Concat_byte_byte, Tr.val_c, Tr.val_r, e0, w2, List.nil_append, l0, decide_true, beq_self_eq_true]; rfl)]
  rw [run_inl (s := .inr (a ++ b, 2)) (by simp only [M_slices_Concat_byte_byte, Tr.val_c, Tr.val_r, e1, w3, List.length_append, l1, decide_true, beq_self_eq_true]; rfl)]
  exact run_inr (by simp only [M_slices_Concat_byte_byte, Tr.val_c, Tr.val_r, beq_self_eq_true]; rfl)

/- slices.Concat of three. -/
theorem Concat3_eq (a b c : List AV) (h : a.length + b.length + c.length < 17592186044416) : g_slices_Concat_byte_byte [.slice 1 (.int .u8) a .ro, .slice 1 (.int .u8) b .ro, .slice 1 (.int .u8) c .ro] = some (a ++ b ++ c) := by
  have e0 : getXs (List.getD [AV.slice 1 (.int .u8) a .ro, .slice 1 (.int .u8) b .ro, .slice 1 (.int .u8) c .ro] (Int.toNat 0) (.slice 1 (.int .u8) [] .ro)) = a := rfl
  have e1 : getXs (List.getD [AV.slice 1 (.int .u8) a .ro, .slice 1 (.int .u8) b .ro, .slice 1 (.int .u8) c .ro] (Int.toNat 1) (.slice 1 (.int .u8) [] .ro)) = b := rfl
  have e2 : getXs (List.getD [AV.slice 1 (.int .u8) a .ro, .slice 1 (.int .u8) b .ro, .slice 1 (.int .u8) c .ro] (Int.toNat 2) (.slice 1 (.int .u8) [] .ro)) = c := rfl
  have w0 : IntKind.i64.wrap (0 + (a.length : Int)) = a.length := by rw [Int.zero_add]; exact i64_wrap (by omega) (by omega)
  have w1 : IntKind.i64.wrap ((a.length : Int) + b.length) = ((a.length + b.length : Nat) : Int) := by rw [i64_wrap (by omega) (by omega)]; omega
  have w12 : IntKind.i64.wrap (((a.length + b.length : Nat) : Int) + c.length) = ((a.length + b.length + c.length : Nat) : Int) := by rw [i64_wrap (by omega) (by omega)]; omega
  have w2 : IntKind.i64.wrap (0 + 1) = 1 := rfl
  have w3 : IntKind.i64.wrap (1 + 1) = 2 := rfl
  have w4 : IntKind.i64.wrap (2 + 1) = 3 := rfl
  have n0 : ¬ ((a.length : Int) < 0) := by omega
  have n1 : ¬ (((a.length + b.length : Nat) : Int) < 0) := by omega
  have n2 : ¬ (((a.length + b.length + c.length : Nat) : Int) < 0) := by omega
  have l0 : a.length * 2 < 70368744177664 := by omega
  have l1 : (a.length + b.length) * 2 < 70368744177664 := by omega
  have l2 : (a.length + b.length + c.length) * 2 < 70368744177664 := by omega
  have gr := Grow_eq (((a.length + b.length + c.length : Nat) : Int)) (by omega) (by omega)
  unfold g_slices_Concat_byte_byte
  rw [run_inl (s := .inl (0, 0)) rfl]
  rw [run_inl (s := .inl ((a.length : Int), 1)) (by simp only [M_slices_Concat_byte_byte, Tr.val_c, Tr.val_r, e0, w0, w2, n0]; rfl)]
  rw [run_inl (s := .inl (((a.length + b.length : Nat) : Int), 2)) (by simp only [M_slices_Concat_byte_byte, Tr.val_c, Tr.val_r, e1, w1, w3, n1]; rfl)]
  rw [run_inl (s := .inl (((a.length + b.length + c.length : Nat) : Int), 3)) (by simp only [M_slices_Concat_byte_byte, Tr.val_c, Tr.val_r, e2, w12, w4, n2]; rfl)]
  rw [run_inl (s := .inr ([], 0)) (by simp only [M_slices_Concat_byte_byte, Tr.val_c, Tr.val_r, gr, opt_some]; rfl)]
  rw [run_inl (s := .inr (a, 1)) (by simp only [M_slices_Concat_byte_byte, Tr.val_c, Tr.val_r, e0, w2, List.nil_append, l0, decide_true, beq_self_eq_true]; rfl)]
  rw [run_inl (s := .inr (a ++ b, 2)) (by simp only [M_slices_Concat_byte_byte, Tr.val_c, Tr.val_r, e1, w3, List.length_append, l1, decide_true, beq_self_eq_true]; rfl)]
  rw [run_inl (s := .inr (a ++ b ++ c, 3)) (by simp only [M_slices_Concat_byte_byte, Tr.val_c, Tr.val_r, e2, w4, List.length_append, l2, decide_true, beq_self_eq_true]; rfl)]
  exact run_inr (by simp only [M_slices_Concat_byte_byte, Tr.val_c, Tr.val_r, beq_self_eq_true]; rfl)

/- the cursor -/
theorem shr8 (v : Int) : ∀ i : Nat, i < 8 → IntKind.u8.wrap (shrA .u64 v (8 * (i : Int))) = v / 256 ^ i % 256
  | 0, _ => by rw [u8_mod]; show v.fdiv 1 % 256 = _; rw [Int.fdiv_eq_ediv_of_nonneg _ (by decide)]; rfl
  | 1, _ => by rw [u8_mod]; show v.fdiv 256 % 256 = _; rw [Int.fdiv_eq_ediv_of_nonneg _ (by decide)]; rfl
  | 2, _ => by rw [u8_mod]; show v.fdiv 65536 % 256 = _; rw [Int.fdiv_eq_ediv_of_nonneg _ (by decide)]; rfl
  | 3, _ => by rw [u8_mod]; show v.fdiv 16777216 % 256 = _; rw [Int.fdiv_eq_ediv_of_nonneg _ (by decide)]; rfl
  | 4, _ => by rw [u8_mod]; show v.fdiv 4294967296 % 256 = _; rw [Int.fdiv_eq_ediv_of_nonneg _ (by decide)]; rfl
  | 5, _ => by rw [u8_mod]; show v.fdiv 1099511627776 % 256 = _; rw [Int.fdiv_eq_ediv_of_nonneg _ (by decide)]; rfl
  | 6, _ => by rw [u8_mod]; show v.fdiv 281474976710656 % 256 = _; rw [Int.fdiv_eq_ediv_of_nonneg _ (by decide)]; rfl
  | 7, _ => by rw [u8_mod]; show v.fdiv 72057594037927936 % 256 = _; rw [Int.fdiv_eq_ediv_of_nonneg _ (by decide)]; rfl
  | n + 8, h => by omega

/-- The lowest bytes of a number, the highest first. -/
def bex (v : Int) : Nat → List AV
  | 0 => []
  | i + 1 => .int .u8 (v / 256 ^ i % 256) :: bex v i
@[simp] theorem length_bex (v : Int) (i : Nat) : (bex v i).length = i := by induction i <;> simp [bex, *]

theorem set_last (r : List AV) (x y : AV) (j : Nat) : (List.replicate (j + 1) x ++ r).set j y = List.replicate j x ++ y :: r := by
  induction j with
  | zero => rfl
  | succ j ih => rw [List.replicate_succ (n := j + 1), List.cons_append, List.set_cons_succ, ih]; rfl

theorem Put_eq (x0 : List AV) (v n : Int) (m : Nat) (hx : x0.length < 8796093022208) (hm : m ≤ 8) (hn : (if 8 < (if 0 > n then 0 else n) then 8 else if 0 > n then 0 else n) = (m : Int)) : g_cursor_Put x0 v n = some (x0 ++ bex v m) := by
  unfold g_cursor_Put
  have hr : m * 2 < 70368744177664 := by omega
  have h0 : (0 : Int) ≤ m := by omega
  rw [run_inl (s := ((m : Int), (m : Int), List.replicate m (.int .u8 0), 0))]
  rotate_left
  · simp only [T_cursor_Put, Tr.val_c, Tr.val_r, hn, h0, Int.toNat_natCast, List.length_replicate, hr, decide_true, cond_true, beq_self_eq_true]
  have key : ∀ k i, i + k = m → run (M_cursor_Put x0 v n) (M_cursor_Put x0 v n ((m : Int), (m : Int), List.replicate k (.int .u8 0) ++ bex v i, (i : Int))) = some (x0 ++ bex v m) := by
    intro k
    induction k with
    | zero =>
      intro i hi
      have : i = m := by omega
      subst this
      have hlt : ¬ ((i : Int) < i) := by omega
      have hc := Concat_eq x0 (bex v i) (by simp; omega)
      exact run_inr (by simp only [M_cursor_Put, Tr.val_c, Tr.val_r, hlt, List.replicate_zero, List.nil_append, val_opt, hc, Option.bind_some, decide_false, cond_false, beq_self_eq_true, cond_true])
    | succ k ih =>
      intro i hi
      have q1 : (i : Int) < m := by omega
      have w1 : IntKind.i64.wrap (8 * (i : Int)) = 8 * i := i64_wrap (by omega) (by omega)
      have w2 : IntKind.i64.wrap ((m : Int) - 1) = m - 1 := i64_wrap (by omega) (by omega)
      have w3 : IntKind.i64.wrap ((m : Int) - 1 - i) = (k : Int) := by rw [i64_wrap (by omega) (by omega)]; omega
      have w4 : IntKind.i64.wrap ((i : Int) + 1) = ((i + 1 : Nat) : Int) := by rw [i64_wrap (by omega) (by omega)]; omega
      have q2 : (0 : Int) ≤ 8 * i := by omega
      have q3 : (0 : Int) ≤ k := by omega
      have hl : (List.replicate (k + 1) (AV.int .u8 0) ++ bex v i).length = m := by simp; omega
      have hl2 : (List.replicate k (AV.int .u8 0) ++ AV.int .u8 (v / 256 ^ i % 256) :: bex v i).length = m := by simp; omega
      have q4 : (k : Int) < m := by omega
      have q5 : k < m := by omega
      rw [run_inl (s := ((m : Int), (m : Int), List.replicate k (.int .u8 0) ++ bex v (i + 1), ((i + 1 : Nat) : Int)))]
      · exact ih (i + 1) (by omega)
      · simp only [M_cursor_Put, Tr.val_c, Tr.val_r, q1, w1, w2, w3, w4, q2, q3, q4, q5, hl, Int.toNat_natCast, shr8 v i (by omega), decide_true, cond_true, beq_self_eq_true, set_last, hl2]
        rfl
  have := key m 0 (by omega)
  simpa [bex] using this

theorem take_eq (n : Int) (b : List AV) (k : Nat) (hk : k ≤ b.length) (hb : b.length < 8796093022208) :
    g_cursor_Cursor_take_p0500 n b k = some (if n < 0 then ([], 1, b, (k : Int)) else if n > b.length - k then ([], 3, b, (k : Int)) else ((b.drop k).take n.toNat, 0, b, (k : Int) + n)) := by
  unfold g_cursor_Cursor_take_p0500
  have w0 : IntKind.i64.wrap ((b.length : Int) - k) = b.length - k := i64_wrap (by omega) (by omega)
  by_cases h1 : n < 0
  · simp only [T_cursor_Cursor_take_p0500, Tr.val_c, Tr.val_r, h1, decide_true, cond_true, if_true]
  · by_cases h2 : n > (b.length : Int) - k
    · simp only [T_cursor_Cursor_take_p0500, Tr.val_c, Tr.val_r, h1, h2, w0, decide_true, decide_false, cond_true, cond_false, if_true, if_false]
    · have w1 : IntKind.i64.wrap ((k : Int) + n) = k + n := i64_wrap (by omega) (by omega)
      have w2 : IntKind.i64.wrap ((k : Int) + n - n) = k := by rw [i64_wrap (by omega) (by omega)]; omega
      have q1 : (0 : Int) ≤ k + n := by omega
      have q2 : (k : Int) + n ≤ b.length := by omega
      have q3 : (0 : Int) ≤ k := by omega
      have q4 : (k : Int) ≤ k + n := by omega
      have hd : ((b.take ((k : Int) + n).toNat).drop (k : Int).toNat) = (b.drop k).take n.toNat := by
        rw [List.drop_take]; congr 1; omega
      simp only [T_cursor_Cursor_take_p0500, Tr.val_c, Tr.val_r, h1, h2, w0, w1, w2, q1, q2, q3, q4, hd, decide_true, decide_false, cond_true, cond_false, if_false]

theorem read_eq (n : Int) (b : List AV) (k : Int) : g_cursor_read_ftake_0p500 n b k = g_cursor_Cursor_take_p0500 n b k := by
  conv => lhs; unfold g_cursor_read_ftake_0p500
  simp only [T_cursor_read_ftake_0p500, Tr.val_c, Tr.val_r, val_opt]
  cases g_cursor_Cursor_take_p0500 n b k <;> rfl

/-- The number that bytes are. -/
def numOf (l : List AV) : Int := l.foldl (fun a x => bitsA .or .u64 (shlA .u64 a 8) (IntKind.u64.wrap (getI x))) 0

theorem Number_eq (n : Int) (b : List AV) (k : Nat) (hk : k ≤ b.length) (hb : b.length < 8796093022208) :
    g_cursor_Cursor_Number_p0500 n b k = some (if n < 1 then (0, 1, b, (k : Int)) else if n > 8 then (0, 1, b, (k : Int)) else if n > b.length - k then (0, 3, b, (k : Int)) else (numOf ((b.drop k).take n.toNat), 0, b, (k : Int) + n)) := by
  unfold g_cursor_Cursor_Number_p0500
  by_cases h1 : n < 1
  · rw [run_inr (x := (0, 1, b, (k : Int))) (by simp only [T_cursor_Cursor_Number_p0500, Tr.val_c, Tr.val_r, h1, decide_true, cond_true])]
    simp [h1]
  by_cases h2 : n > 8
  · rw [run_inr (x := (0, 1, b, (k : Int))) (by simp only [T_cursor_Cursor_Number_p0500, Tr.val_c, Tr.val_r, h1, h2, decide_true, decide_false, cond_true, cond_false])]
    simp [h1, h2]
  have loop : ∀ (e : Int) (l : List AV) (b2 : List AV) (at' : Int), l.length < 8796093022208 → ∀ m i v, i + m = l.length → run (M_cursor_Cursor_Number_p0500 n b k) (M_cursor_Cursor_Number_p0500 n b k (e, l, (l.length : Int), b2, at', v, (i : Int))) =
      some ((l.drop i).foldl (fun a x => bitsA .or .u64 (shlA .u64 a 8) (IntKind.u64.wrap (getI x))) v, e, b2, at') := by
    intro e l b2 at' hl m
    induction m with
    | zero =>
      intro i v hi
      have hlt : ¬ ((i : Int) < l.length) := by omega
      rw [List.drop_of_length_le (by omega)]
      exact run_inr (by simp only [M_cursor_Cursor_Number_p0500, Tr.val_c, Tr.val_r, hlt, decide_false, cond_false]; rfl)
    | succ m ih =>
      intro i v hi
      have q1 : (i : Int) < l.length := by omega
      have q2 : (0 : Int) ≤ i := by omega
      have q3 : i < l.length := by omega
      have w : IntKind.i64.wrap ((i : Int) + 1) = ((i + 1 : Nat) : Int) := by rw [i64_wrap (by omega) (by omega)]; omega
      have hg : l.getD i (.int .u8 0) = l[i] := by simp [List.getD_eq_getElem?_getD, q3]
      rw [run_inl (s := (e, l, (l.length : Int), b2, at', bitsA .or .u64 (shlA .u64 v 8) (IntKind.u64.wrap (getI l[i])), ((i + 1 : Nat) : Int))) (by simp only [M_cursor_Cursor_Number_p0500, Tr.val_c, Tr.val_r, q1, q2, w, hg, Int.toNat_natCast, decide_true, cond_true]), ih (i + 1) _ (by omega), List.drop_eq_getElem_cons q3, List.foldl_cons]
  have ht := take_eq n b k hk hb
  have h0 : ¬ n < 0 := by omega
  by_cases h3 : n > (b.length : Int) - k
  · rw [run_inl (s := (3, [], ((([] : List AV).length : Nat) : Int), b, (k : Int), 0, ((0 : Nat) : Int)))]
    · rw [loop 3 [] b k (by simp) 0 0 0 rfl]
      simp [h1, h2, h3]
    · simp only [T_cursor_Cursor_Number_p0500, Tr.val_c, Tr.val_r, val_opt, h1, h2, h0, h3, read_eq, ht, Option.bind_some, if_true, if_false, decide_false, cond_false]
      rfl
  · rw [run_inl (s := (0, (b.drop k).take n.toNat, ((((b.drop k).take n.toNat).length : Nat) : Int), b, (k : Int) + n, 0, ((0 : Nat) : Int)))]
    · rw [loop 0 _ b _ (by simp only [List.length_take, List.length_drop]; omega) ((b.drop k).take n.toNat).length 0 0 (by omega)]
      simp only [h1, h2, h3, if_false, List.drop_zero, numOf]
    · simp only [T_cursor_Cursor_Number_p0500, Tr.val_c, Tr.val_r, val_opt, h1, h2, h0, h3, read_eq, ht, Option.bind_some, if_true, if_false, decide_false, cond_false]
      rfl

theorem New_eq (b : List AV) (hb : b.length < 8796093022208) : g_cursor_New b = some (b, 0) := by
  have : b.length * 2 < 70368744177664 := by omega
  unfold g_cursor_New
  simp only [T_cursor_New, Tr.val_c, Tr.val_r, this, decide_true, cond_true]


theorem Take_eq (n : Int) (b : List AV) (k : Nat) (hk : k ≤ b.length) (hb : b.length < 8796093022208) :
    g_cursor_Cursor_Take_p0500 n b k = some (if n < 0 then ([], 1, b, (k : Int)) else if n > b.length - k then ([], 3, b, (k : Int)) else ((b.drop k).take n.toNat, 0, b, (k : Int) + n)) := by
  have h := take_eq n b k hk hb
  have hl : ∀ m : Nat, ((b.drop k).take m).length * 2 < 70368744177664 := by
    intro m; simp only [List.length_take, List.length_drop]; omega
  unfold g_cursor_Cursor_Take_p0500
  simp only [T_cursor_Cursor_Take_p0500, Tr.val_c, Tr.val_r, val_opt, read_eq, h, Option.bind_some]
  by_cases h1 : n < 0
  · simp [h1]
  · by_cases h2 : n > (b.length : Int) - k
    · simp [h1, h2]
    · simp only [h1, h2, if_false, hl, decide_true, cond_true]


theorem foldl_bex (v : Nat) : ∀ (i a : Nat), i ≤ 8 → a < 256 ^ (8 - i) → (bex (v : Int) i).foldl (fun a x => bitsA .or .u64 (shlA .u64 a 8) (IntKind.u64.wrap (getI x))) (a : Int) = ((a * 256 ^ i + v % 256 ^ i : Nat) : Int)
  | 0, a, _, _ => by
    show (a : Int) = _
    rw [Nat.pow_zero, Nat.mod_one, Nat.mul_one, Nat.add_zero]
  | i + 1, a, hi, ha => by
    have e8 : 8 - i = (8 - (i + 1)) + 1 := by omega
    have hp : 256 ^ (8 - i) = 256 * 256 ^ (8 - (i + 1)) := by rw [e8, Nat.pow_succ, Nat.mul_comm]
    have h7 : 256 ^ (8 - (i + 1)) ≤ 256 ^ 7 := Nat.pow_le_pow_right (by omega) (by omega)
    have hy : v / 256 ^ i % 256 < 256 := Nat.mod_lt _ (by omega)
    have hb := byte_behind (a := a) (y := v / 256 ^ i % 256) (by omega) hy
    have hc : ((v : Int) / 256 ^ i % 256) = ((v / 256 ^ i % 256 : Nat) : Int) := by rw [Int.natCast_emod, Int.natCast_ediv, Int.natCast_pow]; rfl
    rw [bex, List.foldl_cons, getI_int, hc, hb, foldl_bex v i _ (by omega) (by rw [hp]; omega)]
    congr 1
    rw [Nat.pow_succ, Nat.mod_mul, Nat.add_mul, Nat.mul_assoc, Nat.mul_comm 256 (256 ^ i), Nat.mul_comm (v / 256 ^ i % 256)]
    omega

theorem numOf_bex (v n : Nat) (hn : n ≤ 8) : numOf (bex (v : Int) n) = ((v % 256 ^ n : Nat) : Int) := by
  have := foldl_bex v n 0 hn (Nat.pow_pos (by omega))
  unfold numOf
  rw [Nat.zero_mul, Nat.zero_add] at this
  exact this

theorem refPut_eq (x0 : List AV) (v n : Int) (m : Nat) (hx : x0.length < 8796093022208) (hm : m ≤ 8) (hn : (if (if 8 < n then 8 else n) > 0 then (if 8 < n then 8 else n) else 0) = (m : Int)) : g_comptoirref01_Put x0 v n = some (x0 ++ bex v m) := by
  unfold g_comptoirref01_Put
  have l0 : x0.length * 2 < 70368744177664 := by omega
  have w0 : IntKind.i64.wrap ((m : Int) - 1) = (m : Int) - 1 := i64_wrap (by omega) (by omega)
  rw [run_inl (s := ((m : Int) - 1, x0)) (by simp only [T_comptoirref01_Put, Tr.val_c, Tr.val_r, l0, hn, w0, decide_true, cond_true])]
  have key : ∀ (i : Nat) (l : List AV), i ≤ 8 → l ++ bex v i = x0 ++ bex v m → run (M_comptoirref01_Put x0 v n) (M_comptoirref01_Put x0 v n ((i : Int) - 1, l)) = some (x0 ++ bex v m) := by
    intro i
    induction i with
    | zero =>
      intro l _ hl
      have : ¬ (((0 : Nat) : Int) - 1 ≥ 0) := by omega
      rw [← hl, bex, List.append_nil]
      exact run_inr (by simp only [M_comptoirref01_Put, Tr.val_c, Tr.val_r, this, decide_false, cond_false, beq_self_eq_true, cond_true])
    | succ i ih =>
      intro l hi hl
      have e : ((i + 1 : Nat) : Int) - 1 = (i : Int) := by omega
      have q1 : (i : Int) ≥ 0 := by omega
      have w1 : IntKind.u64.wrap (IntKind.i64.wrap (8 * (i : Int))) = 8 * (i : Int) := by rw [i64_wrap (by omega) (by omega), u64_wrap (by omega) (by omega)]
      have w2 : IntKind.i64.wrap ((i : Int) - 1) = (i : Int) - 1 := i64_wrap (by omega) (by omega)
      have q2 : (0 : Int) ≤ 8 * (i : Int) := by omega
      have hlen : l.length ≤ x0.length + 8 := by
        have := congrArg List.length hl
        simp at this; omega
      have l1 : (l ++ [AV.int .u8 (v / 256 ^ i % 256)]).length * 2 < 70368744177664 := by simp; omega
      rw [e, run_inl (s := ((i : Int) - 1, l ++ [.int .u8 (v / 256 ^ i % 256)])) (by
        simp only [M_comptoirref01_Put, Tr.val_c, Tr.val_r, q1, w1, w2, q2, shr8 v i (by omega), l1, decide_true, cond_true, beq_self_eq_true])]
      exact ih _ (by omega) (by rw [List.append_assoc]; exact hl)
  exact key m x0 hm rfl


/- tags -/
@[simp] theorem length_bl (b : List UInt8) : (bl b).length = b.length := by simp [bl]
def tg (t : Int) (d : List AV) : AV := .agg [.int .i64 t, .slice 1 (.int .u8) d .ro]
@[simp] theorem tg_tag (t : Int) (d : List AV) : getI (getF (tg t d) 0) = t := rfl
@[simp] theorem tg_data (t : Int) (d : List AV) : getXs (getF (tg t d) 1) = d := rfl
def knownA (l : List AV) (t : Int) : Bool := l.any fun x => getI (getF x 0) == t
def AG : AV := .agg [.int .i64 0, .slice 1 (.int .u8) [] .ro]

/-- So many bytes a tag has; 0: it is none. -/
def rightN (t : Int) : Int :=
  if 0 < t ∧ t < 255 ∧ (bitsA .and .i64 t 31 != 31) = true then 1
  else if 255 < t ∧ shrA .i64 t 8 < 255 ∧ (bitsA .and .i64 (shrA .i64 t 8) 31 == 31) = true ∧ bitsA .and .i64 t 255 < 128 then 2 else 0

theorem more_eq (x : Int) : g_tlv_more x = some (bif bitsA .and .i64 x 31 == 31 then x != 255 else false) := by
  unfold g_tlv_more
  simp only [T_tlv_more, Tr.val_c, Tr.val_r]
  cases (bitsA .and .i64 x 31 == 31) <;> rfl

theorem right_eq (t : Int) : g_tlv_right t = some (rightN t != 0) := by
  unfold g_tlv_right rightN
  simp only [T_tlv_right, Tr.val_c, Tr.val_r, val_opt, more_eq, Option.bind_some]
  by_cases h1 : t > 0
  · by_cases h2 : t < 255
    · have h3 : ¬ (t > 255) := by omega
      cases h4 : (bitsA .and .i64 t 31 != 31) with
      | true => simp [h1, h2]
      | false => simp [h1, h2]; omega
    · by_cases h3 : t > 255
      · by_cases h5 : shrA .i64 t 8 < 255
        · have h6 : (shrA .i64 t 8 != 255) = true := by rw [bne_iff_ne]; omega
          cases h7 : (bitsA .and .i64 (shrA .i64 t 8) 31 == 31) with
          | true => by_cases h8 : bitsA .and .i64 t 255 < 128 <;> simp [h1, h2, h3, h5, h6, h8]
          | false => simp [h1, h2, h3, h5]
        · simp [h1, h2, h3, h5]
      · have : t = 255 := by omega
        subst this
        rfl
  · have h3 : ¬ (t > 255) := by omega
    by_cases h5 : shrA .i64 t 8 < 255 <;> simp [h1, h3, h5]

theorem index_eq (l : List AV) (t : Int) (hl : l.length < 8796093022208) : ∃ r : Int, g_slices_IndexFunc_api_Tag_api_Tag_0fthere1_p50 l t = some (r, t) ∧ decide (r ≥ 0) = knownA l t := by
  unfold g_slices_IndexFunc_api_Tag_api_Tag_0fthere1_p50
  have key : ∀ k i : Nat, i + k = l.length → ∃ r : Int, run (M_slices_IndexFunc_api_Tag_api_Tag_0fthere1_p50 l t) (M_slices_IndexFunc_api_Tag_api_Tag_0fthere1_p50 l t (i : Int)) = some (r, t) ∧ decide (r ≥ 0) = knownA (l.drop i) t := by
    intro k
    induction k with
    | zero =>
      intro i hi
      have q : ¬ ((i : Int) < l.length) := by omega
      refine ⟨-1, run_inr (by simp only [M_slices_IndexFunc_api_Tag_api_Tag_0fthere1_p50, Tr.val_c, Tr.val_r, q, decide_false, cond_false]), ?_⟩
      rw [List.drop_of_length_le (by omega)]; rfl
    | succ k ih =>
      intro i hi
      have q : (i : Int) < l.length := by omega
      have q0 : (0 : Int) ≤ i := by omega
      have q3 : i < l.length := by omega
      have w : IntKind.i64.wrap ((i : Int) + 1) = ((i + 1 : Nat) : Int) := by rw [i64_wrap (by omega) (by omega)]; omega
      have hg : l.getD i (.agg [.int .i64 0, .slice 1 (.int .u8) [] .ro]) = l[i] := by simp [List.getD_eq_getElem?_getD, q3]
      have hd : knownA (l.drop i) t = (getI (getF l[i] 0) == t || knownA (l.drop (i + 1)) t) := by rw [List.drop_eq_getElem_cons q3]; rfl
      cases hx : (getI (getF l[i] 0) == t) with
      | true =>
        refine ⟨(i : Int), run_inr (by simp only [M_slices_IndexFunc_api_Tag_api_Tag_0fthere1_p50, Tr.val_c, Tr.val_r, q, q0, Int.toNat_natCast, hg, hx, decide_true, cond_true]), ?_⟩
        rw [hd, hx, Bool.true_or]; simp
      | false =>
        obtain ⟨r, h1, h2⟩ := ih (i + 1) (by omega)
        refine ⟨r, ?_, by rw [hd, hx, Bool.false_or]; exact h2⟩
        rw [run_inl (s := ((i + 1 : Nat) : Int)) (by simp only [M_slices_IndexFunc_api_Tag_api_Tag_0fthere1_p50, Tr.val_c, Tr.val_r, q, q0, Int.toNat_natCast, hg, hx, w, decide_true, cond_true, cond_false])]
        exact h1
  obtain ⟨r, h1, h2⟩ := key l.length 0 (by omega)
  refine ⟨r, ?_, by simpa using h2⟩
  rw [run_inl (s := ((0 : Nat) : Int)) rfl]
  exact h1

theorem there_eq (l : List AV) (t : Int) (hl : l.length < 8796093022208) : g_tlv_there l t = some (knownA l t) := by
  obtain ⟨r, h1, h2⟩ := index_eq l t hl
  have c : g_slices_ContainsFunc_api_Tag_api_Tag_0fthere1_p50 l t = some (knownA l t, t) := by
    unfold g_slices_ContainsFunc_api_Tag_api_Tag_0fthere1_p50
    simp only [T_slices_ContainsFunc_api_Tag_api_Tag_0fthere1_p50, Tr.val_r, val_opt, h1, h2, Option.bind_some]
  unfold g_tlv_there
  simp only [T_tlv_there, Tr.val_r, val_opt, c, Option.bind_some]

theorem num1 (b : List UInt8) (k : Nat) (hk : k ≤ b.length) (hb : b.length < 1000000) :
    g_cursor_Cursor_Number_p0500 1 (bl b) (k : Int) = some (if k < b.length then (((b.getD k 0).toNat : Int), 0, bl b, ((k + 1 : Nat) : Int)) else (0, 3, bl b, (k : Int))) := by
  have n := Number_eq 1 (bl b) k (by rw [length_bl]; exact hk) (by rw [length_bl]; omega)
  rw [if_neg (by decide), if_neg (by decide)] at n
  rw [n]
  by_cases h : k < b.length
  · rw [if_pos h, if_neg (by rw [length_bl]; omega)]
    have e : ((bl b).drop k).take (1 : Int).toNat = [.int .u8 ((b.getD k 0).toNat : Int)] := by
      have q3 : k < (bl b).length := by rw [length_bl]; exact h
      rw [List.drop_eq_getElem_cons q3]
      show [(bl b)[k]] = _
      have := bl_getD (b := b) (i := k)
      rw [List.getD_eq_getElem?_getD, List.getElem?_eq_getElem q3, Option.getD_some] at this
      rw [this]
    have e1 := byte_behind (a := 0) (y := (b.getD k 0).toNat) (by omega) (b.getD k 0).toNat_lt
    have e2 : numOf [.int .u8 ((b.getD k 0).toNat : Int)] = (((b.getD k 0).toNat : Nat) : Int) := by
      rw [Nat.zero_mul, Nat.zero_add] at e1
      exact e1
    rw [e, e2]
    rfl
  · rw [if_neg h, if_pos (by rw [length_bl]; omega)]

def moreB (f : Nat) : Bool := bif bitsA .and .i64 (f : Int) 31 == 31 then (f : Int) != 255 else false

/-- A tag that is read. -/
def tagV (b : List UInt8) (k : Nat) : Int × Nat := bif moreB (b.getD k 0).toNat then (bitsA .or .i64 (shlA .i64 ((b.getD k 0).toNat : Int) 8) ((b.getD (k + 1) 0).toNat : Int), k + 2) else (((b.getD k 0).toNat : Int), k + 1)
def tagR (b : List UInt8) (k : Nat) (l : List AV) : Int × Int × Nat :=
  if b.length ≤ k then (0, 3, k) else if moreB (b.getD k 0).toNat = true ∧ b.length ≤ k + 1 then (0, 3, k + 1)
  else if rightN (tagV b k).1 = 0 ∨ knownA l (tagV b k).1 = true then (0, 18, (tagV b k).2) else ((tagV b k).1, 0, (tagV b k).2)
/-- A length that is read. -/
def sizeR (b : List UInt8) (k : Nat) : Nat × Int × Nat :=
  if b.length ≤ k then (0, 3, k) else if (b.getD k 0).toNat < 128 then ((b.getD k 0).toNat, 0, k + 1) else if (b.getD k 0).toNat ≠ 129 then (0, 17, k + 1)
  else if b.length ≤ k + 1 then (0, 3, k + 1) else if (b.getD (k + 1) 0).toNat < 128 then (0, 17, k + 2) else ((b.getD (k + 1) 0).toNat, 0, k + 2)
/-- A tag with its bytes that is read. -/
def stepR (b : List UInt8) (k : Nat) (l : List AV) : Int × Nat × List AV :=
  if 20 ≤ l.length then (4, k, l) else if (tagR b k l).2.1 ≠ 0 then ((tagR b k l).2.1, (tagR b k l).2.2, l)
  else if (sizeR b (tagR b k l).2.2).2.1 ≠ 0 then ((sizeR b (tagR b k l).2.2).2.1, (sizeR b (tagR b k l).2.2).2.2, l)
  else if b.length < (sizeR b (tagR b k l).2.2).2.2 + (sizeR b (tagR b k l).2.2).1 then (3, (sizeR b (tagR b k l).2.2).2.2, l)
  else (0, (sizeR b (tagR b k l).2.2).2.2 + (sizeR b (tagR b k l).2.2).1, l ++ [tg (tagR b k l).1 (bl ((b.drop (sizeR b (tagR b k l).2.2).2.2).take (sizeR b (tagR b k l).2.2).1))])
def parseR (b : List UInt8) : Nat → Nat → List AV → List AV × Int
  | 0, _, l => (l, 0)
  | m + 1, k, l => if b.length ≤ k then (l, 0) else if (stepR b k l).1 ≠ 0 then ([], (stepR b k l).1) else parseR b m (stepR b k l).2.1 (stepR b k l).2.2

theorem byte64 (c : UInt8) : IntKind.i64.wrap (c.toNat : Int) = (c.toNat : Int) := by
  have := c.toNat_lt; exact i64_wrap (by omega) (by omega)

theorem tagV_le (b : List UInt8) (k : Nat) : k + 1 ≤ (tagV b k).2 ∧ (tagV b k).2 ≤ k + 2 := by
  unfold tagV; cases moreB (b.getD k 0).toNat <;> simp

theorem tag_eq (b : List UInt8) (k : Nat) (l : List AV) (hk : k ≤ b.length) (hb : b.length < 1000000) (hl : l.length < 2000000) :
    g_tlv_walk_tag_p5p0 (bl b) (k : Int) l = some ((tagR b k l).1, (tagR b k l).2.1, bl b, ((tagR b k l).2.2 : Int), l) := by
  have n := num1 b k hk hb
  unfold g_tlv_walk_tag_p5p0 tagR
  by_cases h : k < b.length
  · rw [if_pos h] at n
    rw [if_neg (by omega)]
    have m := more_eq ((b.getD k 0).toNat : Int)
    have hm : moreB (b.getD k 0).toNat = (bif bitsA .and .i64 ((b.getD k 0).toNat : Int) 31 == 31 then ((b.getD k 0).toNat : Int) != 255 else false) := rfl
    rw [← hm] at m
    cases hmb : moreB (b.getD k 0).toNat with
    | true =>
      rw [hmb] at m
      have n2 := num1 b (k + 1) (by omega) hb
      by_cases h2 : k + 1 < b.length
      · rw [if_pos h2] at n2
        rw [if_neg (by omega)]
        have r := right_eq (tagV b k).1
        have t := there_eq l (tagV b k).1 (by omega)
        have hv : tagV b k = (bitsA .or .i64 (shlA .i64 ((b.getD k 0).toNat : Int) 8) ((b.getD (k + 1) 0).toNat : Int), k + 2) := by unfold tagV; rw [hmb]; rfl
        rw [hv] at r t ⊢
        by_cases hr : rightN (bitsA .or .i64 (shlA .i64 ((b.getD k 0).toNat : Int) 8) ((b.getD (k + 1) 0).toNat : Int)) = 0
        · rw [if_pos (.inl hr)]
          have hr' : (rightN (bitsA .or .i64 (shlA .i64 ((b.getD k 0).toNat : Int) 8) ((b.getD (k + 1) 0).toNat : Int)) != 0) = false := by rw [hr]; rfl
          simp only [T_tlv_walk_tag_p5p0, Tr.val_c, Tr.val_r, val_opt, n, n2, m, r, hr', byte64, Option.bind_some, bne_self_eq_false, beq_self_eq_true, Bool.not_false, cond_true, cond_false]
        · have hr' : (rightN (bitsA .or .i64 (shlA .i64 ((b.getD k 0).toNat : Int) 8) ((b.getD (k + 1) 0).toNat : Int)) != 0) = true := by rw [bne_iff_ne]; exact hr
          cases hkn : knownA l (bitsA .or .i64 (shlA .i64 ((b.getD k 0).toNat : Int) 8) ((b.getD (k + 1) 0).toNat : Int)) with
          | true =>
            rw [if_pos (.inr rfl)]
            rw [hkn] at t
            simp only [T_tlv_walk_tag_p5p0, Tr.val_c, Tr.val_r, val_opt, n, n2, m, r, hr', t, byte64, Option.bind_some, bne_self_eq_false, beq_self_eq_true, Bool.not_true, cond_true, cond_false]
          | false =>
            rw [if_neg (by rintro (h | h); exact hr h; exact absurd h (by decide))]
            rw [hkn] at t
            simp only [T_tlv_walk_tag_p5p0, Tr.val_c, Tr.val_r, val_opt, n, n2, m, r, hr', t, byte64, Option.bind_some, bne_self_eq_false, beq_self_eq_true, Bool.not_true, cond_true, cond_false]
      · rw [if_neg h2] at n2
        rw [if_pos ⟨rfl, by omega⟩]
        have e3 : ((3 : Int) != 0) = true := rfl
        simp only [T_tlv_walk_tag_p5p0, Tr.val_c, Tr.val_r, val_opt, n, n2, m, e3, byte64, Option.bind_some, bne_self_eq_false, beq_self_eq_true, cond_true, cond_false]
    | false =>
      rw [hmb] at m
      rw [if_neg (fun h => absurd h.1 (by decide))]
      have r := right_eq ((b.getD k 0).toNat : Int)
      have t := there_eq l ((b.getD k 0).toNat : Int) (by omega)
      have hv : tagV b k = (((b.getD k 0).toNat : Int), k + 1) := by unfold tagV; rw [hmb]; rfl
      rw [hv]
      by_cases hr : rightN ((b.getD k 0).toNat : Int) = 0
      · rw [if_pos (.inl hr)]
        have hr' : (rightN ((b.getD k 0).toNat : Int) != 0) = false := by rw [hr]; rfl
        simp only [T_tlv_walk_tag_p5p0, Tr.val_c, Tr.val_r, val_opt, n, m, r, hr', byte64, Option.bind_some, bne_self_eq_false, beq_self_eq_true, Bool.not_false, cond_true, cond_false]
      · have hr' : (rightN ((b.getD k 0).toNat : Int) != 0) = true := by rw [bne_iff_ne]; exact hr
        cases hkn : knownA l ((b.getD k 0).toNat : Int) with
        | true =>
          rw [if_pos (.inr rfl)]
          rw [hkn] at t
          simp only [T_tlv_walk_tag_p5p0, Tr.val_c, Tr.val_r, val_opt, n, m, r, hr', t, byte64, Option.bind_some, bne_self_eq_false, beq_self_eq_true, Bool.not_true, cond_true, cond_false]
        | false =>
          rw [if_neg (by rintro (h | h); exact hr h; exact absurd h (by decide))]
          rw [hkn] at t
          simp only [T_tlv_walk_tag_p5p0, Tr.val_c, Tr.val_r, val_opt, n, m, r, hr', t, byte64, Option.bind_some, bne_self_eq_false, beq_self_eq_true, Bool.not_true, cond_true, cond_false]
  · rw [if_neg h] at n
    rw [if_pos (by omega)]
    have e3 : ((3 : Int) != 0) = true := rfl
    simp only [T_tlv_walk_tag_p5p0, Tr.val_c, Tr.val_r, val_opt, n, e3, Option.bind_some, beq_self_eq_true, cond_true]

theorem size_eq (b : List UInt8) (k : Nat) (l : List AV) (hk : k ≤ b.length) (hb : b.length < 1000000) :
    g_tlv_walk_size_p5p0 (bl b) (k : Int) l = some (((sizeR b k).1 : Int), (sizeR b k).2.1, bl b, ((sizeR b k).2.2 : Int), l) := by
  have n := num1 b k hk hb
  have e3 : ((3 : Int) != 0) = true := rfl
  unfold g_tlv_walk_size_p5p0 sizeR
  by_cases h : k < b.length
  · rw [if_pos h] at n
    rw [if_neg (by omega)]
    by_cases h1 : (b.getD k 0).toNat < 128
    · have q : ((b.getD k 0).toNat : Int) < 128 := by omega
      rw [if_pos h1]
      simp only [T_tlv_walk_size_p5p0, Tr.val_c, Tr.val_r, val_opt, n, q, byte64, Option.bind_some, bne_self_eq_false, beq_self_eq_true, decide_true, cond_true, cond_false]
    · have q : ¬ ((b.getD k 0).toNat : Int) < 128 := by omega
      rw [if_neg h1]
      by_cases h2 : (b.getD k 0).toNat = 129
      · have q2 : (((b.getD k 0).toNat : Int) != 129) = false := by rw [h2]; rfl
        rw [if_neg (by omega)]
        have n2 := num1 b (k + 1) (by omega) hb
        by_cases h3 : k + 1 < b.length
        · rw [if_pos h3] at n2
          rw [if_neg (by omega)]
          by_cases h4 : (b.getD (k + 1) 0).toNat < 128
          · have q4 : ((b.getD (k + 1) 0).toNat : Int) < 128 := by omega
            rw [if_pos h4]
            simp only [T_tlv_walk_size_p5p0, Tr.val_c, Tr.val_r, val_opt, n, n2, q, q2, q4, byte64, Option.bind_some, bne_self_eq_false, beq_self_eq_true, decide_true, decide_false, cond_true, cond_false]
            rfl
          · have q4 : ¬ ((b.getD (k + 1) 0).toNat : Int) < 128 := by omega
            rw [if_neg h4]
            simp only [T_tlv_walk_size_p5p0, Tr.val_c, Tr.val_r, val_opt, n, n2, q, q2, q4, byte64, Option.bind_some, bne_self_eq_false, beq_self_eq_true, decide_true, decide_false, cond_true, cond_false]
        · rw [if_neg h3] at n2
          rw [if_pos (by omega)]
          simp only [T_tlv_walk_size_p5p0, Tr.val_c, Tr.val_r, val_opt, n, n2, q, q2, e3, Option.bind_some, bne_self_eq_false, beq_self_eq_true, decide_false, cond_true, cond_false]
          rfl
      · have q2 : (((b.getD k 0).toNat : Int) != 129) = true := by rw [bne_iff_ne]; omega
        rw [if_pos h2]
        simp only [T_tlv_walk_size_p5p0, Tr.val_c, Tr.val_r, val_opt, n, q, q2, Option.bind_some, bne_self_eq_false, beq_self_eq_true, decide_false, cond_true, cond_false]
        rfl
  · rw [if_neg h] at n
    rw [if_pos (by omega)]
    simp only [T_tlv_walk_size_p5p0, Tr.val_c, Tr.val_r, val_opt, n, e3, Option.bind_some, beq_self_eq_true, cond_true]
    rfl

theorem tagR_le (b : List UInt8) (k : Nat) (l : List AV) (hk : k ≤ b.length) : (tagR b k l).2.2 ≤ b.length ∧ ((tagR b k l).2.1 = 0 → k + 1 ≤ (tagR b k l).2.2) := by
  have hv := tagV_le b k
  have hv2 : moreB (b.getD k 0).toNat = false → (tagV b k).2 = k + 1 := fun h => by unfold tagV; rw [h]; rfl
  unfold tagR
  split
  · exact ⟨by simpa using hk, fun h => by simp at h⟩
  · split
    · exact ⟨by simp; omega, fun h => by simp at h⟩
    · rename_i h1 h2
      have hle : (tagV b k).2 ≤ b.length := by
        cases hm : moreB (b.getD k 0).toNat with
        | true => have : ¬ b.length ≤ k + 1 := fun h => h2 ⟨hm, h⟩; omega
        | false => rw [hv2 hm]; omega
      split
      · exact ⟨hle, fun h => by simp at h⟩
      · exact ⟨hle, fun _ => hv.1⟩
theorem sizeR_le (b : List UInt8) (k : Nat) (hk : k ≤ b.length) : (sizeR b k).2.2 ≤ b.length ∧ (sizeR b k).1 < 256 ∧ k ≤ (sizeR b k).2.2 := by
  have h0 := (b.getD k 0).toNat_lt
  have h1 := (b.getD (k + 1) 0).toNat_lt
  unfold sizeR
  repeat' split
  all_goals exact ⟨by simp only; omega, by simp only; omega, by simp only; omega⟩

theorem step_eq (b : List UInt8) (k : Nat) (l : List AV) (hk : k ≤ b.length) (hb : b.length < 1000000) (hl : l.length < 2000000) :
    g_tlv_walk_step_p5p0 (bl b) (k : Int) l = some ((stepR b k l).1, bl b, ((stepR b k l).2.1 : Int), (stepR b k l).2.2) := by
  unfold g_tlv_walk_step_p5p0 stepR
  by_cases h20 : 20 ≤ l.length
  · have q : ((l.length : Int) ≥ 20) := by omega
    rw [if_pos h20]
    exact run_inr (by simp only [T_tlv_walk_step_p5p0, Tr.val_c, Tr.val_r, q, decide_true, beq_self_eq_true, cond_true])
  have q : ¬ ((l.length : Int) ≥ 20) := by omega
  rw [if_neg h20, run_inl (s := (0, bl b, (k : Int), 0, l, 0)) (by simp only [T_tlv_walk_step_p5p0, Tr.val_c, Tr.val_r, q, decide_false, cond_false])]
  have t := tag_eq b k l hk hb hl
  obtain ⟨tl1, tl2⟩ := tagR_le b k l hk
  generalize tagR b k l = TR at t tl1 tl2 ⊢
  obtain ⟨tv, te, tk⟩ := TR
  simp only at t tl1 tl2 ⊢
  have p0 : ((0 : Int) < 2) := by decide
  have p1 : ¬ ((0 : Int) = 1) := by decide
  by_cases hte : te = 0
  rotate_left
  · have e : (te != 0) = true := by rw [bne_iff_ne]; exact hte
    rw [if_pos hte]
    exact run_inr (by simp only [M_tlv_walk_step_p5p0, Tr.val_c, Tr.val_r, val_opt, p0, p1, t, e, Option.bind_some, decide_true, decide_false, beq_self_eq_true, cond_true, cond_false])
  subst hte
  rw [if_neg (by simp), run_inl (s := (1, bl b, (tk : Int), tv, l, 0)) (by
    simp only [M_tlv_walk_step_p5p0, Tr.val_c, Tr.val_r, val_opt, p0, p1, t, Option.bind_some, decide_true, decide_false, beq_self_eq_true, bne_self_eq_false, cond_true, cond_false]; rfl)]
  have s := size_eq b tk l tl1 hb
  obtain ⟨sl1, sl2, sl3⟩ := sizeR_le b tk tl1
  generalize sizeR b tk = SR at s sl1 sl2 sl3 ⊢
  obtain ⟨sv, se, sk⟩ := SR
  simp only at s sl1 sl2 sl3 ⊢
  have p2 : ((1 : Int) < 2) := by decide
  by_cases hse : se = 0
  rotate_left
  · have e : (se != 0) = true := by rw [bne_iff_ne]; exact hse
    rw [if_pos hse]
    exact run_inr (by simp only [M_tlv_walk_step_p5p0, Tr.val_c, Tr.val_r, val_opt, p2, s, e, Option.bind_some, decide_true, beq_self_eq_true, cond_true])
  subst hse
  rw [if_neg (by simp), run_inl (s := (2, bl b, (sk : Int), tv, l, (sv : Int))) (by
    simp only [M_tlv_walk_step_p5p0, Tr.val_c, Tr.val_r, val_opt, p2, s, Option.bind_some, decide_true, beq_self_eq_true, bne_self_eq_false, cond_true, cond_false]; rfl)]
  have p3 : ¬ ((2 : Int) < 2) := by decide
  have tk3 := Take_eq (sv : Int) (bl b) sk (by rw [length_bl]; exact sl1) (by rw [length_bl]; omega)
  rw [if_neg (by omega), length_bl] at tk3
  by_cases hs : b.length < sk + sv
  · rw [if_pos (by omega)] at tk3
    rw [if_pos hs]
    have e3 : ((3 : Int) != 0) = true := rfl
    exact run_inr (by simp only [M_tlv_walk_step_p5p0, Tr.val_c, Tr.val_r, val_opt, p3, tk3, e3, Option.bind_some, decide_false, beq_self_eq_true, cond_true, cond_false])
  · rw [if_neg (by omega), Int.toNat_natCast, bl_drop, bl_take] at tk3
    rw [if_neg hs]
    have l1 : (l ++ [AV.agg [.int .i64 tv, .slice 1 (.int .u8) (bl ((b.drop sk).take sv)) .ro]]).length * 33 < 70368744177664 := by simp; omega
    have ek : ((sk : Int) + (sv : Int)) = ((sk + sv : Nat) : Int) := by omega
    exact run_inr (by simp only [M_tlv_walk_step_p5p0, Tr.val_c, Tr.val_r, val_opt, p3, tk3, l1, ek, Option.bind_some, decide_true, decide_false, beq_self_eq_true, bne_self_eq_false, cond_true, cond_false]; rfl)

theorem stepR_le (b : List UInt8) (k : Nat) (l : List AV) (hk : k < b.length) : (stepR b k l).1 = 0 → k + 1 ≤ (stepR b k l).2.1 ∧ (stepR b k l).2.1 ≤ b.length ∧ (stepR b k l).2.2.length = l.length + 1 := by
  obtain ⟨tl1, tl2⟩ := tagR_le b k l (by omega)
  have hs := sizeR_le b (tagR b k l).2.2 tl1
  intro h
  unfold stepR at h ⊢
  split at h
  · simp at h
  · split at h
    · rename_i h2; exact absurd h h2
    · rename_i h2
      have := tl2 (by simpa using h2)
      split at h
      · rename_i h3; exact absurd h h3
      · split at h
        · simp at h
        · rename_i h20 h3 h4
          rw [if_neg h20, if_neg h2, if_neg h3, if_neg h4]
          exact ⟨by simp only; omega, by simp only; omega, by simp⟩
theorem stepR_20 {b : List UInt8} {k : Nat} {l : List AV} (h : (stepR b k l).1 = 0) : l.length < 20 := by
  unfold stepR at h
  split at h
  · simp at h
  · omega

theorem parse_from (b : List UInt8) (hb : b.length < 1000000) : ∀ (m k : Nat) (l : List AV), b.length - k ≤ m → k ≤ b.length → l.length ≤ k → run (M_tlv_Parse (bl b)) (M_tlv_Parse (bl b) (bl b, (k : Int), l)) = some (parseR b m k l) := by
  intro m
  induction m with
  | zero =>
    intro k l hm hk hl
    have w : IntKind.i64.wrap (((bl b).length : Int) - (k : Int)) = 0 := by rw [length_bl, i64_wrap (by omega) (by omega)]; omega
    have q : ¬ ((0 : Int) > 0) := by decide
    exact run_inr (by simp only [M_tlv_Parse, Tr.val_c, Tr.val_r, w, q, decide_false, beq_self_eq_true, cond_true, cond_false]; rfl)
  | succ m ih =>
    intro k l hm hk hl
    have w : IntKind.i64.wrap (((bl b).length : Int) - (k : Int)) = (b.length : Int) - k := by rw [length_bl, i64_wrap (by omega) (by omega)]
    by_cases h : b.length ≤ k
    · have q : ¬ ((b.length : Int) - k > 0) := by omega
      rw [parseR, if_pos h]
      exact run_inr (by simp only [M_tlv_Parse, Tr.val_c, Tr.val_r, w, q, decide_false, beq_self_eq_true, cond_true, cond_false])
    · have q : ((b.length : Int) - k > 0) := by omega
      have s := step_eq b k l hk hb (by omega)
      rw [parseR, if_neg h]
      by_cases he : (stepR b k l).1 = 0
      · obtain ⟨s1, s2, s3⟩ := stepR_le b k l (by omega) he
        rw [if_neg (by simpa using he)]
        rw [he] at s
        rw [← ih _ _ (by omega) s2 (by omega)]
        exact run_inl (by simp only [M_tlv_Parse, Tr.val_c, Tr.val_r, val_opt, w, q, s, Option.bind_some, decide_true, beq_self_eq_true, bne_self_eq_false, cond_true, cond_false])
      · have e : ((stepR b k l).1 != 0) = true := by rw [bne_iff_ne]; exact he
        rw [if_pos he]
        exact run_inr (by simp only [M_tlv_Parse, Tr.val_c, Tr.val_r, val_opt, w, q, s, e, Option.bind_some, decide_true, beq_self_eq_true, cond_true])

theorem Parse_eq (b : List UInt8) (hb : b.length < 1000000) : g_tlv_Parse (bl b) = some (parseR b b.length 0 []) := by
  have nw := New_eq (bl b) (by rw [length_bl]; omega)
  unfold g_tlv_Parse
  rw [run_inl (s := (bl b, ((0 : Nat) : Int), [])) (by simp only [T_tlv_Parse, Tr.val_r, val_opt, nw, Option.bind_some]; rfl)]
  exact parse_from b hb b.length 0 [] (by omega) (by omega) (by simp)

theorem tagged_eq (t : Int) : g_comptoirref07_tagged t = some (rightN t) := by
  unfold g_comptoirref07_tagged rightN
  simp only [T_comptoirref07_tagged, Tr.val_c, Tr.val_r]
  by_cases h1 : t > 0
  · by_cases h2 : t < 255
    · have h3 : ¬ (t > 255) := by omega
      cases h4 : (bitsA .and .i64 t 31 != 31) <;> simp [h1, h2, h3]
    · by_cases h3 : t > 255
      · by_cases h5 : shrA .i64 t 8 < 255
        · cases h7 : (bitsA .and .i64 (shrA .i64 t 8) 31 == 31) with
          | true => by_cases h8 : bitsA .and .i64 t 255 < 128 <;> simp [h1, h2, h3, h5, h8]
          | false => simp [h1, h2, h3, h5]
        · simp [h1, h2, h3, h5]
      · simp [h1, h2, h3]
  · have h3 : ¬ (t > 255) := by omega
    simp [h1, h3]

theorem known_eq (l : List AV) (t : Int) (hl : l.length < 8796093022208) : g_comptoirref07_known l t = some (knownA l t) := by
  unfold g_comptoirref07_known
  rw [run_inl (s := ((0 : Nat) : Int)) rfl]
  have key : ∀ k i : Nat, i + k = l.length → run (M_comptoirref07_known l t) (M_comptoirref07_known l t (i : Int)) = some (knownA (l.drop i) t) := by
    intro k
    induction k with
    | zero =>
      intro i hi
      have q : ¬ ((i : Int) < l.length) := by omega
      rw [List.drop_of_length_le (by omega)]
      exact run_inr (by simp only [M_comptoirref07_known, Tr.val_c, Tr.val_r, q, decide_false, cond_false]; rfl)
    | succ k ih =>
      intro i hi
      have q : (i : Int) < l.length := by omega
      have q0 : (0 : Int) ≤ i := by omega
      have q3 : i < l.length := by omega
      have w : IntKind.i64.wrap ((i : Int) + 1) = ((i + 1 : Nat) : Int) := by rw [i64_wrap (by omega) (by omega)]; omega
      have hg : l.getD i (.agg [.int .i64 0, .slice 1 (.int .u8) [] .ro]) = l[i] := by simp [List.getD_eq_getElem?_getD, q3]
      have hd : knownA (l.drop i) t = (getI (getF l[i] 0) == t || knownA (l.drop (i + 1)) t) := by rw [List.drop_eq_getElem_cons q3]; rfl
      cases hx : (getI (getF l[i] 0) == t) with
      | true =>
        rw [hd, hx, Bool.true_or]
        exact run_inr (by simp only [M_comptoirref07_known, Tr.val_c, Tr.val_r, q, q0, Int.toNat_natCast, hg, hx, decide_true, cond_true])
      | false =>
        rw [hd, hx, Bool.false_or, ← ih (i + 1) (by omega)]
        exact run_inl (by simp only [M_comptoirref07_known, Tr.val_c, Tr.val_r, q, q0, Int.toNat_natCast, hg, hx, w, decide_true, cond_true, cond_false])
  have := key l.length 0 (by omega)
  simpa using this

/- bytes, read one by one -/

/- tags that are written -/
def tgs (L : List (Int × List UInt8)) : List AV := L.map fun p => tg p.1 (bl p.2)
theorem tgs_getD (L : List (Int × List UInt8)) (i : Nat) (h : i < L.length) : (tgs L).getD i (.agg [.int .i64 0, .slice 1 (.int .u8) [] .ro]) = tg L[i].1 (bl L[i].2) := by
  simp [tgs, List.getD_eq_getElem?_getD, h]
theorem wf_tgs : ∀ {xs : List AV}, (∀ y ∈ xs, Wf (.agg [.int .i64, .slice 1 (.int .u8)]) y) → ∃ L : List (Int × List UInt8), xs = tgs L ∧ ∀ p ∈ L, (Lit.int .i64 p.1).wf = true
  | [], _ => ⟨[], rfl, fun p hp => by simp at hp⟩
  | x :: xs, h => by
    obtain ⟨L, hL, hw⟩ := wf_tgs (xs := xs) fun y hy => h y (by simp [hy])
    obtain ⟨cs, hcs, hwl⟩ : ∃ cs, x = .agg cs ∧ WfL [.int .i64, .slice 1 (.int .u8)] cs := h x (by simp)
    have hlen : cs.length = 2 := WfL.length hwl
    obtain ⟨a, b, rfl⟩ : ∃ a b, cs = [a, b] := by
      match cs, hlen with
      | [a, b], _ => exact ⟨a, b, rfl⟩
    simp only [WfL, and_true] at hwl
    obtain ⟨⟨ha, -⟩, hb, -⟩ := hwl
    obtain ⟨n, rfl, hn⟩ := ha
    obtain ⟨d, rfl, -⟩ := wf_bytes hb
    exact ⟨(n, d) :: L, by rw [hcs, hL]; rfl, fun p hp => by
      rcases List.mem_cons.1 hp with rfl | hp
      · exact hn
      · exact hw p hp⟩

def headW (t : Int) (n : Nat) : List AV := bex (IntKind.u64.wrap t) (rightN t).toNat ++ (if 128 ≤ n then [.int .u8 129] else []) ++ [.int .u8 (IntKind.u8.wrap (n : Int))]
def writeS (pre : List (Int × List UInt8)) (acc : List AV) : List (Int × List UInt8) → List AV × Int
  | [] => (acc, 0)
  | (t, d) :: r => if rightN t = 0 ∨ knownA (tgs pre) t = true then ([], 18) else if 255 < d.length then ([], 17) else writeS (pre ++ [(t, d)]) (acc ++ headW t d.length ++ bl d) r

theorem rightN_cases (t : Int) : rightN t = 0 ∨ (rightN t = 1 ∧ 0 < t ∧ t < 255) ∨ (rightN t = 2 ∧ 255 < t ∧ t < 65536) := by
  unfold rightN
  split
  · rename_i h; exact .inr (.inl ⟨rfl, h.1, h.2.1⟩)
  · split
    · rename_i h
      refine .inr (.inr ⟨rfl, h.1, ?_⟩)
      have h2 : t.fdiv 256 < 255 := h.2.1
      rw [Int.fdiv_eq_ediv_of_nonneg _ (by decide)] at h2
      omega
    · exact .inl rfl

theorem write_from (L : List (Int × List UInt8)) (hL : L.length ≤ 20) : ∀ (r pre : List (Int × List UInt8)) (acc : List AV), L = pre ++ r → acc.length ≤ 300 * pre.length →
    run (M_tlv_Write (tgs L)) (M_tlv_Write (tgs L) ((pre.length : Int), acc)) = some (writeS pre acc r)
  | [], pre, acc, h, ha => by
    have lL : (tgs L).length = pre.length := by rw [h]; simp [tgs]
    have q : ¬ ((pre.length : Int) < (tgs L).length) := by omega
    exact run_inr (by simp only [M_tlv_Write, Tr.val_c, Tr.val_r, q, decide_false, beq_self_eq_true, cond_true, cond_false]; rfl)
  | (t, d) :: r, pre, acc, h, ha => by
    have l0 : L.length = pre.length + (r.length + 1) := by rw [h]; simp
    have lL : (tgs L).length = L.length := by simp [tgs]
    have q : (pre.length : Int) < (tgs L).length := by omega
    have q0 : (0 : Int) ≤ pre.length := by omega
    have q1 : (pre.length : Int) ≤ (tgs L).length := by omega
    have hg : (tgs L).getD pre.length (.agg [.int .i64 0, .slice 1 (.int .u8) [] .ro]) = tg t (bl d) := by
      rw [tgs_getD L pre.length (by omega)]
      have : L[pre.length]'(by omega) = (t, d) := by simp [h]
      rw [this]
    have ht : (tgs L).take pre.length = tgs pre := by rw [h]; simp [tgs]
    have w : IntKind.i64.wrap ((pre.length : Int) + 1) = ((pre.length + 1 : Nat) : Int) := by rw [i64_wrap (by omega) (by omega)]; omega
    have rq := right_eq t
    have tq := there_eq (tgs pre) t (by simp [tgs]; omega)
    rw [writeS]
    by_cases hr : rightN t = 0
    · have e : (rightN t != 0) = false := by rw [hr]; rfl
      rw [if_pos (.inl hr)]
      exact run_inr (by simp only [M_tlv_Write, Tr.val_c, Tr.val_r, val_opt, q, q0, Int.toNat_natCast, hg, tg_tag, rq, e, Option.bind_some, Bool.not_false, decide_true, cond_true])
    have e : (rightN t != 0) = true := by rw [bne_iff_ne]; exact hr
    cases hk : knownA (tgs pre) t with
    | true =>
      rw [hk] at tq
      rw [if_pos (.inr rfl)]
      exact run_inr (by simp only [M_tlv_Write, Tr.val_c, Tr.val_r, val_opt, q, q0, q1, Int.toNat_natCast, hg, tg_tag, List.drop_zero, ht, rq, e, tq, Option.bind_some, Bool.not_true, decide_true, cond_true, cond_false])
    | false =>
      rw [hk] at tq
      rw [if_neg (by rintro (h | h); exact hr h; exact absurd h (by decide))]
      by_cases h5 : 255 < d.length
      · have q5 : ((bl d).length : Int) > 255 := by rw [length_bl]; omega
        rw [if_pos h5]
        exact run_inr (by simp only [M_tlv_Write, Tr.val_c, Tr.val_r, val_opt, q, q0, q1, Int.toNat_natCast, hg, tg_tag, tg_data, List.drop_zero, ht, rq, e, tq, q5, Option.bind_some, Bool.not_true, decide_true, cond_true, cond_false])
      have q5 : ¬ ((bl d).length : Int) > 255 := by rw [length_bl]; omega
      rw [if_neg h5]
      have hw : ∀ m : Nat, rightN t = (m : Int) → (m = 1 ∨ m = 2) → decide (t > 255) = decide (m = 2) := by
        intro m hm h12
        rcases rightN_cases t with hc | ⟨hc, h1, h2⟩ | ⟨hc, h1, h2⟩
        · exact absurd hc hr
        · have : m = 1 := by omega
          subst this
          rw [decide_eq_false (by omega), decide_eq_false (by omega)]
        · have : m = 2 := by omega
          subst this
          rw [decide_eq_true (by omega), decide_eq_true rfl]
      obtain ⟨m, hm, h12⟩ : ∃ m : Nat, rightN t = (m : Int) ∧ (m = 1 ∨ m = 2) := by
        rcases rightN_cases t with hc | ⟨hc, h1, h2⟩ | ⟨hc, h1, h2⟩
        · exact absurd hc hr
        · exact ⟨1, hc, .inl rfl⟩
        · exact ⟨2, hc, .inr rfl⟩
      have hw2 := hw m hm h12
      have hmn : (rightN t).toNat = m := by omega
      have p1 := Put_eq acc (IntKind.u64.wrap t) 1 1 (by omega) (by omega) (by decide)
      have p2 := Put_eq acc (IntKind.u64.wrap t) 2 2 (by omega) (by omega) (by decide)
      obtain ⟨P, hP⟩ : ∃ P, P = acc ++ bex (IntKind.u64.wrap t) m := ⟨_, rfl⟩
      have lP : P.length ≤ 300 * pre.length + 2 := by rw [hP]; simp; omega
      have ih := write_from L hL r (pre ++ [(t, d)]) (acc ++ headW t d.length ++ bl d) (by rw [h]; simp) (by simp [headW]; split <;> simp <;> omega)
      rw [← ih]
      have lp : (pre ++ [(t, d)]).length = pre.length + 1 := by simp
      rw [lp]
      refine run_inl ?_
      have hh : acc ++ headW t d.length ++ bl d = (P ++ (if 128 ≤ d.length then [AV.int .u8 129] else [])) ++ [AV.int .u8 (IntKind.u8.wrap (d.length : Int))] ++ bl d := by
        unfold headW; rw [hmn, hP]; simp only [List.append_assoc]
      rw [hh]
      by_cases h8 : 128 ≤ d.length
      · have q8 : ((bl d).length : Int) ≥ 128 := by rw [length_bl]; omega
        have lz : (P ++ [AV.int .u8 129]).length * 2 < 70368744177664 := by simp; omega
        have c3 := Concat3_eq (P ++ [.int .u8 129]) [.int .u8 (IntKind.u8.wrap (d.length : Int))] (bl d) (by simp; omega)
        rw [if_pos h8]
        rcases h12 with rfl | rfl
        · rw [← hP] at p1
          simp only [M_tlv_Write, Tr.val_c, Tr.val_r, val_opt, q, q0, q1, Int.toNat_natCast, hg, tg_tag, tg_data, List.drop_zero, ht, rq, e, tq, q5, hw2, p1, q8, lz, w, length_bl, c3, Option.bind_some, Bool.not_true, Bool.true_and, beq_self_eq_true, decide_true, decide_false, cond_true, cond_false, show decide (1 = 2) = false from rfl]
          simp only [length_bl] at q5 q8
          simp only [q5, q8, decide_true, decide_false, cond_true, cond_false, c3, Option.bind_some]
        · rw [← hP] at p2
          simp only [M_tlv_Write, Tr.val_c, Tr.val_r, val_opt, q, q0, q1, Int.toNat_natCast, hg, tg_tag, tg_data, List.drop_zero, ht, rq, e, tq, q5, hw2, p2, q8, lz, w, length_bl, c3, Option.bind_some, Bool.not_true, Bool.true_and, beq_self_eq_true, decide_true, decide_false, cond_true, cond_false]
          simp only [length_bl] at q5 q8
          simp only [q5, q8, decide_true, decide_false, cond_true, cond_false, c3, Option.bind_some]
      · have q8 : ¬ ((bl d).length : Int) ≥ 128 := by rw [length_bl]; omega
        have c3 := Concat3_eq P [.int .u8 (IntKind.u8.wrap (d.length : Int))] (bl d) (by simp; omega)
        rw [if_neg h8, List.append_nil]
        rcases h12 with rfl | rfl
        · rw [← hP] at p1
          simp only [M_tlv_Write, Tr.val_c, Tr.val_r, val_opt, q, q0, q1, Int.toNat_natCast, hg, tg_tag, tg_data, List.drop_zero, ht, rq, e, tq, q5, hw2, p1, q8, w, length_bl, c3, Option.bind_some, Bool.not_true, Bool.true_and, beq_self_eq_true, decide_true, decide_false, cond_true, cond_false, show decide (1 = 2) = false from rfl]
          simp only [length_bl] at q5 q8
          simp only [q5, q8, decide_true, decide_false, cond_true, cond_false, c3, Option.bind_some]
        · rw [← hP] at p2
          simp only [M_tlv_Write, Tr.val_c, Tr.val_r, val_opt, q, q0, q1, Int.toNat_natCast, hg, tg_tag, tg_data, List.drop_zero, ht, rq, e, tq, q5, hw2, p2, q8, w, length_bl, c3, Option.bind_some, Bool.not_true, Bool.true_and, beq_self_eq_true, decide_true, decide_false, cond_true, cond_false]
          simp only [length_bl] at q5 q8
          simp only [q5, q8, decide_true, decide_false, cond_true, cond_false, c3, Option.bind_some]

theorem Write_eq (L : List (Int × List UInt8)) (hL : L.length < TOP) : g_tlv_Write (tgs L) = some (if 20 < L.length then ([], 4) else writeS [] [] L) := by
  have lL : (tgs L).length = L.length := by simp [tgs]
  unfold g_tlv_Write
  by_cases h : 20 < L.length
  · have q : ((tgs L).length : Int) > 20 := by omega
    rw [if_pos h]
    exact run_inr (by simp only [T_tlv_Write, Tr.val_c, Tr.val_r, q, decide_true, cond_true])
  · have q : ¬ ((tgs L).length : Int) > 20 := by omega
    rw [if_neg h, run_inl (s := (((0 : Nat) : Int), [])) (by simp only [T_tlv_Write, Tr.val_c, Tr.val_r, q, decide_false, cond_false]; rfl)]
    exact write_from L (by omega) L [] [] rfl (by simp)

theorem refwrite_from (L : List (Int × List UInt8)) (hL : L.length ≤ 20) : ∀ (r pre : List (Int × List UInt8)) (acc : List AV), L = pre ++ r → acc.length ≤ 300 * pre.length →
    run (M_comptoirref07_WriteTags (tgs L)) (M_comptoirref07_WriteTags (tgs L) ((pre.length : Int), acc)) = some (writeS pre acc r)
  | [], pre, acc, h, ha => by
    have lL : (tgs L).length = pre.length := by rw [h]; simp [tgs]
    have q : ¬ ((pre.length : Int) < (tgs L).length) := by omega
    exact run_inr (by simp only [M_comptoirref07_WriteTags, Tr.val_c, Tr.val_r, q, decide_false, beq_self_eq_true, cond_true, cond_false]; rfl)
  | (t, d) :: r, pre, acc, h, ha => by
    have l0 : L.length = pre.length + (r.length + 1) := by rw [h]; simp
    have lL : (tgs L).length = L.length := by simp [tgs]
    have q : (pre.length : Int) < (tgs L).length := by omega
    have q0 : (0 : Int) ≤ pre.length := by omega
    have q1 : (pre.length : Int) ≤ (tgs L).length := by omega
    have hg : (tgs L).getD pre.length (.agg [.int .i64 0, .slice 1 (.int .u8) [] .ro]) = tg t (bl d) := by
      rw [tgs_getD L pre.length (by omega)]
      have : L[pre.length]'(by omega) = (t, d) := by simp [h]
      rw [this]
    have ht : (tgs L).take pre.length = tgs pre := by rw [h]; simp [tgs]
    have w : IntKind.i64.wrap ((pre.length : Int) + 1) = ((pre.length + 1 : Nat) : Int) := by rw [i64_wrap (by omega) (by omega)]; omega
    have rq := tagged_eq t
    have tq := known_eq (tgs pre) t (by simp [tgs]; omega)
    rw [writeS]
    by_cases hr : rightN t = 0
    · have e : (rightN t == 0) = true := by rw [hr]; rfl
      rw [if_pos (.inl hr)]
      exact run_inr (by simp only [M_comptoirref07_WriteTags, Tr.val_c, Tr.val_r, val_opt, q, q0, Int.toNat_natCast, hg, tg_tag, rq, e, Option.bind_some, decide_true, cond_true])
    have e : (rightN t == 0) = false := by rw [beq_eq_false_iff_ne]; exact hr
    cases hk : knownA (tgs pre) t with
    | true =>
      rw [hk] at tq
      rw [if_pos (.inr rfl)]
      exact run_inr (by simp only [M_comptoirref07_WriteTags, Tr.val_c, Tr.val_r, val_opt, q, q0, q1, Int.toNat_natCast, hg, tg_tag, List.drop_zero, ht, rq, e, tq, Option.bind_some, decide_true, cond_true, cond_false])
    | false =>
      rw [hk] at tq
      rw [if_neg (by rintro (h | h); exact hr h; exact absurd h (by decide))]
      by_cases h5 : 255 < d.length
      · have q5 : ((bl d).length : Int) > 255 := by rw [length_bl]; omega
        rw [if_pos h5]
        exact run_inr (by simp only [M_comptoirref07_WriteTags, Tr.val_c, Tr.val_r, val_opt, q, q0, q1, Int.toNat_natCast, hg, tg_tag, tg_data, List.drop_zero, ht, rq, e, tq, q5, Option.bind_some, decide_true, cond_true, cond_false])
      have q5 : ¬ (d.length : Int) > 255 := by omega
      rw [if_neg h5]
      obtain ⟨m, hm, h12⟩ : ∃ m : Nat, rightN t = (m : Int) ∧ (m = 1 ∨ m = 2) := by
        rcases rightN_cases t with hc | ⟨hc, h1, h2⟩ | ⟨hc, h1, h2⟩
        · exact absurd hc hr
        · exact ⟨1, hc, .inl rfl⟩
        · exact ⟨2, hc, .inr rfl⟩
      have hmn : (rightN t).toNat = m := by omega
      have p1 := refPut_eq acc (IntKind.u64.wrap t) (rightN t) m (by omega) (by omega) (by rw [hm]; rcases h12 with rfl | rfl <;> decide)
      obtain ⟨P, hP⟩ : ∃ P, P = acc ++ bex (IntKind.u64.wrap t) m := ⟨_, rfl⟩
      have lP : P.length ≤ 300 * pre.length + 2 := by rw [hP]; simp; omega
      rw [← hP] at p1
      have ih := refwrite_from L hL r (pre ++ [(t, d)]) (acc ++ headW t d.length ++ bl d) (by rw [h]; simp) (by simp [headW]; split <;> simp <;> omega)
      rw [← ih]
      have lp : (pre ++ [(t, d)]).length = pre.length + 1 := by simp
      rw [lp]
      refine run_inl ?_
      have hh : acc ++ headW t d.length ++ bl d = (P ++ (if 128 ≤ d.length then [AV.int .u8 129] else [])) ++ [AV.int .u8 (IntKind.u8.wrap (d.length : Int))] ++ bl d := by
        unfold headW; rw [hmn, hP]; simp only [List.append_assoc]
      rw [hh]
      by_cases h8 : 128 ≤ d.length
      · have q8 : (d.length : Int) > 127 := by omega
        have lz : (P ++ [AV.int .u8 129]).length * 2 < 70368744177664 := by simp; omega
        have lz2 : (P ++ [AV.int .u8 129] ++ [AV.int .u8 (IntKind.u8.wrap (d.length : Int))]).length * 2 < 70368744177664 := by simp; omega
        have lz3 : (P ++ [AV.int .u8 129] ++ [AV.int .u8 (IntKind.u8.wrap (d.length : Int))] ++ bl d).length * 2 < 70368744177664 := by simp; omega
        rw [if_pos h8]
        simp only [M_comptoirref07_WriteTags, Tr.val_c, Tr.val_r, val_opt, q, q0, q1, Int.toNat_natCast, hg, tg_tag, tg_data, List.drop_zero, ht, rq, e, tq, length_bl, q5, p1, q8, lz, lz2, lz3, w, Option.bind_some, Bool.true_and, beq_self_eq_true, decide_true, decide_false, cond_true, cond_false]
      · have q8 : ¬ (d.length : Int) > 127 := by omega
        have lz2 : (P ++ [AV.int .u8 (IntKind.u8.wrap (d.length : Int))]).length * 2 < 70368744177664 := by simp; omega
        have lz3 : (P ++ [AV.int .u8 (IntKind.u8.wrap (d.length : Int))] ++ bl d).length * 2 < 70368744177664 := by simp; omega
        rw [if_neg h8, List.append_nil]
        simp only [M_comptoirref07_WriteTags, Tr.val_c, Tr.val_r, val_opt, q, q0, q1, Int.toNat_natCast, hg, tg_tag, tg_data, List.drop_zero, ht, rq, e, tq, length_bl, q5, p1, q8, lz2, lz3, w, Option.bind_some, Bool.true_and, beq_self_eq_true, decide_true, decide_false, cond_true, cond_false]

theorem refWrite_eq (L : List (Int × List UInt8)) (hL : L.length < TOP) : g_comptoirref07_WriteTags (tgs L) = some (if 20 < L.length then ([], 4) else writeS [] [] L) := by
  have lL : (tgs L).length = L.length := by simp [tgs]
  unfold g_comptoirref07_WriteTags
  by_cases h : 20 < L.length
  · have q : ((tgs L).length : Int) > 20 := by omega
    rw [if_pos h]
    exact run_inr (by simp only [T_comptoirref07_WriteTags, Tr.val_c, Tr.val_r, q, decide_true, cond_true])
  · have q : ¬ ((tgs L).length : Int) > 20 := by omega
    rw [if_neg h, run_inl (s := (((0 : Nat) : Int), [])) (by simp only [T_comptoirref07_WriteTags, Tr.val_c, Tr.val_r, q, decide_false, cond_false]; rfl)]
    exact refwrite_from L (by omega) L [] [] rfl (by simp)

theorem awake14 : g_comptoirlaw14_awake = some true := by
  have p := Parse_eq [149, 1, 7] (by simp)
  have e : bl [149, 1, 7] = [AV.int .u8 149, .int .u8 1, .int .u8 7] := rfl
  have r : parseR [149, 1, 7] ([149, 1, 7] : List UInt8).length 0 [] = ([tg 149 [.int .u8 7]], 0) := by kernel_rfl
  rw [e, r] at p
  unfold g_comptoirlaw14_awake
  simp only [T_comptoirlaw14_awake, Tr.val_c, Tr.val_r, val_opt, p, Option.bind_some]
  rfl

theorem andi64 {X Y : Nat} (hX : X < 2 ^ 63) (hY : Y < 2 ^ 63) : bitsA .and .i64 (X : Int) (Y : Int) = ((X &&& Y : Nat) : Int) := by
  show IntKind.i64.wrap ((BitVec.ofInt 64 (X : Int) &&& BitVec.ofInt 64 (Y : Int)).toNat : Int) = _
  rw [BitVec.toNat_and, ofInt_toNat 64 X (by omega), ofInt_toNat 64 Y (by omega)]
  have : X &&& Y ≤ X := Nat.and_le_left
  exact i64_wrap (by omega) (by omega)
theorem and31 {X : Nat} (h : X < 2 ^ 63) : bitsA .and .i64 (X : Int) 31 = ((X % 32 : Nat) : Int) := by
  have := andi64 h (Y := 31) (by omega)
  rw [show (31 : Nat) = 2 ^ 5 - 1 from rfl, Nat.and_two_pow_sub_one_eq_mod] at this
  exact this
theorem and255 {X : Nat} (h : X < 2 ^ 63) : bitsA .and .i64 (X : Int) 255 = ((X % 256 : Nat) : Int) := by
  have := andi64 h (Y := 255) (by omega)
  rw [show (255 : Nat) = 2 ^ 8 - 1 from rfl, Nat.and_two_pow_sub_one_eq_mod] at this
  exact this
theorem shri8 (X : Nat) : shrA .i64 (X : Int) 8 = ((X / 256 : Nat) : Int) := by
  show (X : Int).fdiv 256 = _
  rw [Int.fdiv_eq_ediv_of_nonneg _ (by decide)]; omega
/-- Whether a number is a tag, in plain words. -/
theorem rightN_nat {X : Nat} (h : X < 2 ^ 63) : rightN (X : Int) = if 0 < X ∧ X < 255 ∧ X % 32 ≠ 31 then 1 else if 255 < X ∧ X / 256 < 255 ∧ X / 256 % 32 = 31 ∧ X % 256 < 128 then 2 else 0 := by
  unfold rightN
  rw [shri8, and31 h, and31 (X := X / 256) (by omega), and255 h]
  have e1 : (0 < (X : Int) ∧ (X : Int) < 255 ∧ (((X % 32 : Nat) : Int) != 31) = true) ↔ (0 < X ∧ X < 255 ∧ X % 32 ≠ 31) := by
    rw [bne_iff_ne]; omega
  have e2 : (255 < (X : Int) ∧ ((X / 256 : Nat) : Int) < 255 ∧ (((X / 256 % 32 : Nat) : Int) == 31) = true ∧ ((X % 256 : Nat) : Int) < 128) ↔ (255 < X ∧ X / 256 < 255 ∧ X / 256 % 32 = 31 ∧ X % 256 < 128) := by
    rw [beq_iff_eq]; omega
  by_cases h1 : 0 < X ∧ X < 255 ∧ X % 32 ≠ 31
  · rw [if_pos h1, if_pos (e1.2 h1)]
  · rw [if_neg h1, if_neg (fun h => h1 (e1.1 h))]
    by_cases h2 : 255 < X ∧ X / 256 < 255 ∧ X / 256 % 32 = 31 ∧ X % 256 < 128
    · rw [if_pos h2, if_pos (e2.2 h2)]
    · rw [if_neg h2, if_neg (fun h => h2 (e2.1 h))]

theorem Write_one (t : Int) (d : List UInt8) : g_tlv_Write [tg t (bl d)] = some (if rightN t = 0 then ([], 18) else if 255 < d.length then ([], 17) else (headW t d.length ++ bl d, 0)) := by
  have w := Write_eq [(t, d)] (by simp [TOP])
  rw [if_neg (by simp)] at w
  have e : tgs [(t, d)] = [tg t (bl d)] := rfl
  rw [e] at w
  rw [w, writeS]
  have k : knownA (tgs []) t = false := rfl
  rw [k]
  by_cases h : rightN t = 0
  · simp [h]
  · by_cases h5 : 255 < d.length
    · simp [h, h5]
    · simp [h, h5, writeS]

theorem SameTag_self (L : List AV) (hL : L.length < 8796093022208) : g_comptoirhelp_Same_api_Tag_00fTag_ L L = some true := by
  unfold g_comptoirhelp_Same_api_Tag_00fTag_
  rw [run_inl (s := (0 : Int)) (by simp only [T_comptoirhelp_Same_api_Tag_00fTag_, Tr.val_c, Tr.val_r, bne_self_eq_false, cond_false])]
  have tq : ∀ a b, g_comptoirhelp_Tag a b a b = some true := fun a b => by
    unfold g_comptoirhelp_Tag
    simp only [T_comptoirhelp_Tag, Tr.val_c, Tr.val_r, beq_self_eq_true, cond_true]
  exact run_until (f := fun i => (i : Int)) (n := L.length) (fun i hi => by
    have q1 : (i : Int) < L.length := by omega
    have q2 : (0 : Int) ≤ i := by omega
    have w : IntKind.i64.wrap ((i : Int) + 1) = ((i + 1 : Nat) : Int) := by rw [i64_wrap (by omega) (by omega)]; omega
    simp only [M_comptoirhelp_Same_api_Tag_00fTag_, Tr.val_c, Tr.val_r, val_opt, q1, q2, w, tq, Option.bind_some, decide_true, cond_true, Bool.not_true, cond_false]) (by
    have q1 : ¬ ((L.length : Int) < L.length) := by omega
    simp only [M_comptoirhelp_Same_api_Tag_00fTag_, Tr.val_c, Tr.val_r, q1, decide_false, cond_false])

/- tags there and back -/
theorem or_i64 {a y : Nat} (ha : a < 2 ^ 40) (hy : y < 256) : bitsA .or .i64 (shlA .i64 (a : Int) 8) (y : Int) = ((a * 256 + y : Nat) : Int) := by
  have hs : shlA .i64 (a : Int) 8 = ((a * 256 : Nat) : Int) := by
    show IntKind.i64.wrap ((a : Int) * 256) = _
    rw [i64_wrap (by omega) (by omega)]; omega
  rw [hs]
  show IntKind.i64.wrap ((BitVec.ofInt 64 ((a * 256 : Nat) : Int) ||| BitVec.ofInt 64 (y : Int)).toNat : Int) = _
  rw [BitVec.toNat_or, ofInt_toNat 64 (a * 256) (by omega), ofInt_toNat 64 y (by omega)]
  have h := Nat.two_pow_add_eq_or_of_lt (i := 8) (b := y) (by omega) a
  have e : a * 256 = 2 ^ 8 * a := by omega
  rw [e, ← h]
  exact i64_wrap (by omega) (by omega)

theorem moreB_eq (f : Nat) (h : f < 256) : moreB f = (decide (f % 32 = 31) && decide (f ≠ 255)) := by
  unfold moreB
  rw [and31 (by omega)]
  by_cases h1 : f % 32 = 31
  · rw [h1]
    by_cases h2 : f = 255
    · subst h2; rfl
    · have : ((f : Int) != 255) = true := by rw [bne_iff_ne]; omega
      simp [this, h2]
  · have : (((f % 32 : Nat) : Int) == 31) = false := by rw [beq_eq_false_iff_ne]; omega
    rw [this]; simp [h1]

def encH (t : Nat) : List UInt8 := if t < 256 then [UInt8.ofNat t] else [UInt8.ofNat (t / 256), UInt8.ofNat (t % 256)]
def encL (n : Nat) : List UInt8 := if n < 128 then [UInt8.ofNat n] else [129, UInt8.ofNat n]
def enc (t : Int) (d : List UInt8) : List UInt8 := encH t.toNat ++ encL d.length ++ d
def encs : List (Int × List UInt8) → List UInt8
  | [] => []
  | p :: r => enc p.1 p.2 ++ encs r

theorem ofNat_toNat' {n : Nat} (h : n < 256) : (UInt8.ofNat n).toNat = n := by simp [UInt8.toNat_ofNat']; omega

theorem head_enc {t : Int} {n : Nat} (h : rightN t ≠ 0) (hn : n ≤ 255) : headW t n = bl (encH t.toNat ++ encL n) := by
  unfold headW
  have c := rightN_cases t
  have e1 : bex (IntKind.u64.wrap t) (rightN t).toNat = bl (encH t.toNat) := by
    rcases c with c | ⟨c, h1, h2⟩ | ⟨c, h1, h2⟩
    · exact absurd c h
    · rw [c, u64_wrap (by omega) (by omega)]
      obtain ⟨T, rfl⟩ : ∃ T : Nat, t = T := ⟨t.toNat, by omega⟩
      have : T < 256 := by omega
      simp only [Int.toNat_natCast, encH, this, if_true]
      show [AV.int .u8 ((T : Int) / 256 ^ 0 % 256)] = [byte (UInt8.ofNat T)]
      rw [byte_ofNat this]
      congr 2; simp; omega
    · rw [c, u64_wrap (by omega) (by omega)]
      obtain ⟨T, rfl⟩ : ∃ T : Nat, t = T := ⟨t.toNat, by omega⟩
      have h3 : ¬ T < 256 := by omega
      simp only [Int.toNat_natCast, encH, h3, if_false]
      show [AV.int .u8 ((T : Int) / 256 ^ 1 % 256), AV.int .u8 ((T : Int) / 256 ^ 0 % 256)] = [byte (UInt8.ofNat (T / 256)), byte (UInt8.ofNat (T % 256))]
      rw [byte_ofNat (by omega), byte_ofNat (by omega)]
      congr 2
      · simp; omega
      · congr 2; simp
  have e2 : AV.int .u8 (IntKind.u8.wrap (n : Int)) = byte (UInt8.ofNat n) := by
    rw [byte_ofNat (by omega), u8_mod]; congr 1; omega
  rw [e1, e2, bl_append, List.append_assoc]
  congr 1
  unfold encL
  by_cases h : 128 ≤ n
  · rw [if_pos h, if_neg (by omega)]; rfl
  · rw [if_neg h, if_pos (by omega)]; rfl

/-- What is asked of tags behind others. -/
def OKs : List (Int × List UInt8) → List (Int × List UInt8) → Prop
  | _, [] => True
  | pre, (t, d) :: r => rightN t ≠ 0 ∧ knownA (tgs pre) t = false ∧ d.length ≤ 255 ∧ OKs (pre ++ [(t, d)]) r

theorem writeS_oks : ∀ (T pre : List (Int × List UInt8)) (acc : List AV), OKs pre T → writeS pre acc T = (acc ++ bl (encs T), 0)
  | [], pre, acc, _ => by simp [writeS, encs]
  | (t, d) :: r, pre, acc, ⟨h1, h2, h3, h4⟩ => by
    rw [writeS, if_neg (by simp [h1, h2]), if_neg (by omega), writeS_oks r _ _ h4, head_enc h1 h3]
    simp [encs, enc]
theorem oks_writeS : ∀ (T pre : List (Int × List UInt8)) (acc : List AV), (writeS pre acc T).2 = 0 → OKs pre T
  | [], _, _, _ => trivial
  | (t, d) :: r, pre, acc, h => by
    rw [writeS] at h
    split at h
    · simp at h
    · rename_i h1
      split at h
      · simp at h
      · rename_i h2
        exact ⟨fun e => h1 (.inl e), by cases hk : knownA (tgs pre) t with | false => rfl | true => exact absurd (.inr hk) h1, by omega, oks_writeS r _ _ h⟩
theorem oks_append : ∀ (T pre S : List (Int × List UInt8)), OKs pre (T ++ S) ↔ OKs pre T ∧ OKs (pre ++ T) S
  | [], pre, S => by simp [OKs]
  | (t, d) :: r, pre, S => by
    simp only [List.cons_append, OKs, oks_append r, and_assoc, List.append_assoc, List.cons_append, List.nil_append]

theorem getD_app (p r : List UInt8) (i : Nat) : (p ++ r).getD (p.length + i) 0 = r.getD i 0 := by
  simp [List.getD_eq_getElem?_getD, List.getElem?_append_right]
theorem getD_app0 (p r : List UInt8) : (p ++ r).getD p.length 0 = r.getD 0 0 := getD_app p r 0

theorem enc_pos (t : Int) (d : List UInt8) : 2 ≤ (enc t d).length := by
  unfold enc encH encL; split <;> split <;> simp <;> omega

/-- A number that is a tag, in bytes. -/
theorem rightN_spec {t : Int} (h : rightN t ≠ 0) : ∃ T : Nat, t = T ∧ ((T < 255 ∧ T % 32 ≠ 31 ∧ 0 < T) ∨ (255 < T ∧ T / 256 < 255 ∧ T / 256 % 32 = 31 ∧ T % 256 < 128)) := by
  have c := rightN_cases t
  obtain ⟨T, rfl⟩ : ∃ T : Nat, t = T := ⟨t.toNat, by rcases c with c | c | c <;> omega⟩
  refine ⟨T, rfl, ?_⟩
  have hT : T < 2 ^ 63 := by rcases c with c | c | c <;> omega
  rw [rightN_nat hT] at h
  split at h
  · rename_i h1; exact .inl ⟨h1.2.1, h1.2.2, h1.1⟩
  · split at h
    · rename_i h2; exact .inr ⟨h2.1, h2.2.1, h2.2.2.1, h2.2.2.2⟩
    · exact absurd rfl h

/-- The tag's own bytes, with whatever behind. -/
theorem tag_fwd {t : Int} (h : rightN t ≠ 0) (p s : List UInt8) (l : List AV) (hk : knownA l t = false) : tagR (p ++ (encH t.toNat ++ s)) p.length l = (t, 0, p.length + (encH t.toNat).length) := by
  obtain ⟨T, rfl, hT⟩ := rightN_spec h
  have hv : tagV (p ++ (encH T ++ s)) p.length = ((T : Int), p.length + (encH T).length) ∧ (moreB ((p ++ (encH T ++ s)).getD p.length 0).toNat = true → 2 ≤ (encH T).length) := by
    rw [getD_app0]
    unfold tagV
    rw [getD_app0, getD_app]
    rcases hT with ⟨h1, h2, h3⟩ | ⟨h1, h2, h3, h4⟩
    · have e : encH T = [UInt8.ofNat T] := by unfold encH; rw [if_pos (by omega)]
      rw [e]
      have e2 : (([UInt8.ofNat T] ++ s).getD 0 0).toNat = T := by simp; omega
      rw [e2, moreB_eq T (by omega)]
      simp [h2]
    · have e : encH T = [UInt8.ofNat (T / 256), UInt8.ofNat (T % 256)] := by unfold encH; rw [if_neg (by omega)]
      rw [e]
      have e2 : (([UInt8.ofNat (T / 256), UInt8.ofNat (T % 256)] ++ s).getD 0 0).toNat = T / 256 := by simp; omega
      have e3 : (([UInt8.ofNat (T / 256), UInt8.ofNat (T % 256)] ++ s).getD 1 0).toNat = T % 256 := by simp
      rw [e2, e3, moreB_eq _ (by omega), or_i64 (by omega) (by omega)]
      have h255 : T / 256 ≠ 255 := by omega
      simp only [h3, h255, ne_eq, not_false_eq_true, decide_true, Bool.and_self, cond_true]
      refine ⟨?_, by simp⟩
      congr 1
      omega
  have lp : 1 ≤ (encH T).length := by unfold encH; split <;> simp
  unfold tagR
  simp only [Int.toNat_natCast]
  rw [hv.1, if_neg (by simp; omega), if_neg, if_neg]
  · rintro (e | e)
    · exact h e
    · simp only at e; rw [hk] at e; simp at e
  · rintro ⟨h1, h2⟩
    have := hv.2 h1
    simp at h2; omega

theorem size_fwd {n : Nat} (h : n ≤ 255) (p s : List UInt8) : sizeR (p ++ (encL n ++ s)) p.length = (n, 0, p.length + (encL n).length) := by
  unfold sizeR
  rw [getD_app0, getD_app]
  by_cases h1 : n < 128
  · have e : encL n = [UInt8.ofNat n] := by unfold encL; rw [if_pos h1]
    rw [e]
    have e2 : (([UInt8.ofNat n] ++ s).getD 0 0).toNat = n := by simp; omega
    rw [e2, if_neg (by simp), if_pos h1]; rfl
  · have e : encL n = [129, UInt8.ofNat n] := by unfold encL; rw [if_neg h1]
    rw [e]
    have e2 : (([129, UInt8.ofNat n] ++ s).getD 0 0).toNat = 129 := rfl
    have e3 : (([129, UInt8.ofNat n] ++ s).getD 1 0).toNat = n := by simp; omega
    rw [e2, e3, if_neg (by simp), if_neg (by omega), if_neg (by simp), if_neg (by simp), if_neg h1]; rfl

theorem step_fwd {t : Int} {d : List UInt8} (h : rightN t ≠ 0) (hd : d.length ≤ 255) (p s : List UInt8) (l : List AV) (hk : knownA l t = false) (hl : l.length < 20) :
    stepR (p ++ (enc t d ++ s)) p.length l = (0, p.length + (enc t d).length, l ++ [tg t (bl d)]) := by
  have ea : p ++ (enc t d ++ s) = p ++ (encH t.toNat ++ (encL d.length ++ d ++ s)) := by simp [enc]
  have eb : p ++ (enc t d ++ s) = (p ++ encH t.toNat) ++ (encL d.length ++ (d ++ s)) := by simp [enc]
  have ec : p ++ (enc t d ++ s) = (p ++ encH t.toNat ++ encL d.length) ++ (d ++ s) := by simp [enc]
  have q1 : tagR (p ++ (enc t d ++ s)) p.length l = (t, 0, p.length + (encH t.toNat).length) := by rw [ea]; exact tag_fwd h p _ l hk
  have q2 : sizeR (p ++ (enc t d ++ s)) (p.length + (encH t.toNat).length) = (d.length, 0, p.length + (encH t.toNat).length + (encL d.length).length) := by
    have := size_fwd hd (p ++ encH t.toNat) (d ++ s)
    rw [List.length_append] at this
    rw [eb]; exact this
  unfold stepR
  rw [if_neg (by omega), q1, if_neg (by simp)]
  simp only
  rw [q2, if_neg (by simp)]
  simp only
  rw [if_neg (by simp [enc]; omega)]
  have q3 : (p ++ (enc t d ++ s)).drop (p.length + (encH t.toNat).length + (encL d.length).length) = d ++ s := by
    rw [ec]
    have : p.length + (encH t.toNat).length + (encL d.length).length = (p ++ encH t.toNat ++ encL d.length).length := by simp; omega
    rw [this, List.drop_left]
  rw [q3, List.take_left]
  simp [enc]; omega

theorem take_in {α : Type} (a b : List α) (c : Nat) (h : c ≤ a.length) : (a ++ b).take c = a.take c := by
  rw [List.take_append_of_le_length h]
theorem take_out {α : Type} (a b : List α) (c : Nat) (h : a.length ≤ c) : (a ++ b).take c = a ++ b.take (c - a.length) := by
  rw [List.take_append, List.take_of_length_le h]

/-- Cut within a tag, it is too short. -/
theorem step_cut {t : Int} {d : List UInt8} (h : rightN t ≠ 0) (hd : d.length ≤ 255) (p : List UInt8) (l : List AV) (hk : knownA l t = false) (hl : l.length < 20) {c : Nat} (h0 : 0 < c) (hc : c < (enc t d).length) :
    (stepR (p ++ (enc t d).take c) p.length l).1 = 3 := by
  have h1 : 1 ≤ (encH t.toNat).length := by unfold encH; split <;> simp
  have h2 : 1 ≤ (encL d.length).length := by unfold encL; split <;> simp
  have lc : ((enc t d).take c).length = c := by rw [List.length_take]; omega
  have le : (enc t d).length = (encH t.toNat).length + (encL d.length).length + d.length := by simp [enc]; omega
  unfold stepR
  rw [if_neg (by omega)]
  by_cases c1 : c < (encH t.toNat).length
  · -- within the tag
    obtain ⟨T, rfl, hT⟩ := rightN_spec h
    rcases hT with ⟨a1, a2, a3⟩ | ⟨a1, a2, a3, a4⟩
    · have e : encH T = [UInt8.ofNat T] := by unfold encH; rw [if_pos (by omega)]
      simp only [Int.toNat_natCast, e, List.length_cons, List.length_nil] at c1; omega
    · have e : encH T = [UInt8.ofNat (T / 256), UInt8.ofNat (T % 256)] := by unfold encH; rw [if_neg (by omega)]
      have ec : c = 1 := by simp only [Int.toNat_natCast, e, List.length_cons, List.length_nil] at c1; omega
      have et : (enc (T : Int) d).take c = [UInt8.ofNat (T / 256)] := by rw [ec]; simp [enc, e]
      rw [et]
      have q : tagR (p ++ [UInt8.ofNat (T / 256)]) p.length l = (0, 3, p.length + 1) := by
        unfold tagR
        rw [if_neg (by simp), if_pos]
        refine ⟨?_, by simp⟩
        rw [getD_app0]
        have e2 : (([UInt8.ofNat (T / 256)] : List UInt8).getD 0 0).toNat = T / 256 := by simp; omega
        have h255 : T / 256 ≠ 255 := by omega
        rw [e2, moreB_eq _ (by omega)]
        simp [a3, h255]
      rw [q, if_pos (by simp)]
  · have e1 : (enc t d).take c = encH t.toNat ++ (encL d.length ++ d).take (c - (encH t.toNat).length) := by
      unfold enc; rw [List.append_assoc, take_out _ _ _ (by omega)]
    have q1 : tagR (p ++ (enc t d).take c) p.length l = (t, 0, p.length + (encH t.toNat).length) := by rw [e1]; exact tag_fwd h p _ l hk
    rw [q1, if_neg (by simp)]
    simp only
    by_cases c2 : c < (encH t.toNat).length + (encL d.length).length
    · -- within the length
      have q2 : (sizeR (p ++ (enc t d).take c) (p.length + (encH t.toNat).length)).2.1 = 3 := by
        have e2 : p ++ (enc t d).take c = (p ++ encH t.toNat) ++ (encL d.length).take (c - (encH t.toNat).length) := by
          rw [e1, take_in _ _ _ (by omega), List.append_assoc]
        have lp : p.length + (encH t.toNat).length = (p ++ encH t.toNat).length := by simp
        rw [e2, lp]
        unfold sizeR
        by_cases c3 : c = (encH t.toNat).length
        · rw [if_pos (by rw [c3]; simp)]
        · have ll : (encL d.length).length = 2 := by
            have : (encL d.length).length ≤ 2 := by unfold encL; split <;> simp
            omega
          have eL : encL d.length = [129, UInt8.ofNat d.length] := by
            unfold encL at ll ⊢; split at ll
            · simp at ll
            · rename_i hh; rw [if_neg hh]
          have ec : c - (encH t.toNat).length = 1 := by omega
          rw [ec, eL]
          rw [getD_app0]
          show (if _ then _ else if ((129 : UInt8)).toNat < 128 then _ else if ((129 : UInt8)).toNat ≠ 129 then _ else _ : Nat × Int × Nat).2.1 = 3
          rw [if_neg (by simp), if_neg (by decide), if_neg (by decide), if_pos (by simp; omega)]
      rw [if_pos (by rw [q2]; decide), q2]
    · -- within the data
      have e2 : p ++ (enc t d).take c = (p ++ encH t.toNat) ++ (encL d.length ++ d.take (c - (encH t.toNat).length - (encL d.length).length)) := by
        rw [e1, take_out _ _ _ (by omega), List.append_assoc]
      have q2 : sizeR (p ++ (enc t d).take c) (p.length + (encH t.toNat).length) = (d.length, 0, p.length + (encH t.toNat).length + (encL d.length).length) := by
        have := size_fwd hd (p ++ encH t.toNat) (d.take (c - (encH t.toNat).length - (encL d.length).length))
        rw [List.length_append] at this
        rw [e2]; exact this
      rw [q2, if_neg (by simp)]
      simp only
      rw [if_pos (by rw [List.length_append, lc]; omega)]

theorem tgs_app (A B : List (Int × List UInt8)) : tgs (A ++ B) = tgs A ++ tgs B := by simp [tgs]
@[simp] theorem tgs_len (A : List (Int × List UInt8)) : (tgs A).length = A.length := by simp [tgs]

/-- What is written is parsed. -/
theorem parse_fwd : ∀ (T pre : List (Int × List UInt8)) (p : List UInt8) (m : Nat), OKs pre T → (pre ++ T).length ≤ 20 → (encs T).length ≤ m → parseR (p ++ encs T) m p.length (tgs pre) = (tgs (pre ++ T), 0)
  | [], pre, p, m, _, _, _ => by
    cases m with
    | zero => simp [parseR]
    | succ m => rw [parseR, if_pos (by simp [encs])]; simp
  | (t, d) :: r, pre, p, m, ⟨h1, h2, h3, h4⟩, hl, hm => by
    have he := enc_pos t d
    cases m with
    | zero => simp [encs] at hm; rw [hm.1] at he; simp at he
    | succ m =>
      simp only [List.length_append, List.length_cons] at hl
      have s := step_fwd h1 h3 p (encs r) (tgs pre) h2 (by simp; omega)
      have ee : encs ((t, d) :: r) = enc t d ++ encs r := rfl
      rw [parseR, ee, if_neg (by simp; omega), s, if_neg (by simp)]
      simp only
      have := parse_fwd r (pre ++ [(t, d)]) (p ++ enc t d) m h4 (by simp; omega) (by simp [encs] at hm; omega)
      rw [tgs_app, List.length_append, List.append_assoc] at this
      rw [show tgs [(t, d)] = [tg t (bl d)] from rfl] at this
      rw [this, List.append_assoc]; rfl

theorem parse_cut : ∀ (T pre : List (Int × List UInt8)) (p : List UInt8) (m c : Nat), OKs pre T → (pre ++ T).length ≤ 20 → c ≤ m → c < (encs T).length →
    (parseR (p ++ (encs T).take c) m p.length (tgs pre)).2 = 3 ∨ (parseR (p ++ (encs T).take c) m p.length (tgs pre)).2 = 0 ∧ (parseR (p ++ (encs T).take c) m p.length (tgs pre)).1.length < (pre ++ T).length
  | [], pre, p, m, c, _, _, _, hc => by simp [encs] at hc
  | (t, d) :: r, pre, p, m, c, ⟨h1, h2, h3, h4⟩, hl, hm, hc => by
    have ee : encs ((t, d) :: r) = enc t d ++ encs r := rfl
    simp only [List.length_append, List.length_cons] at hl
    cases m with
    | zero =>
      refine .inr ?_
      rw [parseR]
      simp
    | succ m =>
      by_cases h0 : c = 0
      · subst h0
        refine .inr ?_
        rw [parseR, if_pos (by simp)]
        simp
      · rw [parseR, if_neg (by rw [List.length_append, List.length_take]; omega)]
        by_cases hin : c < (enc t d).length
        · have s := step_cut h1 h3 p (tgs pre) h2 (by simp; omega) (by omega) hin
          rw [ee, take_in _ _ _ (by omega), if_pos (by rw [s]; decide)]
          exact .inl s
        · have s := step_fwd h1 h3 p ((encs r).take (c - (enc t d).length)) (tgs pre) h2 (by simp; omega)
          have he := enc_pos t d
          have := parse_cut r (pre ++ [(t, d)]) (p ++ enc t d) m (c - (enc t d).length) h4 (by simp; omega) (by omega) (by rw [ee, List.length_append] at hc; omega)
          rw [ee, take_out _ _ _ (by omega), s, if_neg (by simp)]
          simp only
          rw [tgs_app, List.length_append, List.append_assoc, show tgs [(t, d)] = [tg t (bl d)] from rfl, List.append_assoc] at this
          exact this

/-- What is parsed is written as it was: a tag. -/
theorem tag_bwd {b : List UInt8} {k : Nat} {l : List AV} (h : (tagR b k l).2.1 = 0) : rightN (tagR b k l).1 ≠ 0 ∧ knownA l (tagR b k l).1 = false ∧ ∃ s, b.drop k = encH (tagR b k l).1.toNat ++ s ∧ (tagR b k l).2.2 = k + (encH (tagR b k l).1.toNat).length := by
  unfold tagR at h ⊢
  split at h
  · simp at h
  · rename_i h1
    split at h
    · simp at h
    · rename_i h2
      split at h
      · simp at h
      · rename_i h3
        rw [if_neg h1, if_neg h2, if_neg h3]
        have r0 : rightN (tagV b k).1 ≠ 0 := fun e => h3 (.inl e)
        refine ⟨r0, by cases hk : knownA l (tagV b k).1 with | false => rfl | true => exact absurd (.inr hk) h3, ?_⟩
        have hb0 := (b.getD k 0).toNat_lt
        have hb1 := (b.getD (k + 1) 0).toNat_lt
        have d0 : b.drop k = b.getD k 0 :: b.drop (k + 1) := by
          rw [List.drop_eq_getElem_cons (by omega), getD_lt (by omega)]
        cases hm : moreB (b.getD k 0).toNat with
        | false =>
          have v : tagV b k = (((b.getD k 0).toNat : Int), k + 1) := by unfold tagV; rw [hm]; rfl
          rw [v] at r0 ⊢
          simp only [Int.toNat_natCast]
          have e : encH (b.getD k 0).toNat = [b.getD k 0] := by
            unfold encH; rw [if_pos (by omega)]; simp
          rw [e]
          exact ⟨_, d0, rfl⟩
        | true =>
          have hk1 : ¬ b.length ≤ k + 1 := fun e => h2 ⟨hm, e⟩
          have d1 : b.drop (k + 1) = b.getD (k + 1) 0 :: b.drop (k + 2) := by
            rw [List.drop_eq_getElem_cons (by omega), getD_lt (by omega)]
          have v : tagV b k = ((((b.getD k 0).toNat * 256 + (b.getD (k + 1) 0).toNat : Nat) : Int), k + 2) := by
            unfold tagV; rw [hm]; simp only [cond_true]; rw [or_i64 (by omega) (by omega)]
          rw [moreB_eq _ (by omega)] at hm
          simp only [Bool.and_eq_true, decide_eq_true_eq] at hm
          rw [v] at r0 ⊢
          simp only [Int.toNat_natCast]
          have e : encH ((b.getD k 0).toNat * 256 + (b.getD (k + 1) 0).toNat) = [b.getD k 0, b.getD (k + 1) 0] := by
            unfold encH
            rw [if_neg (by omega)]
            have e1 : ((b.getD k 0).toNat * 256 + (b.getD (k + 1) 0).toNat) / 256 = (b.getD k 0).toNat := by omega
            have e2 : ((b.getD k 0).toNat * 256 + (b.getD (k + 1) 0).toNat) % 256 = (b.getD (k + 1) 0).toNat := by omega
            rw [e1, e2]; simp
          rw [e]
          exact ⟨b.drop (k + 2), by rw [d0, d1]; rfl, rfl⟩

theorem size_bwd {b : List UInt8} {k : Nat} (h : (sizeR b k).2.1 = 0) : ∃ s, b.drop k = encL (sizeR b k).1 ++ s ∧ (sizeR b k).2.2 = k + (encL (sizeR b k).1).length := by
  unfold sizeR at h ⊢
  split at h
  · simp at h
  · rename_i h1
    rw [if_neg h1]
    have hb0 := (b.getD k 0).toNat_lt
    have d0 : b.drop k = b.getD k 0 :: b.drop (k + 1) := by
      rw [List.drop_eq_getElem_cons (by omega), getD_lt (by omega)]
    split at h
    · rename_i h2
      rw [if_pos h2]
      have e : encL (b.getD k 0).toNat = [b.getD k 0] := by unfold encL; rw [if_pos h2]; simp
      simp only; rw [e]
      exact ⟨_, d0, rfl⟩
    · rename_i h2
      rw [if_neg h2]
      split at h
      · simp at h
      · rename_i h3
        rw [if_neg h3]
        split at h
        · simp at h
        · rename_i h4
          rw [if_neg h4]
          split at h
          · simp at h
          · rename_i h5
            rw [if_neg h5]
            have d1 : b.drop (k + 1) = b.getD (k + 1) 0 :: b.drop (k + 2) := by
              rw [List.drop_eq_getElem_cons (by omega), getD_lt (by omega)]
            have e0 : b.getD k 0 = 129 := by
              have : (b.getD k 0).toNat = (129 : UInt8).toNat := by show _ = 129; omega
              exact UInt8.toNat_inj.1 this
            have e : encL (b.getD (k + 1) 0).toNat = [129, b.getD (k + 1) 0] := by unfold encL; rw [if_neg h5]; simp
            simp only; rw [e]
            exact ⟨b.drop (k + 2), by rw [d0, d1, e0]; rfl, rfl⟩

theorem drop_of {α : Type} {b e s : List α} {k : Nat} (h : b.drop k = e ++ s) : b.drop (k + e.length) = s := by
  have : b.drop (k + e.length) = (b.drop k).drop e.length := by rw [List.drop_drop]
  rw [this, h, List.drop_left]

theorem step_bwd {b : List UInt8} {k : Nat} {l : List AV} (h : (stepR b k l).1 = 0) : ∃ t d, (stepR b k l).2.2 = l ++ [tg t (bl d)] ∧ rightN t ≠ 0 ∧ knownA l t = false ∧ d.length ≤ 255 ∧ l.length < 20 ∧ b.drop k = enc t d ++ b.drop (stepR b k l).2.1 := by
  have h20 := stepR_20 h
  unfold stepR at h ⊢
  rw [if_neg (by omega)] at h ⊢
  split at h
  · rename_i h1; exact absurd h h1
  · rename_i h1
    rw [if_neg h1]
    split at h
    · rename_i h2; exact absurd h h2
    · rename_i h2
      rw [if_neg h2]
      split at h
      · simp at h
      · rename_i h3
        rw [if_neg h3]
        obtain ⟨t1, t2, s1, t3, t4⟩ := tag_bwd (b := b) (k := k) (l := l) (by simpa using h1)
        obtain ⟨s2, u1, u2⟩ := size_bwd (b := b) (k := (tagR b k l).2.2) (by simpa using h2)
        have k1 := drop_of t3
        have k2 := drop_of u1
        rw [← t4] at k1
        rw [← u2] at k2
        obtain ⟨n, hn⟩ : ∃ n, n = (sizeR b (tagR b k l).2.2).1 := ⟨_, rfl⟩
        obtain ⟨q, hq⟩ : ∃ q, q = (sizeR b (tagR b k l).2.2).2.2 := ⟨_, rfl⟩
        rw [← hn, ← hq] at h3
        rw [← hq] at k2
        rw [← hn] at u1
        have ld : ((b.drop q).take n).length = n := by rw [List.length_take, List.length_drop]; omega
        have hn255 : n ≤ 255 := by
          rw [hn]
          have := (b.getD (tagR b k l).2.2 0).toNat_lt
          have := (b.getD ((tagR b k l).2.2 + 1) 0).toNat_lt
          unfold sizeR; repeat' split
          all_goals (simp only; omega)
        refine ⟨(tagR b k l).1, (b.drop q).take n, by simp only [← hn, ← hq], t1, t2, by omega, by omega, ?_⟩
        simp only [← hn, ← hq]
        unfold enc
        rw [ld, t3, ← k1, u1, ← k2, List.append_assoc, List.append_assoc]
        congr 1; congr 1
        rw [← List.drop_drop, List.take_append_drop]

theorem parse_bwd (b : List UInt8) : ∀ (m k : Nat) (pre : List (Int × List UInt8)) (z : List AV), k ≤ b.length → b.length - k ≤ m → pre.length ≤ 20 → parseR b m k (tgs pre) = (z, 0) → ∃ T, z = tgs (pre ++ T) ∧ OKs pre T ∧ b.drop k = encs T ∧ (pre ++ T).length ≤ 20
  | 0, k, pre, z, hk, hm, hp, h => by
    rw [parseR] at h
    simp only [Prod.mk.injEq, and_true] at h
    subst h
    exact ⟨[], by simp, trivial, by rw [List.drop_eq_nil_of_le (by omega)]; rfl, by simpa using hp⟩
  | m + 1, k, pre, z, hk, hm, hp, h => by
    rw [parseR] at h
    split at h
    · rename_i h1
      simp only [Prod.mk.injEq, and_true] at h
      subst h
      exact ⟨[], by simp, trivial, by rw [List.drop_eq_nil_of_le h1]; rfl, by simpa using hp⟩
    · rename_i h1
      split at h
      · rename_i h2
        simp only [Prod.mk.injEq] at h
        exact absurd h.2 h2
      · rename_i h2
        have h2 : (stepR b k (tgs pre)).1 = 0 := by simpa using h2
        obtain ⟨s1, s2, s3⟩ := stepR_le b k (tgs pre) (by omega) h2
        obtain ⟨t, d, e1, e2, e3, e4, e5, e6⟩ := step_bwd h2
        have e7 : tgs pre ++ [tg t (bl d)] = tgs (pre ++ [(t, d)]) := by rw [tgs_app]; rfl
        rw [e1, e7] at h
        obtain ⟨T, f1, f2, f3, f4⟩ := parse_bwd b m _ _ z s2 (by omega) (by simp at e5 ⊢; omega) h
        exact ⟨(t, d) :: T, by rw [f1]; simp, ⟨e2, e3, e4, f2⟩, by rw [e6, f3]; rfl, by simpa using f4⟩

/-- Tags that may be. -/
theorem encs_len : ∀ (T : List (Int × List UInt8)), (∀ p ∈ T, p.2.length ≤ 30) → (encs T).length ≤ 34 * T.length
  | [], _ => by simp [encs]
  | (t, d) :: r, h => by
    have h1 := h (t, d) (by simp)
    have h2 := encs_len r fun p hp => h p (by simp [hp])
    have a1 : (encH t.toNat).length ≤ 2 := by unfold encH; split <;> simp
    have a2 : (encL d.length).length ≤ 2 := by unfold encL; split <;> simp
    simp only [encs, enc, List.length_append, List.length_cons] at h1 ⊢
    omega

theorem tags_from (L : List (Int × List UInt8)) (hL : L.length ≤ 40) : ∀ (m i : Nat) (n : Int) (T : List (Int × List UInt8)), L.length - i ≤ m → OKs [] T → T.length ≤ 6 → (∀ p ∈ T, p.2.length ≤ 30) →
    ∃ T', run (M_comptoirplay_Tags (tgs L)) (M_comptoirplay_Tags (tgs L) (n, (i : Int), tgs T)) = some (tgs T') ∧ OKs [] T' ∧ T' ≠ [] ∧ T'.length ≤ 6 ∧ ∀ p ∈ T', p.2.length ≤ 30 := by
  intro m
  have fin : ∀ (i : Nat) (n : Int) (T : List (Int × List UInt8)), (L.length ≤ i ∨ 6 ≤ T.length) → OKs [] T → T.length ≤ 6 → (∀ p ∈ T, p.2.length ≤ 30) →
      ∃ T', run (M_comptoirplay_Tags (tgs L)) (M_comptoirplay_Tags (tgs L) (n, (i : Int), tgs T)) = some (tgs T') ∧ OKs [] T' ∧ T' ≠ [] ∧ T'.length ≤ 6 ∧ ∀ p ∈ T', p.2.length ≤ 30 := by
    intro i n T hi h1 h2 h3
    have q : (decide ((i : Int) < ((tgs L).length : Int)) = false) ∨ (decide ((i : Int) < ((tgs L).length : Int)) = true ∧ decide (((tgs T).length : Int) < 6) = false) := by
      rw [tgs_len, tgs_len]
      by_cases hh : (i : Int) < (L.length : Int)
      · exact .inr ⟨by simp [hh], by simp; omega⟩
      · exact .inl (by simp [hh])
    by_cases hT : T = []
    · subst hT
      have e0 : tgs ([] : List (Int × List UInt8)) = [] := rfl
      have o149 : OKs [] [((149 : Int), [(1 : UInt8)])] := oks_writeS _ [] [] (by kernel_rfl)
      refine ⟨[(149, [1])], ?_, o149, by simp, by simp, by simp⟩
      rw [e0] at q ⊢
      rcases q with q | ⟨q, q'⟩
      · exact run_inr (by simp only [M_comptoirplay_Tags, Tr.val_c, Tr.val_r, q, cond_false]; rfl)
      · exact run_inr (by simp only [M_comptoirplay_Tags, Tr.val_c, Tr.val_r, q, q', cond_true, cond_false]; rfl)
    · have hl : ¬ ((((tgs T).length : Nat) : Int) == 0) = true := by
        rw [beq_iff_eq, tgs_len]; have := List.length_pos_iff.2 hT; omega
      have hl : ((((tgs T).length : Nat) : Int) == 0) = false := by simpa using hl
      refine ⟨T, ?_, h1, hT, h2, h3⟩
      rcases q with q | ⟨q, q'⟩
      · exact run_inr (by simp only [M_comptoirplay_Tags, Tr.val_c, Tr.val_r, q, hl, beq_self_eq_true, cond_true, cond_false])
      · exact run_inr (by simp only [M_comptoirplay_Tags, Tr.val_c, Tr.val_r, q, q', hl, beq_self_eq_true, cond_true, cond_false])
  induction m with
  | zero => intro i n T hm h1 h2 h3; exact fin i n T (.inl (by omega)) h1 h2 h3
  | succ m ih =>
    intro i n T hm h1 h2 h3
    by_cases hi : L.length ≤ i
    · exact fin i n T (.inl hi) h1 h2 h3
    by_cases h6 : 6 ≤ T.length
    · exact fin i n T (.inr h6) h1 h2 h3
    have q1 : (i : Int) < ((tgs L).length : Int) := by rw [tgs_len]; omega
    have q2 : ((tgs T).length : Int) < 6 := by rw [tgs_len]; omega
    have q3 : (0 : Int) ≤ i := by omega
    obtain ⟨t, ht⟩ : ∃ t, t = L[i].1 := ⟨_, rfl⟩
    obtain ⟨d, hd⟩ : ∃ d, d = L[i].2 := ⟨_, rfl⟩
    have g : (tgs L).getD (i : Int).toNat (.agg [.int .i64 0, .slice 1 (.int .u8) [] .ro]) = tg t (bl d) := by
      rw [Int.toNat_natCast, tgs_getD L i (by omega), ht, hd]
    obtain ⟨c, hc⟩ : ∃ c : Nat, (if 30 < ((bl d).length : Int) then 30 else ((bl d).length : Int)) = (c : Int) ∧ c ≤ 30 ∧ c ≤ d.length := by
      rw [length_bl]
      by_cases h : 30 < (d.length : Int)
      · rw [if_pos h]; exact ⟨30, rfl, by omega, by omega⟩
      · rw [if_neg h]; exact ⟨d.length, rfl, by omega, by omega⟩
    obtain ⟨c1, c2, c3⟩ := hc
    have q4 : (0 : Int) ≤ (c : Int) := by omega
    have q5 : (c : Int) ≤ ((bl d).length : Int) := by rw [length_bl]; omega
    have ed : List.drop 0 (List.take (c : Int).toNat (bl d)) = bl (d.take c) := by rw [Int.toNat_natCast, bl_take, List.drop_zero]
    have lc : (d.take c).length = c := by rw [List.length_take]; omega
    have eg : AV.agg [AV.int .i64 t, AV.slice 1 (.int .u8) (bl (d.take c)) .ro] = tg t (bl (d.take c)) := rfl
    have ea : tgs T ++ [tg t (bl (d.take c))] = tgs (T ++ [(t, d.take c)]) := by rw [tgs_app]; rfl
    have q6 : (bl (d.take c)).length * 2 < 70368744177664 := by rw [length_bl]; omega
    have q7 : (tgs T).length * 33 < 70368744177664 := by rw [tgs_len]; omega
    have q8 : (tgs (T ++ [(t, d.take c)])).length * 33 < 70368744177664 := by rw [tgs_len]; simp; omega
    have W := refWrite_eq (T ++ [(t, d.take c)]) (by simp [TOP]; omega)
    rw [if_neg (by simp; omega)] at W
    have w1 : IntKind.i64.wrap ((i : Int) + 1) = ((i + 1 : Nat) : Int) := by rw [i64_wrap (by omega) (by omega)]; omega
    obtain ⟨o, e, hW⟩ : ∃ o e, writeS [] [] (T ++ [(t, d.take c)]) = (o, e) := ⟨_, _, rfl⟩
    rw [hW] at W
    have again := ih (i + 1) n T (by omega) h1 h2 h3
    by_cases he : e = 0
    · subst he
      have ok2 : OKs [] (T ++ [(t, d.take c)]) := oks_writeS _ [] [] (by rw [hW])
      by_cases hs : IntKind.i64.wrap (n + ((bl (d.take c)).length : Int)) < 200
      · have next := ih (i + 1) (IntKind.i64.wrap (IntKind.i64.wrap (n + ((bl (d.take c)).length : Int)) + 4)) (T ++ [(t, d.take c)]) (by omega) ok2 (by simp; omega) (fun p hp => by
          rcases List.mem_append.1 hp with hp | hp
          · exact h3 p hp
          · rw [List.mem_singleton] at hp; subst hp; simp only; omega)
        rw [run_inl (s := (IntKind.i64.wrap (IntKind.i64.wrap (n + ((bl (d.take c)).length : Int)) + 4), ((i + 1 : Nat) : Int), tgs (T ++ [(t, d.take c)]))) (by
          simp only [M_comptoirplay_Tags, Tr.val_c, Tr.val_r, val_opt, q1, q2, q3, g, tg_tag, tg_data, c1, q4, q5, ed, q6, q7, eg, ea, q8, W, hs, w1, Option.bind_some, Bool.true_and, decide_true, beq_self_eq_true, cond_true])]
        exact next
      · rw [run_inl (s := (n, ((i + 1 : Nat) : Int), tgs T)) (by
          simp only [M_comptoirplay_Tags, Tr.val_c, Tr.val_r, val_opt, q1, q2, q3, g, tg_tag, tg_data, c1, q4, q5, ed, q6, q7, eg, ea, q8, W, hs, w1, Option.bind_some, Bool.true_and, decide_true, decide_false, beq_self_eq_true, cond_true, cond_false])]
        exact again
    · have he' : (e == 0) = false := by rw [beq_eq_false_iff_ne]; exact he
      rw [run_inl (s := (n, ((i + 1 : Nat) : Int), tgs T)) (by
        simp only [M_comptoirplay_Tags, Tr.val_c, Tr.val_r, val_opt, q1, q2, q3, g, tg_tag, tg_data, c1, q4, q5, ed, q6, q7, eg, ea, q8, W, he', w1, Option.bind_some, Bool.true_and, decide_true, decide_false, beq_self_eq_true, cond_true, cond_false])]
      exact again

theorem Tags_eq (L : List (Int × List UInt8)) (hL : L.length ≤ 40) : ∃ T, g_comptoirplay_Tags (tgs L) = some (tgs T) ∧ OKs [] T ∧ T ≠ [] ∧ T.length ≤ 6 ∧ ∀ p ∈ T, p.2.length ≤ 30 := by
  unfold g_comptoirplay_Tags
  rw [run_inl (s := ((0 : Int), ((0 : Nat) : Int), tgs [])) (by simp only [T_comptoirplay_Tags, Tr.val_r]; rfl)]
  exact tags_from L hL L.length 0 0 [] (by omega) trivial (by simp) (by simp)

theorem tlvback_eq (L : List (Int × List UInt8)) (b : List UInt8) (cut : Int) : g_comptoirlaw14_TlvBack (tgs L) (bl b) cut = some true := by
  unfold g_comptoirlaw14_TlvBack
  by_cases hbig : ((bl b).length : Int) > 600
  · rw [run_inl (s := .inl true) (by simp only [T_comptoirlaw14_TlvBack, Tr.val_c, Tr.val_r, hbig, decide_true, cond_true])]
    exact run_inr (by simp only [M_comptoirlaw14_TlvBack, Tr.val_c, Tr.val_r, val_opt, awake14, Option.bind_some, cond_true])
  by_cases h40 : ((tgs L).length : Int) > 40
  · rw [run_inl (s := .inl true) (by simp only [T_comptoirlaw14_TlvBack, Tr.val_c, Tr.val_r, hbig, h40, decide_true, decide_false, cond_false])]
    exact run_inr (by simp only [M_comptoirlaw14_TlvBack, Tr.val_c, Tr.val_r, val_opt, awake14, Option.bind_some, cond_true])
  rw [run_inl (s := .inl false) (by simp only [T_comptoirlaw14_TlvBack, Tr.val_c, Tr.val_r, hbig, h40, decide_false, cond_false])]
  have lb : b.length ≤ 600 := by rw [length_bl] at hbig; omega
  obtain ⟨T, t1, t2, t3, t4, t5⟩ := Tags_eq L (by rw [tgs_len] at h40; omega)
  have lx : (encs T).length ≤ 204 := by have := encs_len T t5; omega
  have W := Write_eq T (by simp [TOP]; omega)
  rw [if_neg (by omega), writeS_oks T [] [] t2, List.nil_append] at W
  have P := Parse_eq (encs T) (by omega)
  have pf := parse_fwd T [] [] (encs T).length t2 (by simpa using (by omega : T.length ≤ 20)) (Nat.le_refl _)
  simp only [List.nil_append, List.length_nil] at pf
  rw [show ([] : List AV) = tgs [] from rfl, pf] at P
  obtain ⟨z, e, hz⟩ : ∃ z e, parseR b b.length 0 [] = (z, e) := ⟨_, _, rfl⟩
  have P2 := Parse_eq b (by omega)
  rw [hz] at P2
  have ss := SameTag_self (tgs T) (by rw [tgs_len]; omega)
  rw [run_inl (s := .inr (.inl (bl (encs T), z, e, false))) (by
    simp only [M_comptoirlaw14_TlvBack, Tr.val_c, Tr.val_r, val_opt, t1, W, P, P2, awake14, ss, Option.bind_some, bne_self_eq_false, Bool.not_true, cond_true, cond_false])]
  -- cut
  have lpos : 0 < (encs T).length := by
    cases T with
    | nil => exact absurd rfl t3
    | cons p r => have := enc_pos p.1 p.2; simp only [encs, List.length_append]; omega
  obtain ⟨a0, a1⟩ := u64_bounds cut
  have wl : IntKind.u64.wrap (((bl (encs T)).length : Nat) : Int) = (encs T).length := by rw [length_bl]; exact u64_wrap (by omega) (by omega)
  have zn : isZ (((encs T).length : Nat) : Int) = false := by
    cases hh : (encs T).length with
    | zero => omega
    | succ n => rfl
  obtain ⟨c, hc, hcl⟩ : ∃ c : Nat, IntKind.i64.wrap (Int.tmod (IntKind.u64.wrap cut) (((encs T).length : Nat) : Int)) = (c : Int) ∧ c < (encs T).length := by
    have m1 := Int.emod_nonneg (IntKind.u64.wrap cut) (b := (((encs T).length : Nat) : Int)) (by omega)
    have m2 := Int.emod_lt_of_pos (IntKind.u64.wrap cut) (b := (((encs T).length : Nat) : Int)) (by omega)
    exact ⟨(IntKind.u64.wrap cut % (((encs T).length : Nat) : Int)).toNat, by rw [tmod_eq a0, i64_wrap (by omega) (by omega)]; omega, by omega⟩
  have c0 : (0 : Int) ≤ (c : Int) := by omega
  have cl : (c : Int) ≤ (((bl (encs T)).length : Nat) : Int) := by rw [length_bl]; omega
  have ed : List.drop 0 (List.take (c : Int).toNat (bl (encs T))) = bl ((encs T).take c) := by rw [Int.toNat_natCast, bl_take, List.drop_zero]
  have P3 := Parse_eq ((encs T).take c) (by rw [List.length_take]; omega)
  have pc := parse_cut T [] [] ((encs T).take c).length c t2 (by simpa using (by omega : T.length ≤ 20)) (by rw [List.length_take]; omega) hcl
  simp only [List.nil_append, List.length_nil] at pc
  rw [show tgs [] = ([] : List AV) from rfl] at pc
  obtain ⟨w, h, hw⟩ : ∃ w h, parseR ((encs T).take c) ((encs T).take c).length 0 [] = (w, h) := ⟨_, _, rfl⟩
  rw [hw] at P3 pc
  simp only at pc
  have last : ∃ s, run (M_comptoirlaw14_TlvBack (tgs L) (bl b) cut) (M_comptoirlaw14_TlvBack (tgs L) (bl b) cut (.inr (.inl (bl (encs T), z, e, false)))) = run (M_comptoirlaw14_TlvBack (tgs L) (bl b) cut) (M_comptoirlaw14_TlvBack (tgs L) (bl b) cut s) ∧ s = .inr (.inr (z, e, false)) := by
    refine ⟨_, ?_, rfl⟩
    rcases pc with rfl | ⟨rfl, hlt⟩
    · exact run_inl (by simp only [M_comptoirlaw14_TlvBack, Tr.val_c, Tr.val_r, val_opt, wl, zn, hc, c0, cl, ed, P3, Option.bind_some, bne_self_eq_false, decide_true, cond_true, cond_false])
    · have n3 : ((0 : Int) != 3) = true := rfl
      have hd : decide (((w.length : Nat) : Int) ≥ (((Option.getD (g_comptoirplay_Tags (tgs L)) []).length : Nat) : Int)) = false := by
        rw [t1, Option.getD_some, tgs_len]; simp; omega
      exact run_inl (by simp only [M_comptoirlaw14_TlvBack, Tr.val_c, Tr.val_r, val_opt, wl, zn, hc, c0, cl, ed, P3, n3, hd, Option.bind_some, bne_self_eq_false, decide_true, cond_true, cond_false])
  obtain ⟨s, hs, rfl⟩ := last
  rw [hs]
  by_cases he : e = 0
  · subst he
    obtain ⟨Z, z1, z2, z3, z4⟩ := parse_bwd b b.length 0 [] z (by omega) (by omega) (by simp) hz
    simp only [List.nil_append, List.drop_zero] at z1 z3 z4
    have W2 := Write_eq Z (by simp [TOP]; omega)
    rw [if_neg (by omega), writeS_oks Z [] [] z2, List.nil_append, ← z3] at W2
    rw [z1]
    exact run_inr (by simp only [M_comptoirlaw14_TlvBack, Tr.val_c, Tr.val_r, val_opt, W2, Option.bind_some, bne_self_eq_false, beq_self_eq_true, cond_true, cond_false])
  · have he' : (e != 0) = true := by rw [bne_iff_ne]; exact he
    exact run_inr (by simp only [M_comptoirlaw14_TlvBack, Tr.val_c, Tr.val_r, he', cond_true, cond_false])

end Go.Proofs.Ytfhgmpeplfjmcaa
