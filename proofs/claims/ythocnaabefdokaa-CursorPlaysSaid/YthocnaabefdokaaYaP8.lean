/- What the printed functions come to, plainly. -/
import Derived.Test.YthocnaabefdokaaYaG8
import Derived.Test.YthocnaabefdokaaCxPl3
namespace Go.Proofs.Ythocnaabefdokaa
open Go.Cx Go.Cx.AV
set_option linter.unusedSimpArgs false
set_option linter.unusedVariables false

/- slices.Concat of two. -/
theorem Grow_eq (n : Int) (h0 : 0 ≤ n) (h : n < 35184372088832) : g_slices_Grow_byte_byte n = some [] := by
  unfold g_slices_Grow_byte_byte
  have w : IntKind.i64.wrap (n - 0) = n := by rw [Int.sub_zero]; exact i64_wrap (by omega) (by omega)
  have hn0 : ¬ (n < 0) := by omega
  have hT : (T_slices_Grow_byte_byte n).val = some (.inl (.inl ())) := by simp only [T_slices_Grow_byte_byte, Tr.val_c, Tr.val_r, hn0]; rfl
  rw [run_inl hT]
  rw [run_inl (s := .inr ())]
  · exact run_inr rfl
  · simp only [M_slices_Grow_byte_byte, Tr.val_c, Tr.val_r, w, List.length_replicate]
    by_cases hn : n > 0
    · have : n.toNat * 2 < 70368744177664 := by omega
      simp [hn, this]
    · simp [hn]

theorem Concat_eq (a b : List AV) (h : a.length + b.length < 17592186044416) : g_slices_Concat_byte_byte [.slice 1 (.int .u8) a .ro, .slice 1 (.int .u8) b .ro] = some (a ++ b) := by
  have e0 : getXs (List.getD [AV.slice 1 (.int .u8) a .ro, .slice 1 (.int .u8) b .ro] (Int.toNat 0) (.slice 1 (.int .u8) [] .ro)) = a := rfl
  have e1 : getXs (List.getD [AV.slice 1 (.int .u8) a .ro, .slice 1 (.int .u8) b .ro] (Int.toNat 1) (.slice 1 (.int .u8) [] .ro)) = b := rfl
  have w0 : IntKind.i64.wrap (0 + (a.length : Int)) = a.length := by rw [Int.zero_add]; exact i64_wrap (by omega) (by omega)
  have w1 : IntKind.i64.wrap ((a.length : Int) + b.length) = ((a.length + b.length : Nat) : Int) := by rw [i64_wrap (by omega) (by omega)]; omega
  have w2 : IntKind.i64.wrap (0 + 1) = 1 := rfl
  have w3 : IntKind.i64.wrap (1 + 1) = 2 := rfl
  have n0 : ¬ ((a.length : Int) < 0) := by omega
  have n1 : ¬ (((a.length + b.length : Nat) : Int) < 0) := by omega
  have l0 : a.length * 2 < 70368744177664 := by omega
  have l1 : (a.length + b.length) * 2 < 70368744177664 := by omega
  have gr := Grow_eq (((a.length + b.length : Nat) : Int)) (by omega) (by omega)
  unfold g_slices_Concat_byte_byte
  rw [run_inl (s := .inl (0, 0)) rfl]
  rw [run_inl (s := .inl ((a.length : Int), 1)) (by simp only [M_slices_Concat_byte_byte, Tr.val_c, Tr.val_r, e0, w0, w2, n0]; rfl)]
  rw [run_inl (s := .inl (((a.length + b.length : Nat) : Int), 2)) (by simp only [M_slices_Concat_byte_byte, Tr.val_c, Tr.val_r, e1, w1, w3, n1]; rfl)]
  rw [run_inl (s := .inr ([], 0)) (by simp only [M_slices_Concat_byte_byte, Tr.val_c, Tr.val_r, gr, opt_some]; rfl)]
  rw [run_inl (s := .inr (a, 1)) (by simp only [M_slices_Concat_byte_byte, Tr.val_c, Tr.val_r, e0, w2, List.nil_append, l0, decide_true, beq_self_eq_true]; rfl)]
  rw [run_inl (s := .inr (a ++ b, 2)) (by simp only [M_slices_Concat_byte_byte, Tr.val_c, Tr.val_r, e1, w3, List.length_append, l1, decide_true, beq_self_eq_true]; rfl)]
  exact run_inr (by simp only [M_slices_Concat_byte_byte, Tr.val_c, Tr.val_r, beq_self_eq_true]; rfl)

/- the cursor -/
theorem shr8 (v : Int) : ∀ i : Nat, i < 8 → IntKind.u8.wrap (shrA .u64 v (8 * (i : Int))) = v / 256 ^ i % 256
  | 0, _ => by rw [u8_mod]; show v.fdiv 1 % 256 = _; rw [Int.fdiv_eq_ediv_of_nonneg _ (by decide)]; rfl
  | 1, _ => by rw [u8_mod]; show v.fdiv 256 % 256 = _; rw [Int.fdiv_eq_ediv_of_nonneg _ (by decide)]; rfl
  | 2, _ => by rw [u8_mod]; show v.fdiv 65536 % 256 = _; rw [Int.fdiv_eq_ediv_of_nonneg _ (by decide)]; rfl
  | 3, _ => by rw [u8_mod]; show v.fdiv 16777216 % 256 = _; rw [Int.fdiv_eq_ediv_of_nonneg _ (by decide)]; rfl
  | 4, _ => by rw [u8_mod]; show v.fdiv 4294967296 % 256 = _; rw [Int.fdiv_eq_ediv_of_nonneg _ (by decide)]; rfl
  | 5, _ => by rw [u8_mod]; show v.fdiv 1099511627776 % 256 = _; rw [Int.fdiv_eq_ediv_of_nonneg _ (by decide)]; rfl
  | 6, _ => by rw [u8_mod]; show v.fdiv 281474976710656 % 256 = _; rw [Int.fdiv_eq_ediv_of_nonneg _ (by decide)]; rfl
  | 7, _ => by rw [u8_mod]; show v.fdiv 72057594037927936 % 256 = _; rw [Int.fdiv_eq_ediv_of_nonneg _ (by decide)]; rfl
  | n + 8, h => by omega

/-- The lowest bytes of a number, the highest first. -/
def bex (v : Int) : Nat → List AV
  | 0 => []
  | i + 1 => .int .u8 (v / 256 ^ i % 256) :: bex v i
@[simp] theorem length_bex (v : Int) (i : Nat) : (bex v i).length = i := by induction i <;> simp [bex, *]

theorem set_last (r : List AV) (x y : AV) (j : Nat) : (List.replicate (j + 1) x ++ r).set j y = List.replicate j x ++ y :: r := by
  induction j with
  | zero => rfl
  | succ j ih => rw [List.replicate_succ (n := j + 1), List.cons_append, List.set_cons_succ, ih]; rfl

theorem Put_eq (x0 : List AV) (v n : Int) (m : Nat) (hx : x0.length < 8796093022208) (hm : m ≤ 8) (hn : (if 8 < (if 0 > n then 0 else n) then 8 else if 0 > n then 0 else n) = (m : Int)) : g_cursor_Put x0 v n = some (x0 ++ bex v m) := by
  unfold g_cursor_Put
  have hr : m * 2 < 70368744177664 := by omega
  have h0 : (0 : Int) ≤ m := by omega
  rw [run_inl (s := ((m : Int), (m : Int), List.replicate m (.int .u8 0), 0))]
  rotate_left
  · simp only [T_cursor_Put, Tr.val_c, Tr.val_r, hn, h0, Int.toNat_natCast, List.length_replicate, hr, decide_true, cond_true, beq_self_eq_true]
  have key : ∀ k i, i + k = m → run (M_cursor_Put x0 v n) (M_cursor_Put x0 v n ((m : Int), (m : Int), List.replicate k (.int .u8 0) ++ bex v i, (i : Int))) = some (x0 ++ bex v m) := by
    intro k
    induction k with
    | zero =>
      intro i hi
      have : i = m := by omega
      subst this
      have hlt : ¬ ((i : Int) < i) := by omega
      have hc := Concat_eq x0 (bex v i) (by simp; omega)
      exact run_inr (by simp only [M_cursor_Put, Tr.val_c, Tr.val_r, hlt, List.replicate_zero, List.nil_append, val_opt, hc, Option.bind_some, decide_false, cond_false, beq_self_eq_true, cond_true])
    | succ k ih =>
      intro i hi
      have q1 : (i : Int) < m := by omega
      have w1 : IntKind.i64.wrap (8 * (i : Int)) = 8 * i := i64_wrap (by omega) (by omega)
      have w2 : IntKind.i64.wrap ((m : Int) - 1) = m - 1 := i64_wrap (by omega) (by omega)
      have w3 : IntKind.i64.wrap ((m : Int) - 1 - i) = (k : Int) := by rw [i64_wrap (by omega) (by omega)]; omega
      have w4 : IntKind.i64.wrap ((i : Int) + 1) = ((i + 1 : Nat) : Int) := by rw [i64_wrap (by omega) (by omega)]; omega
      have q2 : (0 : Int) ≤ 8 * i := by omega
      have q3 : (0 : Int) ≤ k := by omega
      have hl : (List.replicate (k + 1) (AV.int .u8 0) ++ bex v i).length = m := by simp; omega
      have hl2 : (List.replicate k (AV.int .u8 0) ++ AV.int .u8 (v / 256 ^ i % 256) :: bex v i).length = m := by simp; omega
      have q4 : (k : Int) < m := by omega
      have q5 : k < m := by omega
      rw [run_inl (s := ((m : Int), (m : Int), List.replicate k (.int .u8 0) ++ bex v (i + 1), ((i + 1 : Nat) : Int)))]
      · exact ih (i + 1) (by omega)
      · simp only [M_cursor_Put, Tr.val_c, Tr.val_r, q1, w1, w2, w3, w4, q2, q3, q4, q5, hl, Int.toNat_natCast, shr8 v i (by omega), decide_true, cond_true, beq_self_eq_true, set_last, hl2]
        rfl
  have := key m 0 (by omega)
  simpa [bex] using this

theorem take_eq (n : Int) (b : List AV) (k : Nat) (hk : k ≤ b.length) (hb : b.length < 8796093022208) :
    g_cursor_Cursor_take_p0500 n b k = some (if n < 0 then ([], 1, b, (k : Int)) else if n > b.length - k then ([], 3, b, (k : Int)) else ((b.drop k).take n.toNat, 0, b, (k : Int) + n)) := by
  unfold g_cursor_Cursor_take_p0500
  have w0 : IntKind.i64.wrap ((b.length : Int) - k) = b.length - k := i64_wrap (by omega) (by omega)
  by_cases h1 : n < 0
  · simp only [T_cursor_Cursor_take_p0500, Tr.val_c, Tr.val_r, h1, decide_true, cond_true, if_true]
  · by_cases h2 : n > (b.length : Int) - k
    · simp only [T_cursor_Cursor_take_p0500, Tr.val_c, Tr.val_r, h1, h2, w0, decide_true, decide_false, cond_true, cond_false, if_true, if_false]
    · have w1 : IntKind.i64.wrap ((k : Int) + n) = k + n := i64_wrap (by omega) (by omega)
      have w2 : IntKind.i64.wrap ((k : Int) + n - n) = k := by rw [i64_wrap (by omega) (by omega)]; omega
      have q1 : (0 : Int) ≤ k + n := by omega
      have q2 : (k : Int) + n ≤ b.length := by omega
      have q3 : (0 : Int) ≤ k := by omega
      have q4 : (k : Int) ≤ k + n := by omega
      have hd : ((b.take ((k : Int) + n).toNat).drop (k : Int).toNat) = (b.drop k).take n.toNat := by
        rw [List.drop_take]; congr 1; omega
      simp only [T_cursor_Cursor_take_p0500, Tr.val_c, Tr.val_r, h1, h2, w0, w1, w2, q1, q2, q3, q4, hd, decide_true, decide_false, cond_true, cond_false, if_false]

theorem read_eq (n : Int) (b : List AV) (k : Int) : g_cursor_read_ftake_0p500 n b k = g_cursor_Cursor_take_p0500 n b k := by
  conv => lhs; unfold g_cursor_read_ftake_0p500
  simp only [T_cursor_read_ftake_0p500, Tr.val_c, Tr.val_r, val_opt]
  cases g_cursor_Cursor_take_p0500 n b k <;> rfl

/-- The number that bytes are. -/
def numOf (l : List AV) : Int := l.foldl (fun a x => bitsA .or .u64 (shlA .u64 a 8) (IntKind.u64.wrap (getI x))) 0

theorem Number_eq (n : Int) (b : List AV) (k : Nat) (hk : k ≤ b.length) (hb : b.length < 8796093022208) :
    g_cursor_Cursor_Number_p0500 n b k = some (if n < 1 then (0, 1, b, (k : Int)) else if n > 8 then (0, 1, b, (k : Int)) else if n > b.length - k then (0, 3, b, (k : Int)) else (numOf ((b.drop k).take n.toNat), 0, b, (k : Int) + n)) := by
  unfold g_cursor_Cursor_Number_p0500
  by_cases h1 : n < 1
  · rw [run_inr (x := (0, 1, b, (k : Int))) (by simp only [T_cursor_Cursor_Number_p0500, Tr.val_c, Tr.val_r, h1, decide_true, cond_true])]
    simp [h1]
  by_cases h2 : n > 8
  · rw [run_inr (x := (0, 1, b, (k : Int))) (by simp only [T_cursor_Cursor_Number_p0500, Tr.val_c, Tr.val_r, h1, h2, decide_true, decide_false, cond_true, cond_false])]
    simp [h1, h2]
  have loop : ∀ (e : Int) (l : List AV) (b2 : List AV) (at' : Int), l.length < 8796093022208 → ∀ m i v, i + m = l.length → run (M_cursor_Cursor_Number_p0500 n b k) (M_cursor_Cursor_Number_p0500 n b k (e, l, (l.length : Int), b2, at', v, (i : Int))) =
      some ((l.drop i).foldl (fun a x => bitsA .or .u64 (shlA .u64 a 8) (IntKind.u64.wrap (getI x))) v, e, b2, at') := by
    intro e l b2 at' hl m
    induction m with
    | zero =>
      intro i v hi
      have hlt : ¬ ((i : Int) < l.length) := by omega
      rw [List.drop_of_length_le (by omega)]
      exact run_inr (by simp only [M_cursor_Cursor_Number_p0500, Tr.val_c, Tr.val_r, hlt, decide_false, cond_false]; rfl)
    | succ m ih =>
      intro i v hi
      have q1 : (i : Int) < l.length := by omega
      have q2 : (0 : Int) ≤ i := by omega
      have q3 : i < l.length := by omega
      have w : IntKind.i64.wrap ((i : Int) + 1) = ((i + 1 : Nat) : Int) := by rw [i64_wrap (by omega) (by omega)]; omega
      have hg : l.getD i (.int .u8 0) = l[i] := by simp [List.getD_eq_getElem?_getD, q3]
      rw [run_inl (s := (e, l, (l.length : Int), b2, at', bitsA .or .u64 (shlA .u64 v 8) (IntKind.u64.wrap (getI l[i])), ((i + 1 : Nat) : Int))) (by simp only [M_cursor_Cursor_Number_p0500, Tr.val_c, Tr.val_r, q1, q2, w, hg, Int.toNat_natCast, decide_true, cond_true]), ih (i + 1) _ (by omega), List.drop_eq_getElem_cons q3, List.foldl_cons]
  have ht := take_eq n b k hk hb
  have h0 : ¬ n < 0 := by omega
  by_cases h3 : n > (b.length : Int) - k
  · rw [run_inl (s := (3, [], ((([] : List AV).length : Nat) : Int), b, (k : Int), 0, ((0 : Nat) : Int)))]
    · rw [loop 3 [] b k (by simp) 0 0 0 rfl]
      simp [h1, h2, h3]
    · simp only [T_cursor_Cursor_Number_p0500, Tr.val_c, Tr.val_r, val_opt, h1, h2, h0, h3, read_eq, ht, Option.bind_some, if_true, if_false, decide_false, cond_false]
      rfl
  · rw [run_inl (s := (0, (b.drop k).take n.toNat, ((((b.drop k).take n.toNat).length : Nat) : Int), b, (k : Int) + n, 0, ((0 : Nat) : Int)))]
    · rw [loop 0 _ b _ (by simp only [List.length_take, List.length_drop]; omega) ((b.drop k).take n.toNat).length 0 0 (by omega)]
      simp only [h1, h2, h3, if_false, List.drop_zero, numOf]
    · simp only [T_cursor_Cursor_Number_p0500, Tr.val_c, Tr.val_r, val_opt, h1, h2, h0, h3, read_eq, ht, Option.bind_some, if_true, if_false, decide_false, cond_false]
      rfl

theorem New_eq (b : List AV) (hb : b.length < 8796093022208) : g_cursor_New b = some (b, 0) := by
  have : b.length * 2 < 70368744177664 := by omega
  unfold g_cursor_New
  simp only [T_cursor_New, Tr.val_c, Tr.val_r, this, decide_true, cond_true]

theorem awake01 : g_comptoirlaw01_awake = some true := by
  have a := Number_eq 2 [.int .u8 1, .int .u8 2, .int .u8 3] 0 (by simp) (by simp)
  have p := Put_eq [] 258 2 2 (by simp) (by omega) (by decide)
  have e1 : (if (2 : Int) < 1 then ((0 : Int), (1 : Int), [AV.int .u8 1, .int .u8 2, .int .u8 3], ((0 : Nat) : Int)) else if (2 : Int) > 8 then (0, 1, [.int .u8 1, .int .u8 2, .int .u8 3], ((0 : Nat) : Int)) else if (2 : Int) > (([AV.int .u8 1, .int .u8 2, .int .u8 3].length : Nat) : Int) - ((0 : Nat) : Int) then (0, 3, [.int .u8 1, .int .u8 2, .int .u8 3], ((0 : Nat) : Int)) else (numOf (([AV.int .u8 1, .int .u8 2, .int .u8 3].drop 0).take (2 : Int).toNat), 0, [.int .u8 1, .int .u8 2, .int .u8 3], ((0 : Nat) : Int) + 2)) = (258, 0, [.int .u8 1, .int .u8 2, .int .u8 3], 2) := by kernel_rfl
  rw [e1] at a
  have a : g_cursor_Cursor_Number_p0500 2 [.int .u8 1, .int .u8 2, .int .u8 3] 0 = some (258, 0, [.int .u8 1, .int .u8 2, .int .u8 3], 2) := a
  unfold g_comptoirlaw01_awake
  simp only [T_comptoirlaw01_awake, Tr.val_c, Tr.val_r, val_opt, a, p, Option.bind_some]
  rfl

/- copies with room behind them -/
theorem Plain_self (A : List AV) (hA : A.length < 8796093022208) : g_comptoirhelp_Plain_byte A A = some true := by
  have h : g_comptoirhelp_Same_byte_00fPlainbyte1_ A A = some true := by
    unfold g_comptoirhelp_Same_byte_00fPlainbyte1_
    rw [run_inl (s := (0 : Int)) (by simp only [T_comptoirhelp_Same_byte_00fPlainbyte1_, Tr.val_c, Tr.val_r, bne_self_eq_false, cond_false])]
    exact run_until (f := fun i => (i : Int)) (n := A.length) (fun i hi => by
      have q1 : (i : Int) < A.length := by omega
      have q2 : (0 : Int) ≤ i := by omega
      have w : IntKind.i64.wrap ((i : Int) + 1) = ((i + 1 : Nat) : Int) := by rw [i64_wrap (by omega) (by omega)]; omega
      simp only [M_comptoirhelp_Same_byte_00fPlainbyte1_, Tr.val_c, Tr.val_r, q1, q2, w, decide_true, cond_true, beq_self_eq_true, Bool.not_true, cond_false]) (by
      have q1 : ¬ ((A.length : Int) < A.length) := by omega
      simp only [M_comptoirhelp_Same_byte_00fPlainbyte1_, Tr.val_c, Tr.val_r, q1, decide_false, cond_false])
  unfold g_comptoirhelp_Plain_byte
  simp only [T_comptoirhelp_Plain_byte, Tr.val_c, Tr.val_r, val_opt, h, Option.bind_some]

theorem Kept_self (A : List AV) (x : Int) (hA : A.length < 8796093022208) : g_comptoirhelp_Kept_byte A [.int .u8 x, .int .u8 x, .int .u8 x] A x = some true := by
  have w : IntKind.i64.wrap ((A.length : Int) + 3) = ((A.length + 3 : Nat) : Int) := by rw [i64_wrap (by omega) (by omega)]; omega
  have l3 : (A ++ [AV.int .u8 x, .int .u8 x, .int .u8 x]).length = A.length + 3 := by simp
  have q1 : ¬ (((A.length + 3 : Nat) : Int) < ((A.length + 3 : Nat) : Int)) := by omega
  have q2 : (0 : Int) ≤ ((A.length + 3 : Nat) : Int) := by omega
  have q3 : ((A.length + 3 : Nat) : Int) ≤ ((A.length + 3 : Nat) : Int) := by omega
  have lx : [AV.int .u8 x, .int .u8 x, .int .u8 x].length = 3 := rfl
  have ht : List.take (A.length + 3) (A ++ [AV.int .u8 x, .int .u8 x, .int .u8 x]) = A ++ [AV.int .u8 x, .int .u8 x, .int .u8 x] := List.take_of_length_le (by rw [l3]; omega)
  have hd : List.drop (A.length + 3) (A ++ [AV.int .u8 x, .int .u8 x, .int .u8 x]) = [] := List.drop_of_length_le (by rw [l3]; omega)
  unfold g_comptoirhelp_Kept_byte
  rw [run_inl (s := (A ++ [AV.int .u8 x, .int .u8 x, .int .u8 x], [], (A.length : Int)))]
  · have step : ∀ j : Nat, j < 3 → (M_comptoirhelp_Kept_byte A [.int .u8 x, .int .u8 x, .int .u8 x] A x (A ++ [AV.int .u8 x, .int .u8 x, .int .u8 x], [], ((A.length + j : Nat) : Int))).val = some (.inl (A ++ [AV.int .u8 x, .int .u8 x, .int .u8 x], [], ((A.length + (j + 1) : Nat) : Int))) := by
      intro j hj
      have p1 : ((A.length + j : Nat) : Int) < ((A.length + 3 : Nat) : Int) := by omega
      have p2 : (0 : Int) ≤ ((A.length + j : Nat) : Int) := by omega
      have w1 : IntKind.i64.wrap (((A.length + j : Nat) : Int) + 1) = ((A.length + (j + 1) : Nat) : Int) := by rw [i64_wrap (by omega) (by omega)]; omega
      have hg : getI ((A ++ [AV.int .u8 x, .int .u8 x, .int .u8 x]).getD (A.length + j) (.int .u8 0)) = x := by
        rw [List.getD_eq_getElem?_getD, List.getElem?_append_right (by omega), Nat.add_sub_cancel_left]
        rcases (show j = 0 ∨ j = 1 ∨ j = 2 by omega) with rfl | rfl | rfl <;> rfl
      simp only [M_comptoirhelp_Kept_byte, Tr.val_c, Tr.val_r, l3, p1, p2, w1, Int.toNat_natCast, hg, decide_true, cond_true, bne_self_eq_false, cond_false]
    have e : (A.length : Int) = ((A.length + 0 : Nat) : Int) := rfl
    rw [e, run_inl (step 0 (by omega)), run_inl (step 1 (by omega)), run_inl (step 2 (by omega))]
    exact run_inr (by
      have p1 : ¬ (((A.length + (2 + 1) : Nat) : Int) < ((A.length + 3 : Nat) : Int)) := by omega
      simp only [M_comptoirhelp_Kept_byte, Tr.val_c, Tr.val_r, l3, p1, decide_false, cond_false])
  · simp only [T_comptoirhelp_Kept_byte, Tr.val_c, Tr.val_r, val_opt, Plain_self A hA, Option.bind_some, Bool.not_true, cond_false, w, lx, l3, q1, q2, q3, decide_true, decide_false, cond_true, Int.toNat_natCast, List.drop_zero, ht, hd]

/- both cursors read alike -/
theorem take_both (A : List AV) (hA : A.length ≤ 1000) (n : Int) (k : Nat) (hk : k ≤ A.length) : ∃ (t : List AV) (e : Int) (k' : Nat), k' ≤ A.length ∧ t.length ≤ 1000 ∧
    g_cursor_Cursor_Take_p0500 n A k = some (e, A, (k' : Int), t) ∧ g_comptoirref01_Cursor_Take_p0500 n A k = some (t, e, A, (k' : Int)) ∧ g_cursor_Cursor_Text_p0500 n A k = some (bytesOf t, e, A, (k' : Int)) ∧
    (0 ≤ n → n ≤ A.length - k → t = (A.drop k).take n.toNat ∧ e = 0 ∧ k' = k + n.toNat) ∧ (n < 0 → t = [] ∧ e = 1 ∧ k' = k) ∧ (0 ≤ n → n > A.length - k → t = [] ∧ e = 3 ∧ k' = k) := by
  have hb : A.length < 8796093022208 := by omega
  have ht := take_eq n A k hk hb
  have w0 : IntKind.i64.wrap ((A.length : Int) - k) = A.length - k := i64_wrap (by omega) (by omega)
  have own : ∀ (t : List AV) (e : Int) (k' : Nat), t.length ≤ 1000 → g_cursor_Cursor_take_p0500 n A k = some (t, e, A, (k' : Int)) → g_cursor_Cursor_Take_p0500 n A k = some (e, A, (k' : Int), t) ∧ g_cursor_Cursor_Text_p0500 n A k = some (bytesOf t, e, A, (k' : Int)) := by
    intro t e k' hl h
    have h2 : t.length * 2 < 70368744177664 := by omega
    have a : g_cursor_Cursor_Take_p0500 n A k = some (e, A, (k' : Int), t) := by
      unfold g_cursor_Cursor_Take_p0500
      simp only [T_cursor_Cursor_Take_p0500, Tr.val_c, Tr.val_r, val_opt, read_eq, h, Option.bind_some, h2, decide_true, cond_true, beq_self_eq_true]
    have b : g_cursor_read_fTake_0p500 n A k = some (e, A, (k' : Int), t) := by
      unfold g_cursor_read_fTake_0p500
      simp only [T_cursor_read_fTake_0p500, Tr.val_c, Tr.val_r, val_opt, a, Option.bind_some, cond_true, beq_self_eq_true]
    refine ⟨a, ?_⟩
    unfold g_cursor_Cursor_Text_p0500
    simp only [T_cursor_Cursor_Text_p0500, Tr.val_c, Tr.val_r, val_opt, b, Option.bind_some, cond_true, beq_self_eq_true]
  by_cases h1 : n < 0
  · rw [if_pos h1] at ht
    obtain ⟨o1, o2⟩ := own [] 1 k (by simp) ht
    refine ⟨[], 1, k, hk, by simp, o1, ?_, o2, fun h => by omega, fun _ => ⟨rfl, rfl, rfl⟩, fun h => by omega⟩
    unfold g_comptoirref01_Cursor_Take_p0500
    simp only [T_comptoirref01_Cursor_Take_p0500, Tr.val_c, Tr.val_r, h1, decide_true, cond_true]
  · by_cases h2 : n > (A.length : Int) - k
    · rw [if_neg h1, if_pos h2] at ht
      obtain ⟨o1, o2⟩ := own [] 3 k (by simp) ht
      refine ⟨[], 3, k, hk, by simp, o1, ?_, o2, fun _ h => by omega, fun h => by omega, fun _ _ => ⟨rfl, rfl, rfl⟩⟩
      unfold g_comptoirref01_Cursor_Take_p0500
      simp only [T_comptoirref01_Cursor_Take_p0500, Tr.val_c, Tr.val_r, h1, h2, w0, decide_true, decide_false, cond_true, cond_false]
    · rw [if_neg h1, if_neg h2, show (k : Int) + n = ((k + n.toNat : Nat) : Int) by omega] at ht
      have hl : ((A.drop k).take n.toNat).length ≤ 1000 := by simp only [List.length_take, List.length_drop]; omega
      obtain ⟨o1, o2⟩ := own _ 0 (k + n.toNat) hl ht
      refine ⟨_, 0, k + n.toNat, by omega, hl, o1, ?_, o2, fun _ _ => ⟨rfl, rfl, rfl⟩, fun h => by omega, fun _ h => by omega⟩
      have w1 : IntKind.i64.wrap ((k : Int) + n) = k + n := i64_wrap (by omega) (by omega)
      have w2 : IntKind.i64.wrap ((k : Int) + n - n) = k := by rw [i64_wrap (by omega) (by omega)]; omega
      have q1 : (0 : Int) ≤ k + n := by omega
      have q2 : (k : Int) + n ≤ A.length := by omega
      have q3 : (0 : Int) ≤ k := by omega
      have q4 : (k : Int) ≤ k + n := by omega
      have hd : ((A.take ((k : Int) + n).toNat).drop (k : Int).toNat) = (A.drop k).take n.toNat := by
        rw [List.drop_take]; congr 1; omega
      have hl2 : ((A.drop k).take n.toNat).length * 2 < 70368744177664 := by omega
      have e : (k : Int) + n = ((k + n.toNat : Nat) : Int) := by omega
      unfold g_comptoirref01_Cursor_Take_p0500
      simp only [T_comptoirref01_Cursor_Take_p0500, Tr.val_c, Tr.val_r, h1, h2, w0, w1, w2, q1, q2, q3, q4, hd, hl2, decide_true, decide_false, cond_true, cond_false, beq_self_eq_true]
      rw [e]

theorem Num_eq (l : List AV) (hl : l.length ≤ 1000) : g_comptoirref01_Num l 0 (l.length : Int) = some (numOf l) := by
  have loop : ∀ m i v, i + m = l.length → run (M_comptoirref01_Num l 0 (l.length : Int)) (M_comptoirref01_Num l 0 (l.length : Int) (v, (i : Int))) =
      some ((l.drop i).foldl (fun a x => bitsA .or .u64 (shlA .u64 a 8) (IntKind.u64.wrap (getI x))) v) := by
    intro m
    induction m with
    | zero =>
      intro i v hi
      have hlt : ¬ ((i : Int) < l.length) := by omega
      rw [List.drop_of_length_le (by omega)]
      exact run_inr (by simp only [M_comptoirref01_Num, Tr.val_c, Tr.val_r, hlt, decide_false, cond_false]; rfl)
    | succ m ih =>
      intro i v hi
      have q1 : (i : Int) < l.length := by omega
      have q2 : (0 : Int) ≤ i := by omega
      have q3 : i < l.length := by omega
      have w0 : IntKind.i64.wrap (0 + (i : Int)) = i := by rw [Int.zero_add]; exact i64_wrap (by omega) (by omega)
      have w : IntKind.i64.wrap ((i : Int) + 1) = ((i + 1 : Nat) : Int) := by rw [i64_wrap (by omega) (by omega)]; omega
      have hg : l.getD i (.int .u8 0) = l[i] := by simp [List.getD_eq_getElem?_getD, q3]
      rw [run_inl (s := (bitsA .or .u64 (shlA .u64 v 8) (IntKind.u64.wrap (getI l[i])), ((i + 1 : Nat) : Int))) (by simp only [M_comptoirref01_Num, Tr.val_c, Tr.val_r, q1, q2, w, w0, hg, Int.toNat_natCast, decide_true, cond_true]), ih (i + 1) _ (by omega), List.drop_eq_getElem_cons q3, List.foldl_cons]
  unfold g_comptoirref01_Num
  rw [run_inl (s := (0, ((0 : Nat) : Int))) rfl, loop l.length 0 0 (by omega)]
  rfl

theorem number_both (A : List AV) (hA : A.length ≤ 1000) (n : Int) (k : Nat) (hk : k ≤ A.length) : ∃ (v e : Int) (k' : Nat), k' ≤ A.length ∧
    g_cursor_Cursor_Number_p0500 n A k = some (v, e, A, (k' : Int)) ∧ g_comptoirref01_Cursor_Number_p0500 n A k = some (v, e, A, (k' : Int)) := by
  have hn := Number_eq n A k hk (by omega)
  by_cases h1 : n < 1
  · rw [if_pos h1] at hn
    refine ⟨0, 1, k, hk, hn, ?_⟩
    unfold g_comptoirref01_Cursor_Number_p0500
    simp only [T_comptoirref01_Cursor_Number_p0500, Tr.val_c, Tr.val_r, h1, decide_true, cond_true]
  · by_cases h2 : n > 8
    · rw [if_neg h1, if_pos h2] at hn
      refine ⟨0, 1, k, hk, hn, ?_⟩
      unfold g_comptoirref01_Cursor_Number_p0500
      simp only [T_comptoirref01_Cursor_Number_p0500, Tr.val_c, Tr.val_r, h1, h2, decide_true, decide_false, cond_true, cond_false]
    · obtain ⟨t, e, k', hk', hl, -, hr, -, c1, c2, c3⟩ := take_both A hA n k hk
      by_cases h3 : n > (A.length : Int) - k
      · obtain ⟨rfl, rfl, rfl⟩ := c3 (by omega) h3
        rw [if_neg h1, if_neg h2, if_pos h3] at hn
        refine ⟨0, 3, k', hk, hn, ?_⟩
        unfold g_comptoirref01_Cursor_Number_p0500
        simp only [T_comptoirref01_Cursor_Number_p0500, Tr.val_c, Tr.val_r, val_opt, h1, h2, hr, Option.bind_some, decide_false, cond_false]
        rfl
      · obtain ⟨rfl, rfl, rfl⟩ := c1 (by omega) (by omega)
        rw [if_neg h1, if_neg h2, if_neg h3, show (k : Int) + n = ((k + n.toNat : Nat) : Int) by omega] at hn
        have hnl : n = (((A.drop k).take n.toNat).length : Int) := by simp only [List.length_take, List.length_drop]; omega
        have hnum := Num_eq ((A.drop k).take n.toNat) hl
        rw [← hnl] at hnum
        refine ⟨_, 0, _, by omega, hn, ?_⟩
        unfold g_comptoirref01_Cursor_Number_p0500
        simp only [T_comptoirref01_Cursor_Number_p0500, Tr.val_c, Tr.val_r, val_opt, h1, h2, hr, hnum, Option.bind_some, decide_false, cond_false, bne_self_eq_false]

set_option maxRecDepth 20000 in
theorem plays_eq (A L : List AV) (hL : L.length < 9223372036854775808) : g_comptoirlaw01_CursorPlays A L = some true := by
  unfold g_comptoirlaw01_CursorPlays
  by_cases hbig : (A.length : Int) > 1000
  · exact run_inr (by simp only [T_comptoirlaw01_CursorPlays, Tr.val_c, Tr.val_r, val_opt, awake01, hbig, Option.bind_some, decide_true, cond_true])
  have lA : A.length ≤ 1000 := by omega
  have hA : A.length < 8796093022208 := by omega
  have l4 : A.length * 4 < 70368744177600 := by omega
  have hkept := Kept_self A 71 hA
  rw [run_inl (s := (.inl (A, 0, false))) (by simp only [T_comptoirlaw01_CursorPlays, Tr.val_c, Tr.val_r, val_opt, awake01, New_eq A hA, hbig, l4, Option.bind_some, decide_true, decide_false, cond_true, cond_false, Bool.not_true])]
  rw [run_inl (s := (.inr (.inl (A, 0, 0, A, 0)))) (by simp only [M_comptoirlaw01_CursorPlays, Tr.val_c, Tr.val_r, cond_false])]
  have key : ∀ m (i k : Nat), i + m = 60 → k ≤ A.length → run (M_comptoirlaw01_CursorPlays A L) (M_comptoirlaw01_CursorPlays A L (.inr (.inl (A, (k : Int), (i : Int), A, (k : Int))))) = some true := by
    intro m
    induction m with
    | zero =>
      intro i k hi hk
      have hlt : ¬ ((i : Int) < 60) := by omega
      refine run_inr ?_
      by_cases hl : (i : Int) < L.length
      · simp only [M_comptoirlaw01_CursorPlays, Tr.val_c, Tr.val_r, val_opt, hl, hlt, hkept, Option.bind_some, decide_true, decide_false, cond_true, cond_false]
      · simp only [M_comptoirlaw01_CursorPlays, Tr.val_c, Tr.val_r, val_opt, hl, hkept, Option.bind_some, decide_false, cond_false]
    | succ m ih =>
      intro i k hi hk
      by_cases hl : (i : Int) < L.length
      · have h60 : (i : Int) < 60 := by omega
        have q0 : (0 : Int) ≤ i := by omega
        have w4 : IntKind.i64.wrap ((i : Int) + 1) = ((i + 1 : Nat) : Int) := by rw [i64_wrap (by omega) (by omega)]; omega
        rw [run_inl (s := (.inr (.inr (.inl (A, (k : Int), (i : Int), A, (k : Int)))))) (by simp only [M_comptoirlaw01_CursorPlays, Tr.val_c, Tr.val_r, hl, h60, decide_true, cond_true])]
        obtain ⟨n, hn⟩ : ∃ n, getI (getF (L.getD i (.agg [.int .i64 0, .int .i64 0])) 1) = n := ⟨_, rfl⟩
        obtain ⟨kd, hkd⟩ : ∃ kd, getI (getF (L.getD i (.agg [.int .i64 0, .int .i64 0])) 0) = kd := ⟨_, rfl⟩
        -- behind a text, or a number
        have rest3 : ∀ k2 : Nat, k2 ≤ A.length → run (M_comptoirlaw01_CursorPlays A L) (M_comptoirlaw01_CursorPlays A L (.inr (.inr (.inr (.inl (true, A, (k2 : Int), A, (k2 : Int), (i : Int))))))) = some true := by
          intro k2 hk2
          rw [run_inl (s := (.inr (.inr (.inr (.inr (.inr (.inl (A, (k2 : Int), A, (k2 : Int), false, (i : Int))))))))) (by simp only [M_comptoirlaw01_CursorPlays, Tr.val_c, Tr.val_r, Bool.not_true, cond_false, bne_self_eq_false])]
          rw [run_inl (s := (.inr (.inl (A, (k2 : Int), ((i + 1 : Nat) : Int), A, (k2 : Int))))) (by simp only [M_comptoirlaw01_CursorPlays, Tr.val_c, Tr.val_r, cond_false, w4])]
          exact ih (i + 1) k2 (by omega) hk2
        by_cases h1 : kd = 1
        · obtain ⟨t, e, k', hk', hlt, -, hr, hx, -⟩ := take_both A lA n k hk
          rw [run_inl (s := (.inr (.inr (.inr (.inl (true, A, (k' : Int), A, (k' : Int), (i : Int))))))) (by
            simp only [M_comptoirlaw01_CursorPlays, Tr.val_c, Tr.val_r, val_opt, q0, hl, Int.toNat_natCast, hn, hkd, h1, hr, hx, Option.bind_some, decide_true, cond_true, beq_self_eq_true])]
          exact rest3 k' hk'
        by_cases h2 : kd = 2
        · obtain ⟨v, e, k', hk', hx, hr⟩ := number_both A lA n k hk
          have hne : ((2 : Int) == 1) = false := rfl
          rw [run_inl (s := (.inr (.inr (.inr (.inl (true, A, (k' : Int), A, (k' : Int), (i : Int))))))) (by
            simp only [M_comptoirlaw01_CursorPlays, Tr.val_c, Tr.val_r, val_opt, q0, hl, Int.toNat_natCast, hn, hkd, h2, hne, hr, hx, Option.bind_some, decide_true, cond_true, cond_false, beq_self_eq_true])]
          exact rest3 k' hk'
        have h1' : (kd == 1) = false := by simpa using h1
        have h2' : (kd == 2) = false := by simpa using h2
        obtain ⟨t, e, k', hk', hlt, hx, hr, -⟩ := take_both A lA n k hk
        rw [run_inl (s := (.inr (.inr (.inr (.inr (.inl (true, A, (k' : Int), A, (k' : Int), t, (i : Int)))))))) (by
          simp only [M_comptoirlaw01_CursorPlays, Tr.val_c, Tr.val_r, val_opt, q0, hl, Int.toNat_natCast, hn, hkd, h1', h2', hr, hx, Option.bind_some, decide_true, cond_true, cond_false, beq_self_eq_true])]
        rw [run_inl (s := (.inr (.inr (.inr (.inr (.inr (.inr (.inl (true, (t.length : Int), A, (k' : Int), A, (k' : Int), t, (i : Int), ((0 : Nat) : Int)))))))))) (by
          simp only [M_comptoirlaw01_CursorPlays, Tr.val_c, Tr.val_r, cond_true, beq_self_eq_true]; rfl)]
        have inner : ∀ d (j : Nat) (z : List AV), j + d = t.length → z.length = t.length → run (M_comptoirlaw01_CursorPlays A L) (M_comptoirlaw01_CursorPlays A L (.inr (.inr (.inr (.inr (.inr (.inr (.inl (true, (t.length : Int), A, (k' : Int), A, (k' : Int), z, (i : Int), (j : Int)))))))))) = some true := by
          intro d
          induction d with
          | zero =>
            intro j z hj hz
            have hlt2 : ¬ ((j : Int) < t.length) := by omega
            rw [run_inl (s := (.inr (.inr (.inr (.inr (.inr (.inr (.inr (.inl ((i : Int), true, A, (k' : Int), A, (k' : Int), z)))))))))) (by simp only [M_comptoirlaw01_CursorPlays, Tr.val_c, Tr.val_r, hlt2, decide_false, cond_false])]
            rw [run_inl (s := (.inr (.inr (.inr (.inr (.inr (.inr (.inr (.inr ((i : Int), A, (k' : Int), A, (k' : Int), z, false)))))))))) (by simp only [M_comptoirlaw01_CursorPlays, Tr.val_c, Tr.val_r, Bool.not_true, cond_false, bne_self_eq_false])]
            rw [run_inl (s := (.inr (.inl (A, (k' : Int), ((i + 1 : Nat) : Int), A, (k' : Int))))) (by simp only [M_comptoirlaw01_CursorPlays, Tr.val_c, Tr.val_r, cond_false, w4])]
            exact ih (i + 1) k' (by omega) hk'
          | succ d ihd =>
            intro j z hj hz
            have p1 : (j : Int) < t.length := by omega
            have p2 : (0 : Int) ≤ j := by omega
            have p3 : j < t.length := by omega
            have w5 : IntKind.i64.wrap ((j : Int) + 1) = ((j + 1 : Nat) : Int) := by rw [i64_wrap (by omega) (by omega)]; omega
            rw [run_inl (s := (.inr (.inr (.inr (.inr (.inr (.inr (.inl (true, (t.length : Int), A, (k' : Int), A, (k' : Int), z.set j (.int .u8 (bitsA .xor .u8 (getI (z.getD j (.int .u8 0))) 1)), (i : Int), ((j + 1 : Nat) : Int)))))))))) (by
              simp only [M_comptoirlaw01_CursorPlays, Tr.val_c, Tr.val_r, hz, p1, p2, p3, w5, Int.toNat_natCast, List.length_set, decide_true, cond_true, beq_self_eq_true])]
            exact ihd (j + 1) _ (by omega) (by simpa using hz)
        exact inner t.length 0 t (by omega) rfl
      · exact run_inr (by simp only [M_comptoirlaw01_CursorPlays, Tr.val_c, Tr.val_r, val_opt, hl, hkept, Option.bind_some, decide_false, cond_false])
  exact key 60 0 0 rfl (by omega)

end Go.Proofs.Ythocnaabefdokaa
