/- What the printed functions come to, plainly. -/
import Derived.Test.YthocnaabefdokaaYaG5
import Derived.Test.YthocnaabefdokaaCxPl3
namespace Go.Proofs.Ythocnaabefdokaa
open Go.Cx Go.Cx.AV
set_option linter.unusedSimpArgs false
set_option linter.unusedVariables false

/- slices.Concat of two. -/
theorem Grow_eq (n : Int) (h0 : 0 ≤ n) (h : n < 35184372088832) : g_slices_Grow_byte_byte n = some [] := by
  unfold g_slices_Grow_byte_byte
  have w : IntKind.i64.wrap (n - 0) = n := by rw [Int.sub_zero]; exact i64_wrap (by omega) (by omega)
  have hn0 : ¬ (n < 0) := by omega
  have hT : (T_slices_Grow_byte_byte n).val = some (.inl (.inl ())) := by simp only [T_slices_Grow_byte_byte, Tr.val_c, Tr.val_r, hn0]; rfl
  rw [run_inl hT]
  rw [run_inl (s := .inr ())]
  · exact run_inr rfl
  · simp only [M_slices_Grow_byte_byte, Tr.val_c, Tr.val_r, w, List.length_replicate]
    by_cases hn : n > 0
    · have : n.toNat * 2 < 70368744177664 := by omega
      simp [hn, this]
    · simp [hn]

theorem Concat_eq (a b : List AV) (h : a.length + b.length < 17592186044416) : g_slices_Concat_byte_byte [.slice 1 (.int .u8) a .ro, .slice 1 (.int .u8) b .ro] = some (a ++ b) := by
  have e0 : getXs (List.getD [AV.slice 1 (.int .u8) a .ro, .slice 1 (.int .u8) b .ro] (Int.toNat 0) (.slice 1 (.int .u8) [] .ro)) = a := rfl
  have e1 : getXs (List.getD [AV.slice 1 (.int .u8) a .ro, .slice 1 (.int .u8) b .ro] (Int.toNat 1) (.slice 1 (.int .u8) [] .ro)) = b := rfl
  have w0 : IntKind.i64.wrap (0 + (a.length : Int)) = a.length := by rw [Int.zero_add]; exact i64_wrap (by omega) (by omega)
  have w1 : IntKind.i64.wrap ((a.length : Int) + b.length) = ((a.length + b.length : Nat) : Int) := by rw [i64_wrap (by omega) (by omega)]; omega
  have w2 : IntKind.i64.wrap (0 + 1) = 1 := rfl
  have w3 : IntKind.i64.wrap (1 + 1) = 2 := rfl
  have n0 : ¬ ((a.length : Int) < 0) := by omega
  have n1 : ¬ (((a.length + b.length : Nat) : Int) < 0) := by omega
  have l0 : a.length * 2 < 70368744177664 := by omega
  have l1 : (a.length + b.length) * 2 < 70368744177664 := by omega
  have gr := Grow_eq (((a.length + b.length : Nat) : Int)) (by omega) (by omega)
  unfold g_slices_Concat_byte_byte
  rw [run_inl (s := .inl (0, 0)) rfl]
  rw [run_inl (s := .inl ((a.length : Int), 1)) (by simp only [M_slices_Concat_byte_byte, Tr.val_c, Tr.val_r, e0, w0, w2, n0]; rfl)]
  rw [run_inl (s := .inl (((a.length + b.length : Nat) : Int), 2)) (by simp only [M_slices_Concat_byte_byte, Tr.val_c, Tr.val_r, e1, w1, w3, n1]; rfl)]
  rw [run_inl (s := .inr ([], 0)) (by simp only [M_slices_Concat_byte_byte, Tr.val_c, Tr.val_r, gr, opt_some]; rfl)]
  rw [run_inl (s := .inr (a, 1)) (by simp only [M_slices_Concat_byte_byte, Tr.val_c, Tr.val_r, e0, w2, List.nil_append, l0, decide_true, beq_self_eq_true]; rfl)]
  rw [run_inl (s := .inr (a ++ b, 2)) (by simp only [M_slices_Concat_byte_byte, Tr.val_c, Tr.val_r, e1, w3, List.length_append, l1, decide_true, beq_self_eq_true]; rfl)]
  exact run_inr (by simp only [M_slices_Concat_byte_byte, Tr.val_c, Tr.val_r, beq_self_eq_true]; rfl)

/- the cursor -/
theorem shr8 (v : Int) : ∀ i : Nat, i < 8 → IntKind.u8.wrap (shrA .u64 v (8 * (i : Int))) = v / 256 ^ i % 256
  | 0, _ => by rw [u8_mod]; show v.fdiv 1 % 256 = _; rw [Int.fdiv_eq_ediv_of_nonneg _ (by decide)]; rfl
  | 1, _ => by rw [u8_mod]; show v.fdiv 256 % 256 = _; rw [Int.fdiv_eq_ediv_of_nonneg _ (by decide)]; rfl
  | 2, _ => by rw [u8_mod]; show v.fdiv 65536 % 256 = _; rw [Int.fdiv_eq_ediv_of_nonneg _ (by decide)]; rfl
  | 3, _ => by rw [u8_mod]; show v.fdiv 16777216 % 256 = _; rw [Int.fdiv_eq_ediv_of_nonneg _ (by decide)]; rfl
  | 4, _ => by rw [u8_mod]; show v.fdiv 4294967296 % 256 = _; rw [Int.fdiv_eq_ediv_of_nonneg _ (by decide)]; rfl
  | 5, _ => by rw [u8_mod]; show v.fdiv 1099511627776 % 256 = _; rw [Int.fdiv_eq_ediv_of_nonneg _ (by decide)]; rfl
  | 6, _ => by rw [u8_mod]; show v.fdiv 281474976710656 % 256 = _; rw [Int.fdiv_eq_ediv_of_nonneg _ (by decide)]; rfl
  | 7, _ => by rw [u8_mod]; show v.fdiv 72057594037927936 % 256 = _; rw [Int.fdiv_eq_ediv_of_nonneg _ (by decide)]; rfl
  | n + 8, h => by omega

/-- The lowest bytes of a number, the highest first. -/
def bex (v : Int) : Nat → List AV
  | 0 => []
  | i + 1 => .int .u8 (v / 256 ^ i % 256) :: bex v i
@[simp] theorem length_bex (v : Int) (i : Nat) : (bex v i).length = i := by induction i <;> simp [bex, *]

theorem set_last (r : List AV) (x y : AV) (j : Nat) : (List.replicate (j + 1) x ++ r).set j y = List.replicate j x ++ y :: r := by
  induction j with
  | zero => rfl
  | succ j ih => rw [List.replicate_succ (n := j + 1), List.cons_append, List.set_cons_succ, ih]; rfl

theorem Put_eq (x0 : List AV) (v n : Int) (m : Nat) (hx : x0.length < 8796093022208) (hm : m ≤ 8) (hn : (if 8 < (if 0 > n then 0 else n) then 8 else if 0 > n then 0 else n) = (m : Int)) : g_cursor_Put x0 v n = some (x0 ++ bex v m) := by
  unfold g_cursor_Put
  have hr : m * 2 < 70368744177664 := by omega
  have h0 : (0 : Int) ≤ m := by omega
  rw [run_inl (s := ((m : Int), (m : Int), List.replicate m (.int .u8 0), 0))]
  rotate_left
  · simp only [T_cursor_Put, Tr.val_c, Tr.val_r, hn, h0, Int.toNat_natCast, List.length_replicate, hr, decide_true, cond_true, beq_self_eq_true]
  have key : ∀ k i, i + k = m → run (M_cursor_Put x0 v n) (M_cursor_Put x0 v n ((m : Int), (m : Int), List.replicate k (.int .u8 0) ++ bex v i, (i : Int))) = some (x0 ++ bex v m) := by
    intro k
    induction k with
    | zero =>
      intro i hi
      have : i = m := by omega
      subst this
      have hlt : ¬ ((i : Int) < i) := by omega
      have hc := Concat_eq x0 (bex v i) (by simp; omega)
      exact run_inr (by simp only [M_cursor_Put, Tr.val_c, Tr.val_r, hlt, List.replicate_zero, List.nil_append, val_opt, hc, Option.bind_some, decide_false, cond_false, beq_self_eq_true, cond_true])
    | succ k ih =>
      intro i hi
      have q1 : (i : Int) < m := by omega
      have w1 : IntKind.i64.wrap (8 * (i : Int)) = 8 * i := i64_wrap (by omega) (by omega)
      have w2 : IntKind.i64.wrap ((m : Int) - 1) = m - 1 := i64_wrap (by omega) (by omega)
      have w3 : IntKind.i64.wrap ((m : Int) - 1 - i) = (k : Int) := by rw [i64_wrap (by omega) (by omega)]; omega
      have w4 : IntKind.i64.wrap ((i : Int) + 1) = ((i + 1 : Nat) : Int) := by rw [i64_wrap (by omega) (by omega)]; omega
      have q2 : (0 : Int) ≤ 8 * i := by omega
      have q3 : (0 : Int) ≤ k := by omega
      have hl : (List.replicate (k + 1) (AV.int .u8 0) ++ bex v i).length = m := by simp; omega
      have hl2 : (List.replicate k (AV.int .u8 0) ++ AV.int .u8 (v / 256 ^ i % 256) :: bex v i).length = m := by simp; omega
      have q4 : (k : Int) < m := by omega
      have q5 : k < m := by omega
      rw [run_inl (s := ((m : Int), (m : Int), List.replicate k (.int .u8 0) ++ bex v (i + 1), ((i + 1 : Nat) : Int)))]
      · exact ih (i + 1) (by omega)
      · simp only [M_cursor_Put, Tr.val_c, Tr.val_r, q1, w1, w2, w3, w4, q2, q3, q4, q5, hl, Int.toNat_natCast, shr8 v i (by omega), decide_true, cond_true, beq_self_eq_true, set_last, hl2]
        rfl
  have := key m 0 (by omega)
  simpa [bex] using this

theorem take_eq (n : Int) (b : List AV) (k : Nat) (hk : k ≤ b.length) (hb : b.length < 8796093022208) :
    g_cursor_Cursor_take_p0500 n b k = some (if n < 0 then ([], 1, b, (k : Int)) else if n > b.length - k then ([], 3, b, (k : Int)) else ((b.drop k).take n.toNat, 0, b, (k : Int) + n)) := by
  unfold g_cursor_Cursor_take_p0500
  have w0 : IntKind.i64.wrap ((b.length : Int) - k) = b.length - k := i64_wrap (by omega) (by omega)
  by_cases h1 : n < 0
  · simp only [T_cursor_Cursor_take_p0500, Tr.val_c, Tr.val_r, h1, decide_true, cond_true, if_true]
  · by_cases h2 : n > (b.length : Int) - k
    · simp only [T_cursor_Cursor_take_p0500, Tr.val_c, Tr.val_r, h1, h2, w0, decide_true, decide_false, cond_true, cond_false, if_true, if_false]
    · have w1 : IntKind.i64.wrap ((k : Int) + n) = k + n := i64_wrap (by omega) (by omega)
      have w2 : IntKind.i64.wrap ((k : Int) + n - n) = k := by rw [i64_wrap (by omega) (by omega)]; omega
      have q1 : (0 : Int) ≤ k + n := by omega
      have q2 : (k : Int) + n ≤ b.length := by omega
      have q3 : (0 : Int) ≤ k := by omega
      have q4 : (k : Int) ≤ k + n := by omega
      have hd : ((b.take ((k : Int) + n).toNat).drop (k : Int).toNat) = (b.drop k).take n.toNat := by
        rw [List.drop_take]; congr 1; omega
      simp only [T_cursor_Cursor_take_p0500, Tr.val_c, Tr.val_r, h1, h2, w0, w1, w2, q1, q2, q3, q4, hd, decide_true, decide_false, cond_true, cond_false, if_false]

theorem read_eq (n : Int) (b : List AV) (k : Int) : g_cursor_read_ftake_0p500 n b k = g_cursor_Cursor_take_p0500 n b k := by
  conv => lhs; unfold g_cursor_read_ftake_0p500
  simp only [T_cursor_read_ftake_0p500, Tr.val_c, Tr.val_r, val_opt]
  cases g_cursor_Cursor_take_p0500 n b k <;> rfl

/-- The number that bytes are. -/
def numOf (l : List AV) : Int := l.foldl (fun a x => bitsA .or .u64 (shlA .u64 a 8) (IntKind.u64.wrap (getI x))) 0

theorem Number_eq (n : Int) (b : List AV) (k : Nat) (hk : k ≤ b.length) (hb : b.length < 8796093022208) :
    g_cursor_Cursor_Number_p0500 n b k = some (if n < 1 then (0, 1, b, (k : Int)) else if n > 8 then (0, 1, b, (k : Int)) else if n > b.length - k then (0, 3, b, (k : Int)) else (numOf ((b.drop k).take n.toNat), 0, b, (k : Int) + n)) := by
  unfold g_cursor_Cursor_Number_p0500
  by_cases h1 : n < 1
  · rw [run_inr (x := (0, 1, b, (k : Int))) (by simp only [T_cursor_Cursor_Number_p0500, Tr.val_c, Tr.val_r, h1, decide_true, cond_true])]
    simp [h1]
  by_cases h2 : n > 8
  · rw [run_inr (x := (0, 1, b, (k : Int))) (by simp only [T_cursor_Cursor_Number_p0500, Tr.val_c, Tr.val_r, h1, h2, decide_true, decide_false, cond_true, cond_false])]
    simp [h1, h2]
  have loop : ∀ (e : Int) (l : List AV) (b2 : List AV) (at' : Int), l.length < 8796093022208 → ∀ m i v, i + m = l.length → run (M_cursor_Cursor_Number_p0500 n b k) (M_cursor_Cursor_Number_p0500 n b k (e, l, (l.length : Int), b2, at', v, (i : Int))) =
      some ((l.drop i).foldl (fun a x => bitsA .or .u64 (shlA .u64 a 8) (IntKind.u64.wrap (getI x))) v, e, b2, at') := by
    intro e l b2 at' hl m
    induction m with
    | zero =>
      intro i v hi
      have hlt : ¬ ((i : Int) < l.length) := by omega
      rw [List.drop_of_length_le (by omega)]
      exact run_inr (by simp only [M_cursor_Cursor_Number_p0500, Tr.val_c, Tr.val_r, hlt, decide_false, cond_false]; rfl)
    | succ m ih =>
      intro i v hi
      have q1 : (i : Int) < l.length := by omega
      have q2 : (0 : Int) ≤ i := by omega
      have q3 : i < l.length := by omega
      have w : IntKind.i64.wrap ((i : Int) + 1) = ((i + 1 : Nat) : Int) := by rw [i64_wrap (by omega) (by omega)]; omega
      have hg : l.getD i (.int .u8 0) = l[i] := by simp [List.getD_eq_getElem?_getD, q3]
      rw [run_inl (s := (e, l, (l.length : Int), b2, at', bitsA .or .u64 (shlA .u64 v 8) (IntKind.u64.wrap (getI l[i])), ((i + 1 : Nat) : Int))) (by simp only [M_cursor_Cursor_Number_p0500, Tr.val_c, Tr.val_r, q1, q2, w, hg, Int.toNat_natCast, decide_true, cond_true]), ih (i + 1) _ (by omega), List.drop_eq_getElem_cons q3, List.foldl_cons]
  have ht := take_eq n b k hk hb
  have h0 : ¬ n < 0 := by omega
  by_cases h3 : n > (b.length : Int) - k
  · rw [run_inl (s := (3, [], ((([] : List AV).length : Nat) : Int), b, (k : Int), 0, ((0 : Nat) : Int)))]
    · rw [loop 3 [] b k (by simp) 0 0 0 rfl]
      simp [h1, h2, h3]
    · simp only [T_cursor_Cursor_Number_p0500, Tr.val_c, Tr.val_r, val_opt, h1, h2, h0, h3, read_eq, ht, Option.bind_some, if_true, if_false, decide_false, cond_false]
      rfl
  · rw [run_inl (s := (0, (b.drop k).take n.toNat, ((((b.drop k).take n.toNat).length : Nat) : Int), b, (k : Int) + n, 0, ((0 : Nat) : Int)))]
    · rw [loop 0 _ b _ (by simp only [List.length_take, List.length_drop]; omega) ((b.drop k).take n.toNat).length 0 0 (by omega)]
      simp only [h1, h2, h3, if_false, List.drop_zero, numOf]
    · simp only [T_cursor_Cursor_Number_p0500, Tr.val_c, Tr.val_r, val_opt, h1, h2, h0, h3, read_eq, ht, Option.bind_some, if_true, if_false, decide_false, cond_false]
      rfl

theorem New_eq (b : List AV) (hb : b.length < 8796093022208) : g_cursor_New b = some (b, 0) := by
  have : b.length * 2 < 70368744177664 := by omega
  unfold g_cursor_New
  simp only [T_cursor_New, Tr.val_c, Tr.val_r, this, decide_true, cond_true]

theorem awake01 : g_comptoirlaw01_awake = some true := by
  have a := Number_eq 2 [.int .u8 1, .int .u8 2, .int .u8 3] 0 (by simp) (by simp)
  have p := Put_eq [] 258 2 2 (by simp) (by omega) (by decide)
  have e1 : (if (2 : Int) < 1 then ((0 : Int), (1 : Int), [AV.int .u8 1, .int .u8 2, .int .u8 3], ((0 : Nat) : Int)) else if (2 : Int) > 8 then (0, 1, [.int .u8 1, .int .u8 2, .int .u8 3], ((0 : Nat) : Int)) else if (2 : Int) > (([AV.int .u8 1, .int .u8 2, .int .u8 3].length : Nat) : Int) - ((0 : Nat) : Int) then (0, 3, [.int .u8 1, .int .u8 2, .int .u8 3], ((0 : Nat) : Int)) else (numOf (([AV.int .u8 1, .int .u8 2, .int .u8 3].drop 0).take (2 : Int).toNat), 0, [.int .u8 1, .int .u8 2, .int .u8 3], ((0 : Nat) : Int) + 2)) = (258, 0, [.int .u8 1, .int .u8 2, .int .u8 3], 2) := by kernel_rfl
  rw [e1] at a
  have a : g_cursor_Cursor_Number_p0500 2 [.int .u8 1, .int .u8 2, .int .u8 3] 0 = some (258, 0, [.int .u8 1, .int .u8 2, .int .u8 3], 2) := a
  unfold g_comptoirlaw01_awake
  simp only [T_comptoirlaw01_awake, Tr.val_c, Tr.val_r, val_opt, a, p, Option.bind_some]
  rfl

/- copies with room behind them -/
theorem Plain_self (A : List AV) (hA : A.length < 8796093022208) : g_comptoirhelp_Plain_byte A A = some true := by
  have h : g_comptoirhelp_Same_byte_00fPlainbyte1_ A A = some true := by
    unfold g_comptoirhelp_Same_byte_00fPlainbyte1_
    rw [run_inl (s := (0 : Int)) (by simp only [T_comptoirhelp_Same_byte_00fPlainbyte1_, Tr.val_c, Tr.val_r, bne_self_eq_false, cond_false])]
    exact run_until (f := fun i => (i : Int)) (n := A.length) (fun i hi => by
      have q1 : (i : Int) < A.length := by omega
      have q2 : (0 : Int) ≤ i := by omega
      have w : IntKind.i64.wrap ((i : Int) + 1) = ((i + 1 : Nat) : Int) := by rw [i64_wrap (by omega) (by omega)]; omega
      simp only [M_comptoirhelp_Same_byte_00fPlainbyte1_, Tr.val_c, Tr.val_r, q1, q2, w, decide_true, cond_true, beq_self_eq_true, Bool.not_true, cond_false]) (by
      have q1 : ¬ ((A.length : Int) < A.length) := by omega
      simp only [M_comptoirhelp_Same_byte_00fPlainbyte1_, Tr.val_c, Tr.val_r, q1, decide_false, cond_false])
  unfold g_comptoirhelp_Plain_byte
  simp only [T_comptoirhelp_Plain_byte, Tr.val_c, Tr.val_r, val_opt, h, Option.bind_some]

theorem Kept_self (A : List AV) (x : Int) (hA : A.length < 8796093022208) : g_comptoirhelp_Kept_byte A [.int .u8 x, .int .u8 x, .int .u8 x] A x = some true := by
  have w : IntKind.i64.wrap ((A.length : Int) + 3) = ((A.length + 3 : Nat) : Int) := by rw [i64_wrap (by omega) (by omega)]; omega
  have l3 : (A ++ [AV.int .u8 x, .int .u8 x, .int .u8 x]).length = A.length + 3 := by simp
  have q1 : ¬ (((A.length + 3 : Nat) : Int) < ((A.length + 3 : Nat) : Int)) := by omega
  have q2 : (0 : Int) ≤ ((A.length + 3 : Nat) : Int) := by omega
  have q3 : ((A.length + 3 : Nat) : Int) ≤ ((A.length + 3 : Nat) : Int) := by omega
  have lx : [AV.int .u8 x, .int .u8 x, .int .u8 x].length = 3 := rfl
  have ht : List.take (A.length + 3) (A ++ [AV.int .u8 x, .int .u8 x, .int .u8 x]) = A ++ [AV.int .u8 x, .int .u8 x, .int .u8 x] := List.take_of_length_le (by rw [l3]; omega)
  have hd : List.drop (A.length + 3) (A ++ [AV.int .u8 x, .int .u8 x, .int .u8 x]) = [] := List.drop_of_length_le (by rw [l3]; omega)
  unfold g_comptoirhelp_Kept_byte
  rw [run_inl (s := (A ++ [AV.int .u8 x, .int .u8 x, .int .u8 x], [], (A.length : Int)))]
  · have step : ∀ j : Nat, j < 3 → (M_comptoirhelp_Kept_byte A [.int .u8 x, .int .u8 x, .int .u8 x] A x (A ++ [AV.int .u8 x, .int .u8 x, .int .u8 x], [], ((A.length + j : Nat) : Int))).val = some (.inl (A ++ [AV.int .u8 x, .int .u8 x, .int .u8 x], [], ((A.length + (j + 1) : Nat) : Int))) := by
      intro j hj
      have p1 : ((A.length + j : Nat) : Int) < ((A.length + 3 : Nat) : Int) := by omega
      have p2 : (0 : Int) ≤ ((A.length + j : Nat) : Int) := by omega
      have w1 : IntKind.i64.wrap (((A.length + j : Nat) : Int) + 1) = ((A.length + (j + 1) : Nat) : Int) := by rw [i64_wrap (by omega) (by omega)]; omega
      have hg : getI ((A ++ [AV.int .u8 x, .int .u8 x, .int .u8 x]).getD (A.length + j) (.int .u8 0)) = x := by
        rw [List.getD_eq_getElem?_getD, List.getElem?_append_right (by omega), Nat.add_sub_cancel_left]
        rcases (show j = 0 ∨ j = 1 ∨ j = 2 by omega) with rfl | rfl | rfl <;> rfl
      simp only [M_comptoirhelp_Kept_byte, Tr.val_c, Tr.val_r, l3, p1, p2, w1, Int.toNat_natCast, hg, decide_true, cond_true, bne_self_eq_false, cond_false]
    have e : (A.length : Int) = ((A.length + 0 : Nat) : Int) := rfl
    rw [e, run_inl (step 0 (by omega)), run_inl (step 1 (by omega)), run_inl (step 2 (by omega))]
    exact run_inr (by
      have p1 : ¬ (((A.length + (2 + 1) : Nat) : Int) < ((A.length + 3 : Nat) : Int)) := by omega
      simp only [M_comptoirhelp_Kept_byte, Tr.val_c, Tr.val_r, l3, p1, decide_false, cond_false])
  · simp only [T_comptoirhelp_Kept_byte, Tr.val_c, Tr.val_r, val_opt, Plain_self A hA, Option.bind_some, Bool.not_true, cond_false, w, lx, l3, q1, q2, q3, decide_true, decide_false, cond_true, Int.toNat_natCast, List.drop_zero, ht, hd]

theorem refPut_eq (x0 : List AV) (v n : Int) (m : Nat) (hx : x0.length < 8796093022208) (hm : m ≤ 8) (hn : (if (if 8 < n then 8 else n) > 0 then (if 8 < n then 8 else n) else 0) = (m : Int)) : g_comptoirref01_Put x0 v n = some (x0 ++ bex v m) := by
  unfold g_comptoirref01_Put
  have l0 : x0.length * 2 < 70368744177664 := by omega
  have w0 : IntKind.i64.wrap ((m : Int) - 1) = (m : Int) - 1 := i64_wrap (by omega) (by omega)
  rw [run_inl (s := ((m : Int) - 1, x0)) (by simp only [T_comptoirref01_Put, Tr.val_c, Tr.val_r, l0, hn, w0, decide_true, cond_true])]
  have key : ∀ (i : Nat) (l : List AV), i ≤ 8 → l ++ bex v i = x0 ++ bex v m → run (M_comptoirref01_Put x0 v n) (M_comptoirref01_Put x0 v n ((i : Int) - 1, l)) = some (x0 ++ bex v m) := by
    intro i
    induction i with
    | zero =>
      intro l _ hl
      have : ¬ (((0 : Nat) : Int) - 1 ≥ 0) := by omega
      rw [← hl, bex, List.append_nil]
      exact run_inr (by simp only [M_comptoirref01_Put, Tr.val_c, Tr.val_r, this, decide_false, cond_false, beq_self_eq_true, cond_true])
    | succ i ih =>
      intro l hi hl
      have e : ((i + 1 : Nat) : Int) - 1 = (i : Int) := by omega
      have q1 : (i : Int) ≥ 0 := by omega
      have w1 : IntKind.u64.wrap (IntKind.i64.wrap (8 * (i : Int))) = 8 * (i : Int) := by rw [i64_wrap (by omega) (by omega), u64_wrap (by omega) (by omega)]
      have w2 : IntKind.i64.wrap ((i : Int) - 1) = (i : Int) - 1 := i64_wrap (by omega) (by omega)
      have q2 : (0 : Int) ≤ 8 * (i : Int) := by omega
      have hlen : l.length ≤ x0.length + 8 := by
        have := congrArg List.length hl
        simp at this; omega
      have l1 : (l ++ [AV.int .u8 (v / 256 ^ i % 256)]).length * 2 < 70368744177664 := by simp; omega
      rw [e, run_inl (s := ((i : Int) - 1, l ++ [.int .u8 (v / 256 ^ i % 256)])) (by
        simp only [M_comptoirref01_Put, Tr.val_c, Tr.val_r, q1, w1, w2, q2, shr8 v i (by omega), l1, decide_true, cond_true, beq_self_eq_true])]
      exact ih _ (by omega) (by rw [List.append_assoc]; exact hl)
  exact key m x0 hm rfl

theorem puts_eq (A : List AV) (v n : Int) : g_comptoirlaw01_CursorPuts A v n = some true := by
  unfold g_comptoirlaw01_CursorPuts
  by_cases hbig : (A.length : Int) > 300
  · simp only [T_comptoirlaw01_CursorPuts, Tr.val_c, Tr.val_r, val_opt, awake01, hbig, Option.bind_some, decide_true, cond_true]
  have hA : A.length < 8796093022208 := by omega
  have l4 : A.length * 4 < 70368744177600 := by omega
  obtain ⟨m, hm, h8⟩ : ∃ m : Nat, (if 8 < (if 0 > n then 0 else n) then 8 else if 0 > n then 0 else n) = (m : Int) ∧ m ≤ 8 :=
    ⟨(if 8 < (if 0 > n then 0 else n) then 8 else if 0 > n then 0 else n).toNat, by split <;> split <;> omega, by split <;> split <;> omega⟩
  have hm2 : (if (if 8 < n then 8 else n) > 0 then (if 8 < n then 8 else n) else 0) = (m : Int) := by
    rw [← hm]; split <;> split <;> split <;> (try split) <;> omega
  have p1 := Put_eq A v n m hA h8 hm
  have p2 := refPut_eq A v n m hA h8 hm2
  have p3 := Kept_self A 71 hA
  simp only [T_comptoirlaw01_CursorPuts, Tr.val_c, Tr.val_r, val_opt, awake01, hbig, l4, p1, p2, p3, Option.bind_some, decide_true, decide_false, cond_true, cond_false, beq_self_eq_true]

end Go.Proofs.Ythocnaabefdokaa
