/- What the printed functions come to, plainly. -/
import Derived.Test.YtaejmfmamhdlhaaYbG6
import Derived.Test.YtaejmfmamhdlhaaCxPl3
namespace Go.Proofs.Ytaejmfmamhdlhaa
open Go.Cx Go.Cx.AV
set_option linter.unusedSimpArgs false
set_option linter.unusedVariables false

/- slices.Concat of two. -/
theorem Grow_eq (n : Int) (h0 : 0 ≤ n) (h : n < 35184372088832) : g_slices_Grow_byte_byte n = some [] := by
  unfold g_slices_Grow_byte_byte
  have w : IntKind.i64.wrap (n - 0) = n := by rw [Int.sub_zero]; exact i64_wrap (by omega) (by omega)
  have hn0 : ¬ (n < 0) := by omega
  have hT : (T_slices_Grow_byte_byte n).val = some (.inl (.inl ())) := by simp only [T_slices_Grow_byte_byte, Tr.val_c, Tr.val_r, hn0]; rfl
  rw [run_inl hT]
  rw [run_inl (s := .inr ())]
  · exact run_inr rfl
  · simp only [M_slices_Grow_byte_byte, Tr.val_c, Tr.val_r, w, List.length_replicate]
    by_cases hn : n > 0
    · have : n.toNat * 2 < 70368744177664 := by omega
      simp [hn, this]
    · simp [hn]

theorem Concat_eq (a b : List AV) (h : a.length + b.length < 17592186044416) : g_slices_Concat_byte_byte [.slice 1 (.int .u8) a .ro, .slice 1 (.int .u8) b .ro] = some (a ++ b) := by
  have e0 : getXs (List.getD [AV.slice 1 (.int .u8) a .ro, .slice 1 (.int .u8) b .ro] (Int.toNat 0) (.slice 1 (.int .u8) [] .ro)) = a := rfl
  have e1 : getXs (List.getD [AV.slice 1 (.int .u8) a .ro, .slice 1 (.int .u8) b .ro] (Int.toNat 1) (.slice 1 (.int .u8) [] .ro)) = b := rfl
  have w0 : IntKind.i64.wrap (0 + (a.length : Int)) = a.length := by rw [Int.zero_add]; exact i64_wrap (by omega) (by omega)
  have w1 : IntKind.i64.wrap ((a.length : Int) + b.length) = ((a.length + b.length : Nat) : Int) := by rw [i64_wrap (by omega) (by omega)]; omega
  have w2 : IntKind.i64.wrap (0 + 1) = 1 := rfl
  have w3 : IntKind.i64.wrap (1 + 1) = 2 := rfl
  have n0 : ¬ ((a.length : Int) < 0) := by omega
  have n1 : ¬ (((a.length + b.length : Nat) : Int) < 0) := by omega
  have l0 : a.length * 2 < 70368744177664 := by omega
  have l1 : (a.length + b.length) * 2 < 70368744177664 := by omega
  have gr := Grow_eq (((a.length + b.length : Nat) : Int)) (by omega) (by omega)
  unfold g_slices_Concat_byte_byte
  rw [run_inl (s := .inl (0, 0)) rfl]
  rw [run_inl (s := .inl ((a.length : Int), 1)) (by simp only [M_slices_Concat_byte_byte, Tr.val_c, Tr.val_r, e0, w0, w2, n0]; rfl)]
  rw [run_inl (s := .inl (((a.length + b.length : Nat) : Int), 2)) (by simp only [M_slices_Concat_byte_byte, Tr.val_c, Tr.val_r, e1, w1, w3, n1]; rfl)]
  rw [run_inl (s := .inr ([], 0)) (by simp only [M_slices_Concat_byte_byte, Tr.val_c, Tr.val_r, gr, opt_some]; rfl)]
  rw [run_inl (s := .inr (a, 1)) (by simp only [M_slices_Concat_byte_byte, Tr.val_c, Tr.val_r, e0, w2, List.nil_append, l0, decide_true, beq_self_eq_true]; rfl)]
  rw [run_inl (s := .inr (a ++ b, 2)) (by simp only [M_slices_Concat_byte_byte, Tr.val_c, Tr.val_r, e1, w3, List.length_append, l1, decide_true, beq_self_eq_true]; rfl)]
  exact run_inr (by simp only [M_slices_Concat_byte_byte, Tr.val_c, Tr.val_r, beq_self_eq_true]; rfl)

/- the cursor -/
theorem shr8 (v : Int) : ∀ i : Nat, i < 8 → IntKind.u8.wrap (shrA .u64 v (8 * (i : Int))) = v / 256 ^ i % 256
  | 0, _ => by rw [u8_mod]; show v.fdiv 1 % 256 = _; rw [Int.fdiv_eq_ediv_of_nonneg _ (by decide)]; rfl
  | 1, _ => by rw [u8_mod]; show v.fdiv 256 % 256 = _; rw [Int.fdiv_eq_ediv_of_nonneg _ (by decide)]; rfl
  | 2, _ => by rw [u8_mod]; show v.fdiv 65536 % 256 = _; rw [Int.fdiv_eq_ediv_of_nonneg _ (by decide)]; rfl
  | 3, _ => by rw [u8_mod]; show v.fdiv 16777216 % 256 = _; rw [Int.fdiv_eq_ediv_of_nonneg _ (by decide)]; rfl
  | 4, _ => by rw [u8_mod]; show v.fdiv 4294967296 % 256 = _; rw [Int.fdiv_eq_ediv_of_nonneg _ (by decide)]; rfl
  | 5, _ => by rw [u8_mod]; show v.fdiv 1099511627776 % 256 = _; rw [Int.fdiv_eq_ediv_of_nonneg _ (by decide)]; rfl
  | 6, _ => by rw [u8_mod]; show v.fdiv 281474976710656 % 256 = _; rw [Int.fdiv_eq_ediv_of_nonneg _ (by decide)]; rfl
  | 7, _ => by rw [u8_mod]; show v.fdiv 72057594037927936 % 256 = _; rw [Int.fdiv_eq_ediv_of_nonneg _ (by decide)]; rfl
  | n + 8, h => by omega

/-- The lowest bytes of a number, the highest first. -/
def bex (v : Int) : Nat → List AV
  | 0 => []
  | i + 1 => .int .u8 (v / 256 ^ i % 256) :: bex v i
@[simp] theorem length_bex (v : Int) (i : Nat) : (bex v i).length = i := by induction i <;> simp [bex, *]

theorem set_last (r : List AV) (x y : AV) (j : Nat) : (List.replicate (j + 1) x ++ r).set j y = List.replicate j x ++ y :: r := by
  induction j with
  | zero => rfl
  | succ j ih => rw [List.replicate_succ (n := j + 1), List.cons_append, List.set_cons_succ, ih]; rfl

theorem Put_eq (x0 : List AV) (v n : Int) (m : Nat) (hx : x0.length < 8796093022208) (hm : m ≤ 8) (hn : (if 8 < (if 0 > n then 0 else n) then 8 else if 0 > n then 0 else n) = (m : Int)) : g_cursor_Put x0 v n = some (x0 ++ bex v m) := by
  unfold g_cursor_Put
  have hr : m * 2 < 70368744177664 := by omega
  have h0 : (0 : Int) ≤ m := by omega
  rw [run_inl (s := ((m : Int), (m : Int), List.replicate m (.int .u8 0), 0))]
  rotate_left
  · simp only [T_cursor_Put, Tr.val_c, Tr.val_r, hn, h0, Int.toNat_natCast, List.length_replicate, hr, decide_true, cond_true, beq_self_eq_true]
  have key : ∀ k i, i + k = m → run (M_cursor_Put x0 v n) (M_cursor_Put x0 v n ((m : Int), (m : Int), List.replicate k (.int .u8 0) ++ bex v i, (i : Int))) = some (x0 ++ bex v m) := by
    intro k
    induction k with
    | zero =>
      intro i hi
      have : i = m := by omega
      subst this
      have hlt : ¬ ((i : Int) < i) := by omega
      have hc := Concat_eq x0 (bex v i) (by simp; omega)
      exact run_inr (by simp only [M_cursor_Put, Tr.val_c, Tr.val_r, hlt, List.replicate_zero, List.nil_append, val_opt, hc, Option.bind_some, decide_false, cond_false, beq_self_eq_true, cond_true])
    | succ k ih =>
      intro i hi
      have q1 : (i : Int) < m := by omega
      have w1 : IntKind.i64.wrap (8 * (i : Int)) = 8 * i := i64_wrap (by omega) (by omega)
      have w2 : IntKind.i64.wrap ((m : Int) - 1) = m - 1 := i64_wrap (by omega) (by omega)
      have w3 : IntKind.i64.wrap ((m : Int) - 1 - i) = (k : Int) := by rw [i64_wrap (by omega) (by omega)]; omega
      have w4 : IntKind.i64.wrap ((i : Int) + 1) = ((i + 1 : Nat) : Int) := by rw [i64_wrap (by omega) (by omega)]; omega
      have q2 : (0 : Int) ≤ 8 * i := by omega
      have q3 : (0 : Int) ≤ k := by omega
      have hl : (List.replicate (k + 1) (AV.int .u8 0) ++ bex v i).length = m := by simp; omega
      have hl2 : (List.replicate k (AV.int .u8 0) ++ AV.int .u8 (v / 256 ^ i % 256) :: bex v i).length = m := by simp; omega
      have q4 : (k : Int) < m := by omega
      have q5 : k < m := by omega
      rw [run_inl (s := ((m : Int), (m : Int), List.replicate k (.int .u8 0) ++ bex v (i + 1), ((i + 1 : Nat) : Int)))]
      · exact ih (i + 1) (by omega)
      · simp only [M_cursor_Put, Tr.val_c, Tr.val_r, q1, w1, w2, w3, w4, q2, q3, q4, q5, hl, Int.toNat_natCast, shr8 v i (by omega), decide_true, cond_true, beq_self_eq_true, set_last, hl2]
        rfl
  have := key m 0 (by omega)
  simpa [bex] using this

theorem take_eq (n : Int) (b : List AV) (k : Nat) (hk : k ≤ b.length) (hb : b.length < 8796093022208) :
    g_cursor_Cursor_take_p0500 n b k = some (if n < 0 then ([], 1, b, (k : Int)) else if n > b.length - k then ([], 3, b, (k : Int)) else ((b.drop k).take n.toNat, 0, b, (k : Int) + n)) := by
  unfold g_cursor_Cursor_take_p0500
  have w0 : IntKind.i64.wrap ((b.length : Int) - k) = b.length - k := i64_wrap (by omega) (by omega)
  by_cases h1 : n < 0
  · simp only [T_cursor_Cursor_take_p0500, Tr.val_c, Tr.val_r, h1, decide_true, cond_true, if_true]
  · by_cases h2 : n > (b.length : Int) - k
    · simp only [T_cursor_Cursor_take_p0500, Tr.val_c, Tr.val_r, h1, h2, w0, decide_true, decide_false, cond_true, cond_false, if_true, if_false]
    · have w1 : IntKind.i64.wrap ((k : Int) + n) = k + n := i64_wrap (by omega) (by omega)
      have w2 : IntKind.i64.wrap ((k : Int) + n - n) = k := by rw [i64_wrap (by omega) (by omega)]; omega
      have q1 : (0 : Int) ≤ k + n := by omega
      have q2 : (k : Int) + n ≤ b.length := by omega
      have q3 : (0 : Int) ≤ k := by omega
      have q4 : (k : Int) ≤ k + n := by omega
      have hd : ((b.take ((k : Int) + n).toNat).drop (k : Int).toNat) = (b.drop k).take n.toNat := by
        rw [List.drop_take]; congr 1; omega
      simp only [T_cursor_Cursor_take_p0500, Tr.val_c, Tr.val_r, h1, h2, w0, w1, w2, q1, q2, q3, q4, hd, decide_true, decide_false, cond_true, cond_false, if_false]

theorem read_eq (n : Int) (b : List AV) (k : Int) : g_cursor_read_ftake_0p500 n b k = g_cursor_Cursor_take_p0500 n b k := by
  conv => lhs; unfold g_cursor_read_ftake_0p500
  simp only [T_cursor_read_ftake_0p500, Tr.val_c, Tr.val_r, val_opt]
  cases g_cursor_Cursor_take_p0500 n b k <;> rfl

/-- The number that bytes are. -/
def numOf (l : List AV) : Int := l.foldl (fun a x => bitsA .or .u64 (shlA .u64 a 8) (IntKind.u64.wrap (getI x))) 0

theorem Number_eq (n : Int) (b : List AV) (k : Nat) (hk : k ≤ b.length) (hb : b.length < 8796093022208) :
    g_cursor_Cursor_Number_p0500 n b k = some (if n < 1 then (0, 1, b, (k : Int)) else if n > 8 then (0, 1, b, (k : Int)) else if n > b.length - k then (0, 3, b, (k : Int)) else (numOf ((b.drop k).take n.toNat), 0, b, (k : Int) + n)) := by
  unfold g_cursor_Cursor_Number_p0500
  by_cases h1 : n < 1
  · rw [run_inr (x := (0, 1, b, (k : Int))) (by simp only [T_cursor_Cursor_Number_p0500, Tr.val_c, Tr.val_r, h1, decide_true, cond_true])]
    simp [h1]
  by_cases h2 : n > 8
  · rw [run_inr (x := (0, 1, b, (k : Int))) (by simp only [T_cursor_Cursor_Number_p0500, Tr.val_c, Tr.val_r, h1, h2, decide_true, decide_false, cond_true, cond_false])]
    simp [h1, h2]
  have loop : ∀ (e : Int) (l : List AV) (b2 : List AV) (at' : Int), l.length < 8796093022208 → ∀ m i v, i + m = l.length → run (M_cursor_Cursor_Number_p0500 n b k) (M_cursor_Cursor_Number_p0500 n b k (e, l, (l.length : Int), b2, at', v, (i : Int))) =
      some ((l.drop i).foldl (fun a x => bitsA .or .u64 (shlA .u64 a 8) (IntKind.u64.wrap (getI x))) v, e, b2, at') := by
    intro e l b2 at' hl m
    induction m with
    | zero =>
      intro i v hi
      have hlt : ¬ ((i : Int) < l.length) := by omega
      rw [List.drop_of_length_le (by omega)]
      exact run_inr (by simp only [M_cursor_Cursor_Number_p0500, Tr.val_c, Tr.val_r, hlt, decide_false, cond_false]; rfl)
    | succ m ih =>
      intro i v hi
      have q1 : (i : Int) < l.length := by omega
      have q2 : (0 : Int) ≤ i := by omega
      have q3 : i < l.length := by omega
      have w : IntKind.i64.wrap ((i : Int) + 1) = ((i + 1 : Nat) : Int) := by rw [i64_wrap (by omega) (by omega)]; omega
      have hg : l.getD i (.int .u8 0) = l[i] := by simp [List.getD_eq_getElem?_getD, q3]
      rw [run_inl (s := (e, l, (l.length : Int), b2, at', bitsA .or .u64 (shlA .u64 v 8) (IntKind.u64.wrap (getI l[i])), ((i + 1 : Nat) : Int))) (by simp only [M_cursor_Cursor_Number_p0500, Tr.val_c, Tr.val_r, q1, q2, w, hg, Int.toNat_natCast, decide_true, cond_true]), ih (i + 1) _ (by omega), List.drop_eq_getElem_cons q3, List.foldl_cons]
  have ht := take_eq n b k hk hb
  have h0 : ¬ n < 0 := by omega
  by_cases h3 : n > (b.length : Int) - k
  · rw [run_inl (s := (3, [], ((([] : List AV).length : Nat) : Int), b, (k : Int), 0, ((0 : Nat) : Int)))]
    · rw [loop 3 [] b k (by simp) 0 0 0 rfl]
      simp [h1, h2, h3]
    · simp only [T_cursor_Cursor_Number_p0500, Tr.val_c, Tr.val_r, val_opt, h1, h2, h0, h3, read_eq, ht, Option.bind_some, if_true, if_false, decide_false, cond_false]
      rfl
  · rw [run_inl (s := (0, (b.drop k).take n.toNat, ((((b.drop k).take n.toNat).length : Nat) : Int), b, (k : Int) + n, 0, ((0 : Nat) : Int)))]
    · rw [loop 0 _ b _ (by simp only [List.length_take, List.length_drop]; omega) ((b.drop k).take n.toNat).length 0 0 (by omega)]
      simp only [h1, h2, h3, if_false, List.drop_zero, numOf]
    · simp only [T_cursor_Cursor_Number_p0500, Tr.val_c, Tr.val_r, val_opt, h1, h2, h0, h3, read_eq, ht, Option.bind_some, if_true, if_false, decide_false, cond_false]
      rfl

theorem New_eq (b : List AV) (hb : b.length < 8796093022208) : g_cursor_New b = some (b, 0) := by
  have : b.length * 2 < 70368744177664 := by omega
  unfold g_cursor_New
  simp only [T_cursor_New, Tr.val_c, Tr.val_r, this, decide_true, cond_true]


theorem Take_eq (n : Int) (b : List AV) (k : Nat) (hk : k ≤ b.length) (hb : b.length < 8796093022208) :
    g_cursor_Cursor_Take_p0500 n b k = some (if n < 0 then ([], 1, b, (k : Int)) else if n > b.length - k then ([], 3, b, (k : Int)) else ((b.drop k).take n.toNat, 0, b, (k : Int) + n)) := by
  have h := take_eq n b k hk hb
  have hl : ∀ m : Nat, ((b.drop k).take m).length * 2 < 70368744177664 := by
    intro m; simp only [List.length_take, List.length_drop]; omega
  unfold g_cursor_Cursor_Take_p0500
  simp only [T_cursor_Cursor_Take_p0500, Tr.val_c, Tr.val_r, val_opt, read_eq, h, Option.bind_some]
  by_cases h1 : n < 0
  · simp [h1]
  · by_cases h2 : n > (b.length : Int) - k
    · simp [h1, h2]
    · simp only [h1, h2, if_false, hl, decide_true, cond_true]


/- copies with room behind them -/
theorem Plain_self (A : List AV) (hA : A.length < 8796093022208) : g_comptoirhelp_Plain_byte A A = some true := by
  have h : g_comptoirhelp_Same_byte_00fPlainbyte1_ A A = some true := by
    unfold g_comptoirhelp_Same_byte_00fPlainbyte1_
    rw [run_inl (s := (0 : Int)) (by simp only [T_comptoirhelp_Same_byte_00fPlainbyte1_, Tr.val_c, Tr.val_r, bne_self_eq_false, cond_false])]
    exact run_until (f := fun i => (i : Int)) (n := A.length) (fun i hi => by
      have q1 : (i : Int) < A.length := by omega
      have q2 : (0 : Int) ≤ i := by omega
      have w : IntKind.i64.wrap ((i : Int) + 1) = ((i + 1 : Nat) : Int) := by rw [i64_wrap (by omega) (by omega)]; omega
      simp only [M_comptoirhelp_Same_byte_00fPlainbyte1_, Tr.val_c, Tr.val_r, q1, q2, w, decide_true, cond_true, beq_self_eq_true, Bool.not_true, cond_false]) (by
      have q1 : ¬ ((A.length : Int) < A.length) := by omega
      simp only [M_comptoirhelp_Same_byte_00fPlainbyte1_, Tr.val_c, Tr.val_r, q1, decide_false, cond_false])
  unfold g_comptoirhelp_Plain_byte
  simp only [T_comptoirhelp_Plain_byte, Tr.val_c, Tr.val_r, val_opt, h, Option.bind_some]

theorem Kept_self (A : List AV) (x : Int) (hA : A.length < 8796093022208) : g_comptoirhelp_Kept_byte A [.int .u8 x, .int .u8 x, .int .u8 x] A x = some true := by
  have w : IntKind.i64.wrap ((A.length : Int) + 3) = ((A.length + 3 : Nat) : Int) := by rw [i64_wrap (by omega) (by omega)]; omega
  have l3 : (A ++ [AV.int .u8 x, .int .u8 x, .int .u8 x]).length = A.length + 3 := by simp
  have q1 : ¬ (((A.length + 3 : Nat) : Int) < ((A.length + 3 : Nat) : Int)) := by omega
  have q2 : (0 : Int) ≤ ((A.length + 3 : Nat) : Int) := by omega
  have q3 : ((A.length + 3 : Nat) : Int) ≤ ((A.length + 3 : Nat) : Int) := by omega
  have lx : [AV.int .u8 x, .int .u8 x, .int .u8 x].length = 3 := rfl
  have ht : List.take (A.length + 3) (A ++ [AV.int .u8 x, .int .u8 x, .int .u8 x]) = A ++ [AV.int .u8 x, .int .u8 x, .int .u8 x] := List.take_of_length_le (by rw [l3]; omega)
  have hd : List.drop (A.length + 3) (A ++ [AV.int .u8 x, .int .u8 x, .int .u8 x]) = [] := List.drop_of_length_le (by rw [l3]; omega)
  unfold g_comptoirhelp_Kept_byte
  rw [run_inl (s := (A ++ [AV.int .u8 x, .int .u8 x, .int .u8 x], [], (A.length : Int)))]
  · have step : ∀ j : Nat, j < 3 → (M_comptoirhelp_Kept_byte A [.int .u8 x, .int .u8 x, .int .u8 x] A x (A ++ [AV.int .u8 x, .int .u8 x, .int .u8 x], [], ((A.length + j : Nat) : Int))).val = some (.inl (A ++ [AV.int .u8 x, .int .u8 x, .int .u8 x], [], ((A.length + (j + 1) : Nat) : Int))) := by
      intro j hj
      have p1 : ((A.length + j : Nat) : Int) < ((A.length + 3 : Nat) : Int) := by omega
      have p2 : (0 : Int) ≤ ((A.length + j : Nat) : Int) := by omega
      have w1 : IntKind.i64.wrap (((A.length + j : Nat) : Int) + 1) = ((A.length + (j + 1) : Nat) : Int) := by rw [i64_wrap (by omega) (by omega)]; omega
      have hg : getI ((A ++ [AV.int .u8 x, .int .u8 x, .int .u8 x]).getD (A.length + j) (.int .u8 0)) = x := by
        rw [List.getD_eq_getElem?_getD, List.getElem?_append_right (by omega), Nat.add_sub_cancel_left]
        rcases (show j = 0 ∨ j = 1 ∨ j = 2 by omega) with rfl | rfl | rfl <;> rfl
      simp only [M_comptoirhelp_Kept_byte, Tr.val_c, Tr.val_r, l3, p1, p2, w1, Int.toNat_natCast, hg, decide_true, cond_true, bne_self_eq_false, cond_false]
    have e : (A.length : Int) = ((A.length + 0 : Nat) : Int) := rfl
    rw [e, run_inl (step 0 (by omega)), run_inl (step 1 (by omega)), run_inl (step 2 (by omega))]
    exact run_inr (by
      have p1 : ¬ (((A.length + (2 + 1) : Nat) : Int) < ((A.length + 3 : Nat) : Int)) := by omega
      simp only [M_comptoirhelp_Kept_byte, Tr.val_c, Tr.val_r, l3, p1, decide_false, cond_false])
  · simp only [T_comptoirhelp_Kept_byte, Tr.val_c, Tr.val_r, val_opt, Plain_self A hA, Option.bind_some, Bool.not_true, cond_false, w, lx, l3, q1, q2, q3, decide_true, decide_false, cond_true, Int.toNat_natCast, List.drop_zero, ht, hd]

theorem refPut_eq (x0 : List AV) (v n : Int) (m : Nat) (hx : x0.length < 8796093022208) (hm : m ≤ 8) (hn : (if (if 8 < n then 8 else n) > 0 then (if 8 < n then 8 else n) else 0) = (m : Int)) : g_comptoirref01_Put x0 v n = some (x0 ++ bex v m) := by
  unfold g_comptoirref01_Put
  have l0 : x0.length * 2 < 70368744177664 := by omega
  have w0 : IntKind.i64.wrap ((m : Int) - 1) = (m : Int) - 1 := i64_wrap (by omega) (by omega)
  rw [run_inl (s := ((m : Int) - 1, x0)) (by simp only [T_comptoirref01_Put, Tr.val_c, Tr.val_r, l0, hn, w0, decide_true, cond_true])]
  have key : ∀ (i : Nat) (l : List AV), i ≤ 8 → l ++ bex v i = x0 ++ bex v m → run (M_comptoirref01_Put x0 v n) (M_comptoirref01_Put x0 v n ((i : Int) - 1, l)) = some (x0 ++ bex v m) := by
    intro i
    induction i with
    | zero =>
      intro l _ hl
      have : ¬ (((0 : Nat) : Int) - 1 ≥ 0) := by omega
      rw [← hl, bex, List.append_nil]
      exact run_inr (by simp only [M_comptoirref01_Put, Tr.val_c, Tr.val_r, this, decide_false, cond_false, beq_self_eq_true, cond_true])
    | succ i ih =>
      intro l hi hl
      have e : ((i + 1 : Nat) : Int) - 1 = (i : Int) := by omega
      have q1 : (i : Int) ≥ 0 := by omega
      have w1 : IntKind.u64.wrap (IntKind.i64.wrap (8 * (i : Int))) = 8 * (i : Int) := by rw [i64_wrap (by omega) (by omega), u64_wrap (by omega) (by omega)]
      have w2 : IntKind.i64.wrap ((i : Int) - 1) = (i : Int) - 1 := i64_wrap (by omega) (by omega)
      have q2 : (0 : Int) ≤ 8 * (i : Int) := by omega
      have hlen : l.length ≤ x0.length + 8 := by
        have := congrArg List.length hl
        simp at this; omega
      have l1 : (l ++ [AV.int .u8 (v / 256 ^ i % 256)]).length * 2 < 70368744177664 := by simp; omega
      rw [e, run_inl (s := ((i : Int) - 1, l ++ [.int .u8 (v / 256 ^ i % 256)])) (by
        simp only [M_comptoirref01_Put, Tr.val_c, Tr.val_r, q1, w1, w2, q2, shr8 v i (by omega), l1, decide_true, cond_true, beq_self_eq_true])]
      exact ih _ (by omega) (by rw [List.append_assoc]; exact hl)
  exact key m x0 hm rfl


theorem refNum_eq (l : List AV) (s : Nat) (n : Nat) (hl : l.length < 8796093022208) (hn : s + n ≤ l.length) : g_comptoirref01_Num l (s : Int) (n : Int) = some (numOf ((l.drop s).take n)) := by
  have loop : ∀ (m i : Nat) (v : Int), i + m = n → run (M_comptoirref01_Num l (s : Int) (n : Int)) (M_comptoirref01_Num l (s : Int) (n : Int) (v, (i : Int))) =
      some ((((l.drop s).take n).drop i).foldl (fun a x => bitsA .or .u64 (shlA .u64 a 8) (IntKind.u64.wrap (getI x))) v) := by
    have ll : ((l.drop s).take n).length = n := by simp only [List.length_take, List.length_drop]; omega
    intro m
    induction m with
    | zero =>
      intro i v hi
      have hlt : ¬ ((i : Int) < n) := by omega
      rw [List.drop_of_length_le (by omega)]
      exact run_inr (by simp only [M_comptoirref01_Num, Tr.val_c, Tr.val_r, hlt, decide_false, cond_false]; rfl)
    | succ m ih =>
      intro i v hi
      have q1 : (i : Int) < n := by omega
      have q2 : (0 : Int) ≤ ((s + i : Nat) : Int) := by omega
      have q4 : ((s + i : Nat) : Int) < l.length := by omega
      have q3 : i < ((l.drop s).take n).length := by omega
      have w0 : IntKind.i64.wrap ((s : Int) + (i : Int)) = ((s + i : Nat) : Int) := by rw [i64_wrap (by omega) (by omega)]; omega
      have w : IntKind.i64.wrap ((i : Int) + 1) = ((i + 1 : Nat) : Int) := by rw [i64_wrap (by omega) (by omega)]; omega
      have hg : l.getD (s + i) (.int .u8 0) = ((l.drop s).take n)[i] := by
        rw [List.getD_eq_getElem?_getD, List.getElem?_eq_getElem (by omega)]; simp
      rw [run_inl (s := (bitsA .or .u64 (shlA .u64 v 8) (IntKind.u64.wrap (getI ((l.drop s).take n)[i])), ((i + 1 : Nat) : Int))) (by simp only [M_comptoirref01_Num, Tr.val_c, Tr.val_r, q1, q2, q4, w, w0, hg, Int.toNat_natCast, decide_true, cond_true]), ih (i + 1) _ (by omega), List.drop_eq_getElem_cons q3, List.foldl_cons]
  unfold g_comptoirref01_Num
  rw [run_inl (s := (0, ((0 : Nat) : Int))) rfl, loop n 0 0 (by omega)]
  rfl


theorem foldl_bex (v : Nat) : ∀ (i a : Nat), i ≤ 8 → a < 256 ^ (8 - i) → (bex (v : Int) i).foldl (fun a x => bitsA .or .u64 (shlA .u64 a 8) (IntKind.u64.wrap (getI x))) (a : Int) = ((a * 256 ^ i + v % 256 ^ i : Nat) : Int)
  | 0, a, _, _ => by
    show (a : Int) = _
    rw [Nat.pow_zero, Nat.mod_one, Nat.mul_one, Nat.add_zero]
  | i + 1, a, hi, ha => by
    have e8 : 8 - i = (8 - (i + 1)) + 1 := by omega
    have hp : 256 ^ (8 - i) = 256 * 256 ^ (8 - (i + 1)) := by rw [e8, Nat.pow_succ, Nat.mul_comm]
    have h7 : 256 ^ (8 - (i + 1)) ≤ 256 ^ 7 := Nat.pow_le_pow_right (by omega) (by omega)
    have hy : v / 256 ^ i % 256 < 256 := Nat.mod_lt _ (by omega)
    have hb := byte_behind (a := a) (y := v / 256 ^ i % 256) (by omega) hy
    have hc : ((v : Int) / 256 ^ i % 256) = ((v / 256 ^ i % 256 : Nat) : Int) := by rw [Int.natCast_emod, Int.natCast_ediv, Int.natCast_pow]; rfl
    rw [bex, List.foldl_cons, getI_int, hc, hb, foldl_bex v i _ (by omega) (by rw [hp]; omega)]
    congr 1
    rw [Nat.pow_succ, Nat.mod_mul, Nat.add_mul, Nat.mul_assoc, Nat.mul_comm 256 (256 ^ i), Nat.mul_comm (v / 256 ^ i % 256)]
    omega

theorem numOf_bex (v n : Nat) (hn : n ≤ 8) : numOf (bex (v : Int) n) = ((v % 256 ^ n : Nat) : Int) := by
  have := foldl_bex v n 0 hn (Nat.pow_pos (by omega))
  unfold numOf
  rw [Nat.zero_mul, Nat.zero_add] at this
  exact this

/- the link -/
theorem next_short (w : List AV) (d : Bool) (h : w.length < 2) : g_link_Link_next_p500 w d = some ([], false, w, d) := by
  have a := New_eq w (by omega)
  have b := Number_eq 2 w 0 (by omega) (by omega)
  rw [if_neg (by decide), if_neg (by decide), if_pos (by omega)] at b
  have b : g_cursor_Cursor_Number_p0500 2 w 0 = some (0, 3, w, 0) := b
  unfold g_link_Link_next_p500
  simp only [T_link_Link_next_p500, Tr.val_c, Tr.val_r, val_opt, a, b, Option.bind_some]
  rfl

theorem next_num (w : List AV) (h : 2 ≤ w.length) (h2 : w.length < 8796093022208) : g_cursor_Cursor_Number_p0500 2 w 0 = some (numOf (w.take 2), 0, w, 2) := by
  have b := Number_eq 2 w 0 (by omega) h2
  rw [if_neg (by decide), if_neg (by decide), if_neg (by omega)] at b
  exact b

theorem next_dead (w : List AV) (d : Bool) (h : 2 ≤ w.length) (h2 : w.length < 8796093022208) (n : Int) (hn : numOf (w.take 2) = n) (hd : n = 0 ∨ n > 4096) : g_link_Link_next_p500 w d = some ([], false, w, true) := by
  have a := New_eq w h2
  have b := next_num w h h2
  unfold g_link_Link_next_p500
  simp only [T_link_Link_next_p500, Tr.val_c, Tr.val_r, val_opt, a, b, hn, Option.bind_some, bne_self_eq_false, cond_false]
  rcases hd with rfl | hd
  · rfl
  · have h0 : (n == 0) = false := by simp; omega
    simp only [h0, hd, decide_true, cond_true, cond_false]

theorem next_wait (w : List AV) (d : Bool) (h : 2 ≤ w.length) (h2 : w.length < 8796093022208) (n : Nat) (hn : numOf (w.take 2) = (n : Int)) (h1 : 1 ≤ n) (h4 : n ≤ 4096) (hw : w.length < 2 + n) : g_link_Link_next_p500 w d = some ([], false, w, d) := by
  have a := New_eq w h2
  have b := next_num w h h2
  have w1 : IntKind.i64.wrap (n : Int) = n := i64_wrap (by omega) (by omega)
  have c := Take_eq (n : Int) w 2 (by omega) h2
  rw [if_neg (by omega), if_pos (by omega)] at c
  have c : g_cursor_Cursor_Take_p0500 (n : Int) w 2 = some ([], 3, w, 2) := c
  have h0 : ((n : Int) == 0) = false := by simp; omega
  have h3 : ¬ ((n : Int) > 4096) := by omega
  unfold g_link_Link_next_p500
  simp only [T_link_Link_next_p500, Tr.val_c, Tr.val_r, val_opt, a, b, hn, Option.bind_some, bne_self_eq_false, cond_false, h0, h3, w1, c, decide_false]
  rfl

theorem next_one (w : List AV) (d : Bool) (h2 : w.length < 8796093022208) (n : Nat) (hn : numOf (w.take 2) = (n : Int)) (h1 : 1 ≤ n) (h4 : n ≤ 4096) (hw : 2 + n ≤ w.length) : g_link_Link_next_p500 w d = some ((w.drop 2).take n, true, w.drop (2 + n), d) := by
  have a := New_eq w h2
  have b := next_num w (by omega) h2
  have w1 : IntKind.i64.wrap (n : Int) = n := i64_wrap (by omega) (by omega)
  have c := Take_eq (n : Int) w 2 (by omega) h2
  rw [if_neg (by omega), if_neg (by omega), Int.toNat_natCast] at c
  have c : g_cursor_Cursor_Take_p0500 (n : Int) w 2 = some ((w.drop 2).take n, 0, w, ((2 + n : Nat) : Int)) := c
  have h0 : ((n : Int) == 0) = false := by simp; omega
  have h3 : ¬ ((n : Int) > 4096) := by omega
  have q1 : (w.length : Int) ≤ w.length := by omega
  have q2 : (0 : Int) ≤ ((2 + n : Nat) : Int) := by omega
  have q3 : ((2 + n : Nat) : Int) ≤ w.length := by omega
  unfold g_link_Link_next_p500
  simp only [T_link_Link_next_p500, Tr.val_c, Tr.val_r, val_opt, a, b, hn, Option.bind_some, bne_self_eq_false, cond_false, cond_true, h0, h3, w1, c, q1, q2, q3, decide_false, decide_true, Int.toNat_natCast, List.take_length]

theorem every_none (w w' : List AV) (d d' : Bool) (h : g_link_Link_next_p500 w d = some ([], false, w', d')) : g_link_every_fnext_p500 w d = some ([], w', d') := by
  unfold g_link_every_fnext_p500
  rw [run_inl (s := ([], false, w', d', [])) (by simp only [T_link_every_fnext_p500, Tr.val_c, Tr.val_r, val_opt, h, Option.bind_some])]
  exact run_inr (by simp only [M_link_every_fnext_p500, Tr.val_c, Tr.val_r, cond_false, cond_true, beq_self_eq_true])

theorem every_one (w w1 w2 b : List AV) (d d1 d2 : Bool) (h : g_link_Link_next_p500 w d = some (b, true, w1, d1)) (h' : g_link_Link_next_p500 w1 d1 = some ([], false, w2, d2)) : g_link_every_fnext_p500 w d = some ([.slice 1 (.int .u8) b .ro], w2, d2) := by
  unfold g_link_every_fnext_p500
  rw [run_inl (s := (b, true, w1, d1, [])) (by simp only [T_link_every_fnext_p500, Tr.val_c, Tr.val_r, val_opt, h, Option.bind_some])]
  rw [run_inl (s := ([], false, w2, d2, [.slice 1 (.int .u8) b .ro])) (by
    simp only [M_link_every_fnext_p500, Tr.val_c, Tr.val_r, val_opt, h', Option.bind_some, cond_true, beq_self_eq_true, List.nil_append]; rfl)]
  exact run_inr (by simp only [M_link_every_fnext_p500, Tr.val_c, Tr.val_r, cond_false, cond_true, beq_self_eq_true])

theorem Feed_eq (x w w' fr : List AV) (d : Bool) (hl : w.length + x.length < 8796093022208) (h : g_link_every_fnext_p500 (w ++ x) false = some (fr, w', d)) : g_link_Link_Feed_p0500 x w false = some (if d = true then ([], 4, w', true) else (fr, 0, w', false)) := by
  have c := Concat_eq w x (by omega)
  unfold g_link_Link_Feed_p0500
  simp only [T_link_Link_Feed_p0500, Tr.val_c, Tr.val_r, val_opt, c, h, Option.bind_some, Bool.not_false, cond_true]
  cases d <;> rfl

theorem Feed_dead (x w : List AV) : g_link_Link_Feed_p0500 x w true = some ([], 4, w, true) := by
  unfold g_link_Link_Feed_p0500
  simp only [T_link_Link_Feed_p0500, Tr.val_c, Tr.val_r, val_opt, Bool.not_true, cond_false, cond_true]

theorem Frame_eq (A : List AV) (h1 : 1 ≤ A.length) (h : A.length ≤ 4096) : g_link_Frame A = some (bex (A.length : Int) 2 ++ A, 0) := by
  have p := Put_eq [] (A.length : Int) 2 2 (by simp) (by omega) (by decide)
  have c := Concat_eq (bex (A.length : Int) 2) A (by simp; omega)
  have w : IntKind.u64.wrap (A.length : Int) = A.length := u64_wrap (by omega) (by omega)
  have q1 : ((A.length : Int) == 0) = false := by simp; intro h; rw [h] at h1; simp at h1
  have q2 : ¬ ((A.length : Int) > 4096) := by omega
  rw [List.nil_append] at p
  unfold g_link_Frame
  simp only [T_link_Frame, Tr.val_c, Tr.val_r, val_opt, q1, q2, w, p, c, Option.bind_some, decide_false, cond_false]

theorem Frame_big (A : List AV) (h1 : 1 ≤ A.length) (h : 4096 < A.length) (hl : A.length < 100000) : g_link_Frame A = some ([], 4) := by
  have q1 : ((A.length : Int) == 0) = false := by simp; intro h; rw [h] at h1; simp at h1
  have q2 : ((A.length : Int) > 4096) := by omega
  unfold g_link_Frame
  simp only [T_link_Frame, Tr.val_c, Tr.val_r, val_opt, q1, q2, decide_true, cond_true, cond_false]

theorem take_hdr (v : Nat) (r : List AV) : (bex (v : Int) 2 ++ r).take 2 = bex (v : Int) 2 := List.take_left' (by simp)

theorem awake06 : g_comptoirlaw06_awake = some true := by
  have hn : numOf (([AV.int .u8 0, .int .u8 1, .int .u8 7] : List AV).take 2) = ((1 : Nat) : Int) := by kernel_rfl
  have a := next_one [.int .u8 0, .int .u8 1, .int .u8 7] false (by simp) 1 hn (by omega) (by omega) (by simp)
  have b := next_short [] false (by simp)
  have e := every_one [.int .u8 0, .int .u8 1, .int .u8 7] [] [] [.int .u8 7] false false false a b
  have f := Feed_eq [.int .u8 0, .int .u8 1, .int .u8 7] [] [] _ false (by simp) e
  have g := Frame_eq [.int .u8 7] (by simp) (by simp)
  rw [if_neg (by decide)] at f
  unfold g_comptoirlaw06_awake
  simp only [T_comptoirlaw06_awake, Tr.val_c, Tr.val_r, val_opt, f, g, Option.bind_some]
  rfl

/- rows of bytes -/
def slb (b : List UInt8) : AV := .slice 1 (.int .u8) (bl b) .ro
@[simp] theorem getXs_slb (b : List UInt8) : getXs (slb b) = bl b := rfl
@[simp] theorem length_bl (b : List UInt8) : (bl b).length = b.length := by simp [bl]
theorem wf_rows : ∀ {xs : List AV}, (∀ y ∈ xs, Wf (.slice 1 (.int .u8)) y) → ∃ L : List (List UInt8), xs = L.map slb
  | [], _ => ⟨[], rfl⟩
  | x :: xs, h => by
    obtain ⟨L, hL⟩ := wf_rows (xs := xs) fun y hy => h y (by simp [hy])
    obtain ⟨b, hb, _⟩ := wf_bytes (h x (by simp))
    exact ⟨b :: L, by rw [hb, hL]; rfl⟩
theorem slb_getD (L : List (List UInt8)) (i : Nat) : (L.map slb).getD i (.slice 1 (.int .u8) [] .ro) = slb (L.getD i []) := by
  rw [List.getD_eq_getElem?_getD, List.getD_eq_getElem?_getD, List.getElem?_map]
  cases L[i]? <;> rfl

theorem Same_self (L : List AV) (hL : L.length < 8796093022208) : g_comptoirhelp_Same_byte_00fBytes_ L L = some true := by
  unfold g_comptoirhelp_Same_byte_00fBytes_
  rw [run_inl (s := (0 : Int)) (by simp only [T_comptoirhelp_Same_byte_00fBytes_, Tr.val_c, Tr.val_r, bne_self_eq_false, cond_false])]
  exact run_until (f := fun i => (i : Int)) (n := L.length) (fun i hi => by
    have q1 : (i : Int) < L.length := by omega
    have q2 : (0 : Int) ≤ i := by omega
    have w : IntKind.i64.wrap ((i : Int) + 1) = ((i + 1 : Nat) : Int) := by rw [i64_wrap (by omega) (by omega)]; omega
    simp only [M_comptoirhelp_Same_byte_00fBytes_, Tr.val_c, Tr.val_r, q1, q2, w, decide_true, cond_true, beq_self_eq_true, Bool.not_true, cond_false]) (by
    have q1 : ¬ ((L.length : Int) < L.length) := by omega
    simp only [M_comptoirhelp_Same_byte_00fBytes_, Tr.val_c, Tr.val_r, q1, decide_false, cond_false])


theorem num2 (w : List UInt8) (h : 2 ≤ w.length) : ∃ n : Nat, n < 65536 ∧ numOf ((bl w).take 2) = (n : Int) := by
  match w, h with
  | a :: b :: r, _ =>
    have ha := a.toNat_lt
    have hb := b.toNat_lt
    have e1 := byte_behind (a := 0) (y := a.toNat) (by omega) ha
    have e2 := byte_behind (a := 0 * 256 + a.toNat) (y := b.toNat) (by omega) hb
    refine ⟨(0 * 256 + a.toNat) * 256 + b.toNat, by omega, ?_⟩
    rw [← e2, ← e1]
    rfl

/-- Both walk alike. -/
theorem feed_both : ∀ (m : Nat) (w : List UInt8) (acc : List AV), w.length ≤ m → w.length < 1000000 → acc.length + w.length < 10000000 → ∃ (fr : List AV) (w' : List UInt8) (d : Bool),
    (∀ X d0 q, g_link_Link_next_p500 (bl w) false = some q → run (M_link_every_fnext_p500 X d0) (M_link_every_fnext_p500 X d0 (q.1, q.2.1, q.2.2.1, q.2.2.2, acc)) = some (fr, bl w', d)) ∧
    (∀ A B, run (M_comptoirref01_Link_Feed_p0500 A B false) (M_comptoirref01_Link_Feed_p0500 A B false (bl w, acc)) = some (if d = true then ([], 4, B, true) else (fr, 0, bl w', false))) ∧ w'.length ≤ w.length ∧ fr.length ≤ acc.length + w.length := by
  intro m
  induction m with
  | zero =>
    intro w acc hm hw ha
    have hl : (bl w).length = w.length := length_bl w
    have ns := next_short (bl w) false (by omega)
    have q : ¬ (((bl w).length : Int) ≥ 2) := by omega
    have l2 : (bl w).length * 2 < 70368744177664 := by omega
    refine ⟨acc, w, false, fun X d0 q hq => ?_, fun A B => ?_, Nat.le_refl _, by omega⟩
    · rw [ns] at hq; cases hq
      exact run_inr (by simp only [M_link_every_fnext_p500, Tr.val_c, Tr.val_r, beq_self_eq_true, cond_true, cond_false])
    · exact run_inr (by simp only [M_comptoirref01_Link_Feed_p0500, Tr.val_c, Tr.val_r, q, l2, decide_true, decide_false, beq_self_eq_true, cond_true, cond_false, Bool.false_eq_true, if_false])
  | succ m ih =>
    intro w acc hm hw ha
    have hl : (bl w).length = w.length := length_bl w
    have l2 : (bl w).length * 2 < 70368744177664 := by omega
    by_cases h2 : w.length < 2
    · have ns := next_short (bl w) false (by omega)
      have q : ¬ (((bl w).length : Int) ≥ 2) := by omega
      refine ⟨acc, w, false, fun X d0 q hq => ?_, fun A B => ?_, Nat.le_refl _, by omega⟩
      · rw [ns] at hq; cases hq
        exact run_inr (by simp only [M_link_every_fnext_p500, Tr.val_c, Tr.val_r, beq_self_eq_true, cond_true, cond_false])
      · exact run_inr (by simp only [M_comptoirref01_Link_Feed_p0500, Tr.val_c, Tr.val_r, q, l2, decide_true, decide_false, beq_self_eq_true, cond_true, cond_false, Bool.false_eq_true, if_false])
    obtain ⟨n, hn, hnum⟩ := num2 w (by omega)
    have q : ((bl w).length : Int) ≥ 2 := by omega
    have nn := refNum_eq (bl w) 0 2 (by omega) (by omega)
    rw [List.drop_zero, hnum] at nn
    have nn : g_comptoirref01_Num (bl w) 0 2 = some (n : Int) := nn
    have wn : IntKind.i64.wrap (n : Int) = (n : Int) := i64_wrap (by omega) (by omega)
    by_cases hd : n = 0 ∨ 4096 < n
    · have nd := next_dead (bl w) false (by omega) (by omega) (n : Int) hnum (by omega)
      refine ⟨acc, w, true, fun X d0 q hq => ?_, fun A B => ?_, Nat.le_refl _, by omega⟩
      · rw [nd] at hq; cases hq
        exact run_inr (by simp only [M_link_every_fnext_p500, Tr.val_c, Tr.val_r, beq_self_eq_true, cond_true, cond_false])
      · rcases hd with h0 | h0
        · have e0 : ((n : Int) == 0) = true := by rw [h0]; rfl
          exact run_inr (by simp only [M_comptoirref01_Link_Feed_p0500, Tr.val_c, Tr.val_r, val_opt, q, nn, wn, e0, Option.bind_some, decide_true, cond_true, if_true])
        · have e0 : ((n : Int) == 0) = false := by simp; omega
          have e1 : (n : Int) > 4096 := by omega
          exact run_inr (by simp only [M_comptoirref01_Link_Feed_p0500, Tr.val_c, Tr.val_r, val_opt, q, nn, wn, e0, e1, Option.bind_some, decide_true, cond_true, cond_false, if_true])
    have h1 : 1 ≤ n := by omega
    have h4 : n ≤ 4096 := by omega
    have e0 : ((n : Int) == 0) = false := by simp; omega
    have e1 : ¬ (n : Int) > 4096 := by omega
    have w2 : IntKind.i64.wrap (2 + (n : Int)) = ((2 + n : Nat) : Int) := by rw [i64_wrap (by omega) (by omega)]; omega
    by_cases hs : w.length < 2 + n
    · have nw := next_wait (bl w) false (by omega) (by omega) n hnum h1 h4 (by omega)
      have e2 : ((bl w).length : Int) < ((2 + n : Nat) : Int) := by omega
      refine ⟨acc, w, false, fun X d0 q hq => ?_, fun A B => ?_, Nat.le_refl _, by omega⟩
      · rw [nw] at hq; cases hq
        exact run_inr (by simp only [M_link_every_fnext_p500, Tr.val_c, Tr.val_r, beq_self_eq_true, cond_true, cond_false])
      · exact run_inr (by simp only [M_comptoirref01_Link_Feed_p0500, Tr.val_c, Tr.val_r, val_opt, q, nn, wn, e0, e1, w2, e2, l2, Option.bind_some, decide_true, decide_false, beq_self_eq_true, cond_true, cond_false, Bool.false_eq_true, if_false])
    have no := next_one (bl w) false (by omega) n hnum h1 h4 (by omega)
    have e2 : ¬ ((bl w).length : Int) < ((2 + n : Nat) : Int) := by omega
    have hdrop : (bl w).drop (2 + n) = bl (w.drop (2 + n)) := bl_drop w _
    have lacc : (acc ++ [AV.slice 1 (.int .u8) (((bl w).drop 2).take n) .ro]).length * 25 < 70368744177664 := by simp; omega
    obtain ⟨fr, w', d, r1, r2, r3, r4⟩ := ih (w.drop (2 + n)) (acc ++ [.slice 1 (.int .u8) (((bl w).drop 2).take n) .ro]) (by rw [List.length_drop]; omega) (by rw [List.length_drop]; omega) (by simp; omega)
    have hx : ∃ q, g_link_Link_next_p500 (bl (w.drop (2 + n))) false = some q := by
      have ll : (bl (w.drop (2 + n))).length = w.length - (2 + n) := by rw [length_bl, List.length_drop]
      by_cases g2 : (bl (w.drop (2 + n))).length < 2
      · exact ⟨_, next_short _ false g2⟩
      · obtain ⟨k, hk, hkn⟩ := num2 (w.drop (2 + n)) (by rw [length_bl] at g2; omega)
        by_cases g3 : k = 0 ∨ 4096 < k
        · exact ⟨_, next_dead _ false (by omega) (by omega) (k : Int) hkn (by omega)⟩
        · by_cases g4 : (bl (w.drop (2 + n))).length < 2 + k
          · exact ⟨_, next_wait _ false (by omega) (by omega) k hkn (by omega) (by omega) g4⟩
          · exact ⟨_, next_one _ false (by omega) k hkn (by omega) (by omega) (by omega)⟩
    obtain ⟨q2, hq2⟩ := hx
    refine ⟨fr, w', d, fun X d0 qq hq => ?_, fun A B => ?_, by rw [List.length_drop] at r3; omega, by simp at r4; omega⟩
    · rw [no] at hq; cases hq
      rw [run_inl (s := (q2.1, q2.2.1, q2.2.2.1, q2.2.2.2, acc ++ [.slice 1 (.int .u8) (((bl w).drop 2).take n) .ro])) (by
        simp only [M_link_every_fnext_p500, Tr.val_c, Tr.val_r, val_opt, lacc, hdrop, hq2, Option.bind_some, decide_true, beq_self_eq_true, cond_true])]
      exact r1 X d0 q2 hq2
    · have q1 : (0 : Int) ≤ ((2 + n : Nat) : Int) := by omega
      have q3 : ((2 + n : Nat) : Int) ≤ ((bl w).length : Int) := by omega
      have q4 : (2 : Int) ≤ ((2 + n : Nat) : Int) := by omega
      have q5 : ((bl w).length : Int) ≤ ((bl w).length : Int) := by omega
      have hdt : ((bl w).take (2 + n)).drop 2 = ((bl w).drop 2).take n := by rw [List.drop_take]; congr 1; omega
      have l3 : (((bl w).drop 2).take n).length * 2 < 70368744177664 := by rw [List.length_take, List.length_drop]; omega
      rw [run_inl (s := (bl (w.drop (2 + n)), acc ++ [.slice 1 (.int .u8) (((bl w).drop 2).take n) .ro])) (by
        simp only [M_comptoirref01_Link_Feed_p0500, Tr.val_c, Tr.val_r, val_opt, q, nn, wn, e0, e1, w2, e2, q1, q3, q4, q5, hdt, l3, lacc, hdrop, Int.toNat_natCast, List.take_length, Option.bind_some, decide_true, decide_false, beq_self_eq_true, cond_true, cond_false])]
      exact r2 A B

theorem Feed_both (x w : List UInt8) (h : w.length + x.length < 1000000) : ∃ (fr : List AV) (w' : List UInt8) (d : Bool), w'.length ≤ w.length + x.length ∧ fr.length ≤ w.length + x.length ∧
    g_link_Link_Feed_p0500 (bl x) (bl w) false = some (if d = true then ([], 4, bl w', true) else (fr, 0, bl w', false)) ∧
    g_comptoirref01_Link_Feed_p0500 (bl x) (bl w) false = some (if d = true then ([], 4, bl w, true) else (fr, 0, bl w', false)) := by
  have hl : (w ++ x).length = w.length + x.length := by simp
  obtain ⟨fr, w', d, r1, r2, r3, r4⟩ := feed_both (w ++ x).length (w ++ x) [] (Nat.le_refl _) (by omega) (by simp; omega)
  have hx : ∃ q, g_link_Link_next_p500 (bl (w ++ x)) false = some q := by
    have ll : (bl (w ++ x)).length = w.length + x.length := by rw [length_bl, hl]
    by_cases g2 : (bl (w ++ x)).length < 2
    · exact ⟨_, next_short _ false g2⟩
    · obtain ⟨k, hk, hkn⟩ := num2 (w ++ x) (by rw [length_bl] at g2; omega)
      by_cases g3 : k = 0 ∨ 4096 < k
      · exact ⟨_, next_dead _ false (by omega) (by omega) (k : Int) hkn (by omega)⟩
      · by_cases g4 : (bl (w ++ x)).length < 2 + k
        · exact ⟨_, next_wait _ false (by omega) (by omega) k hkn (by omega) (by omega) g4⟩
        · exact ⟨_, next_one _ false (by omega) k hkn (by omega) (by omega) (by omega)⟩
  obtain ⟨q, hq⟩ := hx
  have ev : g_link_every_fnext_p500 (bl w ++ bl x) false = some (fr, bl w', d) := by
    rw [← bl_append]
    unfold g_link_every_fnext_p500
    rw [run_inl (s := (q.1, q.2.1, q.2.2.1, q.2.2.2, [])) (by simp only [T_link_every_fnext_p500, Tr.val_r, val_opt, hq, Option.bind_some])]
    exact r1 _ _ q hq
  refine ⟨fr, w', d, by omega, by simp at r4; omega, Feed_eq (bl x) (bl w) (bl w') fr d (by rw [length_bl, length_bl]; omega) ev, ?_⟩
  have l1 : (bl w).length * 2 < 70368744177664 := by rw [length_bl]; omega
  have l2 : (bl w ++ bl x).length * 2 < 70368744177664 := by rw [← bl_append, length_bl]; omega
  unfold g_comptoirref01_Link_Feed_p0500
  rw [run_inl (s := (bl (w ++ x), [])) (by
    simp only [T_comptoirref01_Link_Feed_p0500, Tr.val_c, Tr.val_r, l1, l2, bl_append, decide_true, beq_self_eq_true, cond_true, cond_false])]
  exact r2 _ _

theorem refFeed_dead (x w : List AV) : g_comptoirref01_Link_Feed_p0500 x w true = some ([], 4, w, true) := by
  unfold g_comptoirref01_Link_Feed_p0500
  exact run_inr (by simp only [T_comptoirref01_Link_Feed_p0500, Tr.val_c, Tr.val_r, cond_true])

theorem frames (b : List UInt8) (h : b.length < 100000) : ∃ x e, g_link_Frame (bl b) = some (x, e) ∧ g_comptoirref01_Framed (bl b) = some (x, e) := by
  have hl := length_bl b
  by_cases h0 : b.length = 0
  · have q : (((bl b).length : Int) == 0) = true := by rw [hl, h0]; rfl
    refine ⟨[], 1, ?_, ?_⟩
    · unfold g_link_Frame; simp only [T_link_Frame, Tr.val_c, Tr.val_r, q, cond_true]
    · unfold g_comptoirref01_Framed; simp only [T_comptoirref01_Framed, Tr.val_c, Tr.val_r, q, cond_true]
  have q0 : (((bl b).length : Int) == 0) = false := by rw [beq_eq_false_iff_ne]; omega
  by_cases h4 : 4096 < b.length
  · have q : ((bl b).length : Int) > 4096 := by omega
    refine ⟨[], 4, ?_, ?_⟩
    · unfold g_link_Frame; simp only [T_link_Frame, Tr.val_c, Tr.val_r, q0, q, decide_true, cond_true, cond_false]
    · unfold g_comptoirref01_Framed; simp only [T_comptoirref01_Framed, Tr.val_c, Tr.val_r, q0, q, decide_true, cond_true, cond_false]
  have q : ¬ ((bl b).length : Int) > 4096 := by omega
  refine ⟨_, _, Frame_eq (bl b) (by omega) (by omega), ?_⟩
  have w : IntKind.u64.wrap ((bl b).length : Int) = (bl b).length := u64_wrap (by omega) (by omega)
  have p := refPut_eq [] ((bl b).length : Int) 2 2 (by simp) (by omega) (by decide)
  rw [List.nil_append] at p
  have l2 : (bex ((bl b).length : Int) 2 ++ bl b).length * 2 < 70368744177664 := by simp; omega
  unfold g_comptoirref01_Framed
  simp only [T_comptoirref01_Framed, Tr.val_c, Tr.val_r, val_opt, q0, q, w, p, l2, Option.bind_some, decide_true, decide_false, beq_self_eq_true, cond_true, cond_false]

theorem lplays_eq (L : List (List UInt8)) (b : List UInt8) (hL : L.length < TOP) : g_comptoirlaw06_LinkPlays (L.map slb) (bl b) = some true := by
  have lL : (L.map slb).length = L.length := by simp
  unfold TOP at hL
  unfold g_comptoirlaw06_LinkPlays
  rw [run_inl (s := (.inl (decide (((bl b).length : Int) > 5000)))) (by simp only [T_comptoirlaw06_LinkPlays, Tr.val_c, Tr.val_r, val_opt, awake06, Option.bind_some, Bool.not_true, cond_false])]
  by_cases hbig : ((bl b).length : Int) > 5000
  · exact run_inr (by simp only [M_comptoirlaw06_LinkPlays, Tr.val_c, Tr.val_r, val_opt, awake06, hbig, Option.bind_some, decide_true, cond_true])
  have hb : b.length < 100000 := by rw [length_bl] at hbig; omega
  obtain ⟨x, e, f1, f2⟩ := frames b hb
  rw [run_inl (s := (.inr (.inl (false)))) (by simp only [M_comptoirlaw06_LinkPlays, Tr.val_c, Tr.val_r, val_opt, hbig, f1, f2, Option.bind_some, decide_false, beq_self_eq_true, Bool.not_true, cond_false, bne_self_eq_false])]
  rw [run_inl (s := (.inr (.inr (.inl (((0 : Nat) : Int), bl [], false, bl [], false))))) rfl]
  have loop : ∀ (k i : Nat) (u v : List UInt8) (d : Bool), i + k = 40 → (d = false → u = v ∧ u.length ≤ 5000 * i) →
      run (M_comptoirlaw06_LinkPlays (L.map slb) (bl b)) (M_comptoirlaw06_LinkPlays (L.map slb) (bl b) (.inr (.inr (.inl ((i : Int), bl u, d, bl v, d))))) = some true := by
    intro k
    induction k with
    | zero =>
      intro i u v d hi hd
      have q : ¬ (i : Int) < 40 := by omega
      refine run_inr ?_
      by_cases q1 : (i : Int) < L.length
      · simp only [M_comptoirlaw06_LinkPlays, Tr.val_c, Tr.val_r, lL, q1, q, decide_true, decide_false, cond_true, cond_false]
      · simp only [M_comptoirlaw06_LinkPlays, Tr.val_c, Tr.val_r, lL, q1, decide_false, cond_false]
    | succ k ih =>
      intro i u v d hi hd
      have q : (i : Int) < 40 := by omega
      by_cases q1 : (i : Int) < L.length
      rotate_left
      · exact run_inr (by simp only [M_comptoirlaw06_LinkPlays, Tr.val_c, Tr.val_r, lL, q1, decide_false, cond_false])
      rw [run_inl (s := (.inr (.inr (.inr (.inl ((i : Int), bl u, d, bl v, d)))))) (by simp only [M_comptoirlaw06_LinkPlays, Tr.val_c, Tr.val_r, lL, q1, q, decide_true, cond_true])]
      have q0 : (0 : Int) ≤ i := by omega
      have w : IntKind.i64.wrap ((i : Int) + 1) = ((i + 1 : Nat) : Int) := by rw [i64_wrap (by omega) (by omega)]; omega
      obtain ⟨p, hp⟩ : ∃ p, p = L.getD i [] := ⟨_, rfl⟩
      by_cases hbp : ((bl p).length : Int) > 5000
      · exact run_inr (by simp only [M_comptoirlaw06_LinkPlays, Tr.val_c, Tr.val_r, lL, q0, q1, Int.toNat_natCast, slb_getD, getXs_slb, ← hp, hbp, decide_true, cond_true])
      have lp : (bl p).length ≤ 5000 := by omega
      have l4 : (bl p).length * 4 < 70368744177600 := by omega
      have kp := Kept_self (bl p) 71 (by omega)
      rw [length_bl] at lp
      have fin : ∀ (u' v' : List UInt8) (d' : Bool), run (M_comptoirlaw06_LinkPlays (L.map slb) (bl b)) (M_comptoirlaw06_LinkPlays (L.map slb) (bl b) (.inr (.inr (.inr (.inr (bl u', d', bl v', d', false, (i : Int))))))) =
          run (M_comptoirlaw06_LinkPlays (L.map slb) (bl b)) (M_comptoirlaw06_LinkPlays (L.map slb) (bl b) (.inr (.inr (.inl (((i + 1 : Nat) : Int), bl u', d', bl v', d'))))) := fun u' v' d' =>
        run_inl (by simp only [M_comptoirlaw06_LinkPlays, Tr.val_c, Tr.val_r, w, cond_false])
      cases d with
      | true =>
        have f := Feed_dead (bl p) (bl u)
        have g := refFeed_dead (bl p) (bl v)
        have ss := Same_self [] (by simp)
        rw [run_inl (s := (.inr (.inr (.inr (.inr (bl u, true, bl v, true, false, (i : Int))))))) (by
          simp only [M_comptoirlaw06_LinkPlays, Tr.val_c, Tr.val_r, val_opt, lL, q0, q1, Int.toNat_natCast, slb_getD, getXs_slb, ← hp, hbp, l4, f, g, ss, kp, Option.bind_some, decide_true, decide_false, Bool.not_true, bne_self_eq_false, cond_true, cond_false]), fin]
        exact ih (i + 1) u v true (by omega) (fun h => by simp at h)
      | false =>
        obtain ⟨rfl, hu⟩ := hd rfl
        obtain ⟨fr, w', d', r1, r2, f, g⟩ := Feed_both p u (by omega)
        cases d' with
        | true =>
          rw [if_pos rfl] at f g
          have ss := Same_self [] (by simp)
          rw [run_inl (s := (.inr (.inr (.inr (.inr (bl w', true, bl u, true, false, (i : Int))))))) (by
            simp only [M_comptoirlaw06_LinkPlays, Tr.val_c, Tr.val_r, val_opt, lL, q0, q1, Int.toNat_natCast, slb_getD, getXs_slb, ← hp, hbp, l4, f, g, ss, kp, Option.bind_some, decide_true, decide_false, Bool.not_true, bne_self_eq_false, cond_true, cond_false]), fin]
          exact ih (i + 1) w' u true (by omega) (fun h => by simp at h)
        | false =>
          rw [if_neg (by decide)] at f g
          have ss := Same_self fr (by omega)
          rw [run_inl (s := (.inr (.inr (.inr (.inr (bl w', false, bl w', false, false, (i : Int))))))) (by
            simp only [M_comptoirlaw06_LinkPlays, Tr.val_c, Tr.val_r, val_opt, lL, q0, q1, Int.toNat_natCast, slb_getD, getXs_slb, ← hp, hbp, l4, f, g, ss, kp, Option.bind_some, decide_true, decide_false, Bool.not_true, bne_self_eq_false, cond_true, cond_false]), fin]
          exact ih (i + 1) w' w' false (by omega) (fun _ => ⟨rfl, by omega⟩)
  exact loop 40 0 [] [] false rfl (fun _ => ⟨rfl, by simp⟩)

end Go.Proofs.Ytaejmfmamhdlhaa
