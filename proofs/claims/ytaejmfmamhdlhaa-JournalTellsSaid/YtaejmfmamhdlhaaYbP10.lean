/- What the printed functions come to, plainly. -/
import Derived.Test.YtaejmfmamhdlhaaYbG10
import Derived.Test.YtaejmfmamhdlhaaCxPl3
namespace Go.Proofs.Ytaejmfmamhdlhaa
open Go.Cx Go.Cx.AV
set_option linter.unusedSimpArgs false
set_option linter.unusedVariables false

/- slices.Concat of two. -/
theorem Grow_eq (n : Int) (h0 : 0 ≤ n) (h : n < 35184372088832) : g_slices_Grow_byte_byte n = some [] := by
  unfold g_slices_Grow_byte_byte
  have w : IntKind.i64.wrap (n - 0) = n := by rw [Int.sub_zero]; exact i64_wrap (by omega) (by omega)
  have hn0 : ¬ (n < 0) := by omega
  have hT : (T_slices_Grow_byte_byte n).val = some (.inl (.inl ())) := by simp only [T_slices_Grow_byte_byte, Tr.val_c, Tr.val_r, hn0]; rfl
  rw [run_inl hT]
  rw [run_inl (s := .inr ())]
  · exact run_inr rfl
  · simp only [M_slices_Grow_byte_byte, Tr.val_c, Tr.val_r, w, List.length_replicate]
    by_cases hn : n > 0
    · have : n.toNat * 2 < 70368744177664 := by omega
      simp [hn, this]
    · simp [hn]

theorem Concat_eq (a b : List AV) (h : a.length + b.length < 17592186044416) : g_slices_Concat_byte_byte [.slice 1 (.int .u8) a .ro, .slice 1 (.int .u8) b .ro] = some (a ++ b) := by
  have e0 : getXs (List.getD [AV.slice 1 (.int .u8) a .ro, .slice 1 (.int .u8) b .ro] (Int.toNat 0) (.slice 1 (.int .u8) [] .ro)) = a := rfl
  have e1 : getXs (List.getD [AV.slice 1 (.int .u8) a .ro, .slice 1 (.int .u8) b .ro] (Int.toNat 1) (.slice 1 (.int .u8) [] .ro)) = b := rfl
  have w0 : IntKind.i64.wrap (0 + (a.length : Int)) = a.length := by rw [Int.zero_add]; exact i64_wrap (by omega) (by omega)
  have w1 : IntKind.i64.wrap ((a.length : Int) + b.length) = ((a.length + b.length : Nat) : Int) := by rw [i64_wrap (by omega) (by omega)]; omega
  have w2 : IntKind.i64.wrap (0 + 1) = 1 := rfl
  have w3 : IntKind.i64.wrap (1 + 1) = 2 := rfl
  have n0 : ¬ ((a.length : Int) < 0) := by omega
  have n1 : ¬ (((a.length + b.length : Nat) : Int) < 0) := by omega
  have l0 : a.length * 2 < 70368744177664 := by omega
  have l1 : (a.length + b.length) * 2 < 70368744177664 := by omega
  have gr := Grow_eq (((a.length + b.length : Nat) : Int)) (by omega) (by omega)
  unfold g_slices_Concat_byte_byte
  rw [run_inl (s := .inl (0, 0)) rfl]
  rw [run_inl (s := .inl ((a.length : Int), 1)) (by simp only [M_slices_Concat_byte_byte, Tr.val_c, Tr.val_r, e0, w0, w2, n0]; rfl)]
  rw [run_inl (s := .inl (((a.length + b.length : Nat) : Int), 2)) (by simp only [M_slices_Concat_byte_byte, Tr.val_c, Tr.val_r, e1, w1, w3, n1]; rfl)]
  rw [run_inl (s := .inr ([], 0)) (by simp only [M_slices_Concat_byte_byte, Tr.val_c, Tr.val_r, gr, opt_some]; rfl)]
  rw [run_inl (s := .inr (a, 1)) (by simp only [M_slices_Concat_byte_byte, Tr.val_c, Tr.val_r, e0, w2, List.nil_append, l0, decide_true, beq_self_eq_true]; rfl)]
  rw [run_inl (s := .inr (a ++ b, 2)) (by simp only [M_slices_Concat_byte_byte, Tr.val_c, Tr.val_r, e1, w3, List.length_append, l1, decide_true, beq_self_eq_true]; rfl)]
  exact run_inr (by simp only [M_slices_Concat_byte_byte, Tr.val_c, Tr.val_r, beq_self_eq_true]; rfl)

/- the cursor -/
theorem shr8 (v : Int) : ∀ i : Nat, i < 8 → IntKind.u8.wrap (shrA .u64 v (8 * (i : Int))) = v / 256 ^ i % 256
  | 0, _ => by rw [u8_mod]; show v.fdiv 1 % 256 = _; rw [Int.fdiv_eq_ediv_of_nonneg _ (by decide)]; rfl
  | 1, _ => by rw [u8_mod]; show v.fdiv 256 % 256 = _; rw [Int.fdiv_eq_ediv_of_nonneg _ (by decide)]; rfl
  | 2, _ => by rw [u8_mod]; show v.fdiv 65536 % 256 = _; rw [Int.fdiv_eq_ediv_of_nonneg _ (by decide)]; rfl
  | 3, _ => by rw [u8_mod]; show v.fdiv 16777216 % 256 = _; rw [Int.fdiv_eq_ediv_of_nonneg _ (by decide)]; rfl
  | 4, _ => by rw [u8_mod]; show v.fdiv 4294967296 % 256 = _; rw [Int.fdiv_eq_ediv_of_nonneg _ (by decide)]; rfl
  | 5, _ => by rw [u8_mod]; show v.fdiv 1099511627776 % 256 = _; rw [Int.fdiv_eq_ediv_of_nonneg _ (by decide)]; rfl
  | 6, _ => by rw [u8_mod]; show v.fdiv 281474976710656 % 256 = _; rw [Int.fdiv_eq_ediv_of_nonneg _ (by decide)]; rfl
  | 7, _ => by rw [u8_mod]; show v.fdiv 72057594037927936 % 256 = _; rw [Int.fdiv_eq_ediv_of_nonneg _ (by decide)]; rfl
  | n + 8, h => by omega

/-- The lowest bytes of a number, the highest first. -/
def bex (v : Int) : Nat → List AV
  | 0 => []
  | i + 1 => .int .u8 (v / 256 ^ i % 256) :: bex v i
@[simp] theorem length_bex (v : Int) (i : Nat) : (bex v i).length = i := by induction i <;> simp [bex, *]

theorem set_last (r : List AV) (x y : AV) (j : Nat) : (List.replicate (j + 1) x ++ r).set j y = List.replicate j x ++ y :: r := by
  induction j with
  | zero => rfl
  | succ j ih => rw [List.replicate_succ (n := j + 1), List.cons_append, List.set_cons_succ, ih]; rfl

theorem Put_eq (x0 : List AV) (v n : Int) (m : Nat) (hx : x0.length < 8796093022208) (hm : m ≤ 8) (hn : (if 8 < (if 0 > n then 0 else n) then 8 else if 0 > n then 0 else n) = (m : Int)) : g_cursor_Put x0 v n = some (x0 ++ bex v m) := by
  unfold g_cursor_Put
  have hr : m * 2 < 70368744177664 := by omega
  have h0 : (0 : Int) ≤ m := by omega
  rw [run_inl (s := ((m : Int), (m : Int), List.replicate m (.int .u8 0), 0))]
  rotate_left
  · simp only [T_cursor_Put, Tr.val_c, Tr.val_r, hn, h0, Int.toNat_natCast, List.length_replicate, hr, decide_true, cond_true, beq_self_eq_true]
  have key : ∀ k i, i + k = m → run (M_cursor_Put x0 v n) (M_cursor_Put x0 v n ((m : Int), (m : Int), List.replicate k (.int .u8 0) ++ bex v i, (i : Int))) = some (x0 ++ bex v m) := by
    intro k
    induction k with
    | zero =>
      intro i hi
      have : i = m := by omega
      subst this
      have hlt : ¬ ((i : Int) < i) := by omega
      have hc := Concat_eq x0 (bex v i) (by simp; omega)
      exact run_inr (by simp only [M_cursor_Put, Tr.val_c, Tr.val_r, hlt, List.replicate_zero, List.nil_append, val_opt, hc, Option.bind_some, decide_false, cond_false, beq_self_eq_true, cond_true])
    | succ k ih =>
      intro i hi
      have q1 : (i : Int) < m := by omega
      have w1 : IntKind.i64.wrap (8 * (i : Int)) = 8 * i := i64_wrap (by omega) (by omega)
      have w2 : IntKind.i64.wrap ((m : Int) - 1) = m - 1 := i64_wrap (by omega) (by omega)
      have w3 : IntKind.i64.wrap ((m : Int) - 1 - i) = (k : Int) := by rw [i64_wrap (by omega) (by omega)]; omega
      have w4 : IntKind.i64.wrap ((i : Int) + 1) = ((i + 1 : Nat) : Int) := by rw [i64_wrap (by omega) (by omega)]; omega
      have q2 : (0 : Int) ≤ 8 * i := by omega
      have q3 : (0 : Int) ≤ k := by omega
      have hl : (List.replicate (k + 1) (AV.int .u8 0) ++ bex v i).length = m := by simp; omega
      have hl2 : (List.replicate k (AV.int .u8 0) ++ AV.int .u8 (v / 256 ^ i % 256) :: bex v i).length = m := by simp; omega
      have q4 : (k : Int) < m := by omega
      have q5 : k < m := by omega
      rw [run_inl (s := ((m : Int), (m : Int), List.replicate k (.int .u8 0) ++ bex v (i + 1), ((i + 1 : Nat) : Int)))]
      · exact ih (i + 1) (by omega)
      · simp only [M_cursor_Put, Tr.val_c, Tr.val_r, q1, w1, w2, w3, w4, q2, q3, q4, q5, hl, Int.toNat_natCast, shr8 v i (by omega), decide_true, cond_true, beq_self_eq_true, set_last, hl2]
        rfl
  have := key m 0 (by omega)
  simpa [bex] using this

theorem take_eq (n : Int) (b : List AV) (k : Nat) (hk : k ≤ b.length) (hb : b.length < 8796093022208) :
    g_cursor_Cursor_take_p0500 n b k = some (if n < 0 then ([], 1, b, (k : Int)) else if n > b.length - k then ([], 3, b, (k : Int)) else ((b.drop k).take n.toNat, 0, b, (k : Int) + n)) := by
  unfold g_cursor_Cursor_take_p0500
  have w0 : IntKind.i64.wrap ((b.length : Int) - k) = b.length - k := i64_wrap (by omega) (by omega)
  by_cases h1 : n < 0
  · simp only [T_cursor_Cursor_take_p0500, Tr.val_c, Tr.val_r, h1, decide_true, cond_true, if_true]
  · by_cases h2 : n > (b.length : Int) - k
    · simp only [T_cursor_Cursor_take_p0500, Tr.val_c, Tr.val_r, h1, h2, w0, decide_true, decide_false, cond_true, cond_false, if_true, if_false]
    · have w1 : IntKind.i64.wrap ((k : Int) + n) = k + n := i64_wrap (by omega) (by omega)
      have w2 : IntKind.i64.wrap ((k : Int) + n - n) = k := by rw [i64_wrap (by omega) (by omega)]; omega
      have q1 : (0 : Int) ≤ k + n := by omega
      have q2 : (k : Int) + n ≤ b.length := by omega
      have q3 : (0 : Int) ≤ k := by omega
      have q4 : (k : Int) ≤ k + n := by omega
      have hd : ((b.take ((k : Int) + n).toNat).drop (k : Int).toNat) = (b.drop k).take n.toNat := by
        rw [List.drop_take]; congr 1; omega
      simp only [T_cursor_Cursor_take_p0500, Tr.val_c, Tr.val_r, h1, h2, w0, w1, w2, q1, q2, q3, q4, hd, decide_true, decide_false, cond_true, cond_false, if_false]

theorem read_eq (n : Int) (b : List AV) (k : Int) : g_cursor_read_ftake_0p500 n b k = g_cursor_Cursor_take_p0500 n b k := by
  conv => lhs; unfold g_cursor_read_ftake_0p500
  simp only [T_cursor_read_ftake_0p500, Tr.val_c, Tr.val_r, val_opt]
  cases g_cursor_Cursor_take_p0500 n b k <;> rfl

/-- The number that bytes are. -/
def numOf (l : List AV) : Int := l.foldl (fun a x => bitsA .or .u64 (shlA .u64 a 8) (IntKind.u64.wrap (getI x))) 0

theorem Number_eq (n : Int) (b : List AV) (k : Nat) (hk : k ≤ b.length) (hb : b.length < 8796093022208) :
    g_cursor_Cursor_Number_p0500 n b k = some (if n < 1 then (0, 1, b, (k : Int)) else if n > 8 then (0, 1, b, (k : Int)) else if n > b.length - k then (0, 3, b, (k : Int)) else (numOf ((b.drop k).take n.toNat), 0, b, (k : Int) + n)) := by
  unfold g_cursor_Cursor_Number_p0500
  by_cases h1 : n < 1
  · rw [run_inr (x := (0, 1, b, (k : Int))) (by simp only [T_cursor_Cursor_Number_p0500, Tr.val_c, Tr.val_r, h1, decide_true, cond_true])]
    simp [h1]
  by_cases h2 : n > 8
  · rw [run_inr (x := (0, 1, b, (k : Int))) (by simp only [T_cursor_Cursor_Number_p0500, Tr.val_c, Tr.val_r, h1, h2, decide_true, decide_false, cond_true, cond_false])]
    simp [h1, h2]
  have loop : ∀ (e : Int) (l : List AV) (b2 : List AV) (at' : Int), l.length < 8796093022208 → ∀ m i v, i + m = l.length → run (M_cursor_Cursor_Number_p0500 n b k) (M_cursor_Cursor_Number_p0500 n b k (e, l, (l.length : Int), b2, at', v, (i : Int))) =
      some ((l.drop i).foldl (fun a x => bitsA .or .u64 (shlA .u64 a 8) (IntKind.u64.wrap (getI x))) v, e, b2, at') := by
    intro e l b2 at' hl m
    induction m with
    | zero =>
      intro i v hi
      have hlt : ¬ ((i : Int) < l.length) := by omega
      rw [List.drop_of_length_le (by omega)]
      exact run_inr (by simp only [M_cursor_Cursor_Number_p0500, Tr.val_c, Tr.val_r, hlt, decide_false, cond_false]; rfl)
    | succ m ih =>
      intro i v hi
      have q1 : (i : Int) < l.length := by omega
      have q2 : (0 : Int) ≤ i := by omega
      have q3 : i < l.length := by omega
      have w : IntKind.i64.wrap ((i : Int) + 1) = ((i + 1 : Nat) : Int) := by rw [i64_wrap (by omega) (by omega)]; omega
      have hg : l.getD i (.int .u8 0) = l[i] := by simp [List.getD_eq_getElem?_getD, q3]
      rw [run_inl (s := (e, l, (l.length : Int), b2, at', bitsA .or .u64 (shlA .u64 v 8) (IntKind.u64.wrap (getI l[i])), ((i + 1 : Nat) : Int))) (by simp only [M_cursor_Cursor_Number_p0500, Tr.val_c, Tr.val_r, q1, q2, w, hg, Int.toNat_natCast, decide_true, cond_true]), ih (i + 1) _ (by omega), List.drop_eq_getElem_cons q3, List.foldl_cons]
  have ht := take_eq n b k hk hb
  have h0 : ¬ n < 0 := by omega
  by_cases h3 : n > (b.length : Int) - k
  · rw [run_inl (s := (3, [], ((([] : List AV).length : Nat) : Int), b, (k : Int), 0, ((0 : Nat) : Int)))]
    · rw [loop 3 [] b k (by simp) 0 0 0 rfl]
      simp [h1, h2, h3]
    · simp only [T_cursor_Cursor_Number_p0500, Tr.val_c, Tr.val_r, val_opt, h1, h2, h0, h3, read_eq, ht, Option.bind_some, if_true, if_false, decide_false, cond_false]
      rfl
  · rw [run_inl (s := (0, (b.drop k).take n.toNat, ((((b.drop k).take n.toNat).length : Nat) : Int), b, (k : Int) + n, 0, ((0 : Nat) : Int)))]
    · rw [loop 0 _ b _ (by simp only [List.length_take, List.length_drop]; omega) ((b.drop k).take n.toNat).length 0 0 (by omega)]
      simp only [h1, h2, h3, if_false, List.drop_zero, numOf]
    · simp only [T_cursor_Cursor_Number_p0500, Tr.val_c, Tr.val_r, val_opt, h1, h2, h0, h3, read_eq, ht, Option.bind_some, if_true, if_false, decide_false, cond_false]
      rfl

theorem New_eq (b : List AV) (hb : b.length < 8796093022208) : g_cursor_New b = some (b, 0) := by
  have : b.length * 2 < 70368744177664 := by omega
  unfold g_cursor_New
  simp only [T_cursor_New, Tr.val_c, Tr.val_r, this, decide_true, cond_true]


theorem Take_eq (n : Int) (b : List AV) (k : Nat) (hk : k ≤ b.length) (hb : b.length < 8796093022208) :
    g_cursor_Cursor_Take_p0500 n b k = some (if n < 0 then ([], 1, b, (k : Int)) else if n > b.length - k then ([], 3, b, (k : Int)) else ((b.drop k).take n.toNat, 0, b, (k : Int) + n)) := by
  have h := take_eq n b k hk hb
  have hl : ∀ m : Nat, ((b.drop k).take m).length * 2 < 70368744177664 := by
    intro m; simp only [List.length_take, List.length_drop]; omega
  unfold g_cursor_Cursor_Take_p0500
  simp only [T_cursor_Cursor_Take_p0500, Tr.val_c, Tr.val_r, val_opt, read_eq, h, Option.bind_some]
  by_cases h1 : n < 0
  · simp [h1]
  · by_cases h2 : n > (b.length : Int) - k
    · simp [h1, h2]
    · simp only [h1, h2, if_false, hl, decide_true, cond_true]


/- copies with room behind them -/
theorem Plain_self (A : List AV) (hA : A.length < 8796093022208) : g_comptoirhelp_Plain_byte A A = some true := by
  have h : g_comptoirhelp_Same_byte_00fPlainbyte1_ A A = some true := by
    unfold g_comptoirhelp_Same_byte_00fPlainbyte1_
    rw [run_inl (s := (0 : Int)) (by simp only [T_comptoirhelp_Same_byte_00fPlainbyte1_, Tr.val_c, Tr.val_r, bne_self_eq_false, cond_false])]
    exact run_until (f := fun i => (i : Int)) (n := A.length) (fun i hi => by
      have q1 : (i : Int) < A.length := by omega
      have q2 : (0 : Int) ≤ i := by omega
      have w : IntKind.i64.wrap ((i : Int) + 1) = ((i + 1 : Nat) : Int) := by rw [i64_wrap (by omega) (by omega)]; omega
      simp only [M_comptoirhelp_Same_byte_00fPlainbyte1_, Tr.val_c, Tr.val_r, q1, q2, w, decide_true, cond_true, beq_self_eq_true, Bool.not_true, cond_false]) (by
      have q1 : ¬ ((A.length : Int) < A.length) := by omega
      simp only [M_comptoirhelp_Same_byte_00fPlainbyte1_, Tr.val_c, Tr.val_r, q1, decide_false, cond_false])
  unfold g_comptoirhelp_Plain_byte
  simp only [T_comptoirhelp_Plain_byte, Tr.val_c, Tr.val_r, val_opt, h, Option.bind_some]

theorem Kept_self (A : List AV) (x : Int) (hA : A.length < 8796093022208) : g_comptoirhelp_Kept_byte A [.int .u8 x, .int .u8 x, .int .u8 x] A x = some true := by
  have w : IntKind.i64.wrap ((A.length : Int) + 3) = ((A.length + 3 : Nat) : Int) := by rw [i64_wrap (by omega) (by omega)]; omega
  have l3 : (A ++ [AV.int .u8 x, .int .u8 x, .int .u8 x]).length = A.length + 3 := by simp
  have q1 : ¬ (((A.length + 3 : Nat) : Int) < ((A.length + 3 : Nat) : Int)) := by omega
  have q2 : (0 : Int) ≤ ((A.length + 3 : Nat) : Int) := by omega
  have q3 : ((A.length + 3 : Nat) : Int) ≤ ((A.length + 3 : Nat) : Int) := by omega
  have lx : [AV.int .u8 x, .int .u8 x, .int .u8 x].length = 3 := rfl
  have ht : List.take (A.length + 3) (A ++ [AV.int .u8 x, .int .u8 x, .int .u8 x]) = A ++ [AV.int .u8 x, .int .u8 x, .int .u8 x] := List.take_of_length_le (by rw [l3]; omega)
  have hd : List.drop (A.length + 3) (A ++ [AV.int .u8 x, .int .u8 x, .int .u8 x]) = [] := List.drop_of_length_le (by rw [l3]; omega)
  unfold g_comptoirhelp_Kept_byte
  rw [run_inl (s := (A ++ [AV.int .u8 x, .int .u8 x, .int .u8 x], [], (A.length : Int)))]
  · have step : ∀ j : Nat, j < 3 → (M_comptoirhelp_Kept_byte A [.int .u8 x, .int .u8 x, .int .u8 x] A x (A ++ [AV.int .u8 x, .int .u8 x, .int .u8 x], [], ((A.length + j : Nat) : Int))).val = some (.inl (A ++ [AV.int .u8 x, .int .u8 x, .int .u8 x], [], ((A.length + (j + 1) : Nat) : Int))) := by
      intro j hj
      have p1 : ((A.length + j : Nat) : Int) < ((A.length + 3 : Nat) : Int) := by omega
      have p2 : (0 : Int) ≤ ((A.length + j : Nat) : Int) := by omega
      have w1 : IntKind.i64.wrap (((A.length + j : Nat) : Int) + 1) = ((A.length + (j + 1) : Nat) : Int) := by rw [i64_wrap (by omega) (by omega)]; omega
      have hg : getI ((A ++ [AV.int .u8 x, .int .u8 x, .int .u8 x]).getD (A.length + j) (.int .u8 0)) = x := by
        rw [List.getD_eq_getElem?_getD, List.getElem?_append_right (by omega), Nat.add_sub_cancel_left]
        rcases (show j = 0 ∨ j = 1 ∨ j = 2 by omega) with rfl | rfl | rfl <;> rfl
      simp only [M_comptoirhelp_Kept_byte, Tr.val_c, Tr.val_r, l3, p1, p2, w1, Int.toNat_natCast, hg, decide_true, cond_true, bne_self_eq_false, cond_false]
    have e : (A.length : Int) = ((A.length + 0 : Nat) : Int) := rfl
    rw [e, run_inl (step 0 (by omega)), run_inl (step 1 (by omega)), run_inl (step 2 (by omega))]
    exact run_inr (by
      have p1 : ¬ (((A.length + (2 + 1) : Nat) : Int) < ((A.length + 3 : Nat) : Int)) := by omega
      simp only [M_comptoirhelp_Kept_byte, Tr.val_c, Tr.val_r, l3, p1, decide_false, cond_false])
  · simp only [T_comptoirhelp_Kept_byte, Tr.val_c, Tr.val_r, val_opt, Plain_self A hA, Option.bind_some, Bool.not_true, cond_false, w, lx, l3, q1, q2, q3, decide_true, decide_false, cond_true, Int.toNat_natCast, List.drop_zero, ht, hd]

theorem refPut_eq (x0 : List AV) (v n : Int) (m : Nat) (hx : x0.length < 8796093022208) (hm : m ≤ 8) (hn : (if (if 8 < n then 8 else n) > 0 then (if 8 < n then 8 else n) else 0) = (m : Int)) : g_comptoirref01_Put x0 v n = some (x0 ++ bex v m) := by
  unfold g_comptoirref01_Put
  have l0 : x0.length * 2 < 70368744177664 := by omega
  have w0 : IntKind.i64.wrap ((m : Int) - 1) = (m : Int) - 1 := i64_wrap (by omega) (by omega)
  rw [run_inl (s := ((m : Int) - 1, x0)) (by simp only [T_comptoirref01_Put, Tr.val_c, Tr.val_r, l0, hn, w0, decide_true, cond_true])]
  have key : ∀ (i : Nat) (l : List AV), i ≤ 8 → l ++ bex v i = x0 ++ bex v m → run (M_comptoirref01_Put x0 v n) (M_comptoirref01_Put x0 v n ((i : Int) - 1, l)) = some (x0 ++ bex v m) := by
    intro i
    induction i with
    | zero =>
      intro l _ hl
      have : ¬ (((0 : Nat) : Int) - 1 ≥ 0) := by omega
      rw [← hl, bex, List.append_nil]
      exact run_inr (by simp only [M_comptoirref01_Put, Tr.val_c, Tr.val_r, this, decide_false, cond_false, beq_self_eq_true, cond_true])
    | succ i ih =>
      intro l hi hl
      have e : ((i + 1 : Nat) : Int) - 1 = (i : Int) := by omega
      have q1 : (i : Int) ≥ 0 := by omega
      have w1 : IntKind.u64.wrap (IntKind.i64.wrap (8 * (i : Int))) = 8 * (i : Int) := by rw [i64_wrap (by omega) (by omega), u64_wrap (by omega) (by omega)]
      have w2 : IntKind.i64.wrap ((i : Int) - 1) = (i : Int) - 1 := i64_wrap (by omega) (by omega)
      have q2 : (0 : Int) ≤ 8 * (i : Int) := by omega
      have hlen : l.length ≤ x0.length + 8 := by
        have := congrArg List.length hl
        simp at this; omega
      have l1 : (l ++ [AV.int .u8 (v / 256 ^ i % 256)]).length * 2 < 70368744177664 := by simp; omega
      rw [e, run_inl (s := ((i : Int) - 1, l ++ [.int .u8 (v / 256 ^ i % 256)])) (by
        simp only [M_comptoirref01_Put, Tr.val_c, Tr.val_r, q1, w1, w2, q2, shr8 v i (by omega), l1, decide_true, cond_true, beq_self_eq_true])]
      exact ih _ (by omega) (by rw [List.append_assoc]; exact hl)
  exact key m x0 hm rfl


/- sums over bytes -/
def cb (c : Nat) : Nat := if c % 2 = 1 then (c / 2) ^^^ 3988292384 else c / 2
def cbs : Nat → Nat → Nat
  | 0, c => c
  | k + 1, c => cbs k (cb c)
theorem cb_lt {c : Nat} (h : c < 4294967296) : cb c < 4294967296 := by
  unfold cb
  split
  · exact Nat.xor_lt_two_pow (n := 32) (by omega) (by omega)
  · omega
theorem cbs_lt : ∀ (k : Nat) {c : Nat}, c < 4294967296 → cbs k c < 4294967296
  | 0, _, h => h
  | k + 1, _, h => cbs_lt k (cb_lt h)
/-- One byte more. -/
def crc1 (c : Nat) (y : AV) : Nat := cbs 8 (c ^^^ (IntKind.u32.wrap (getI y)).toNat)
theorem u32_nat (n : Int) : ((IntKind.u32.wrap n).toNat : Int) = IntKind.u32.wrap n ∧ (IntKind.u32.wrap n).toNat < 4294967296 := by
  rw [u32_mod]; omega
theorem xor_lt32 {a b : Nat} (ha : a < 4294967296) (hb : b < 4294967296) : a ^^^ b < 4294967296 := Nat.xor_lt_two_pow (n := 32) ha hb
theorem crc1_lt {c : Nat} (y : AV) (h : c < 4294967296) : crc1 c y < 4294967296 := cbs_lt 8 (xor_lt32 h (u32_nat _).2)
theorem crcF_lt : ∀ (l : List AV) {c : Nat}, c < 4294967296 → l.foldl crc1 c < 4294967296
  | [], _, h => h
  | y :: l, _, h => crcF_lt l (crc1_lt y h)
def crcN (l : List AV) : Nat := (l.foldl crc1 4294967295) ^^^ 4294967295
theorem crcN_lt (l : List AV) : crcN l < 4294967296 := xor_lt32 (crcF_lt l (by omega)) (by omega)
theorem xor32' {X Y : Nat} (hX : X < 4294967296) (hY : Y < 4294967296) : bitsA .xor .u32 (X : Int) (Y : Int) = ((X ^^^ Y : Nat) : Int) := xor32 hX hY

theorem step_eq (x : Int) (c : Nat) (hc : c < 4294967296) : g_crc_sum_step_p050 x (c : Int) = some ((cbs 8 (c ^^^ (IntKind.u32.wrap x).toNat) : Nat) : Int) := by
  obtain ⟨u1, u2⟩ := u32_nat x
  unfold g_crc_sum_step_p050
  have h0 : bitsA .xor .u32 (c : Int) (IntKind.u32.wrap x) = ((c ^^^ (IntKind.u32.wrap x).toNat : Nat) : Int) := by rw [← xor32' hc u2, u1]
  rw [run_inl (s := (((0 : Nat) : Int), ((c ^^^ (IntKind.u32.wrap x).toNat : Nat) : Int))) (by simp only [T_crc_sum_step_p050, Tr.val_r, h0]; rfl)]
  have key : ∀ k i d : Nat, i + k = 8 → d < 4294967296 → run (M_crc_sum_step_p050 x (c : Int)) (M_crc_sum_step_p050 x (c : Int) ((i : Int), (d : Int))) = some ((cbs k d : Nat) : Int) := by
    intro k
    induction k with
    | zero =>
      intro i d hi hd
      have q : ¬ ((i : Int) < 8) := by omega
      exact run_inr (by simp only [M_crc_sum_step_p050, Tr.val_c, Tr.val_r, q, decide_false, cond_false]; rfl)
    | succ k ih =>
      intro i d hi hd
      have q : (i : Int) < 8 := by omega
      have w : IntKind.i64.wrap ((i : Int) + 1) = ((i + 1 : Nat) : Int) := by rw [i64_wrap (by omega) (by omega)]; omega
      have o := odd32 (X := d) hd
      have hf := half32 d
      by_cases h1 : d % 2 = 1
      · have x1 : bitsA .xor .u32 ((d / 2 : Nat) : Int) 3988292384 = ((d / 2 ^^^ 3988292384 : Nat) : Int) := xor32' (Y := 3988292384) (by omega) (by omega)
        have e : (((d % 2 : Nat) : Int) == 1) = true := by rw [h1]; rfl
        have hb : cb d = d / 2 ^^^ 3988292384 := by unfold cb; rw [if_pos h1]
        rw [run_inl (s := (((i + 1 : Nat) : Int), ((cb d : Nat) : Int))) (by simp only [M_crc_sum_step_p050, Tr.val_c, Tr.val_r, q, w, o, hf, x1, e, hb, decide_true, cond_true])]
        exact ih (i + 1) (cb d) (by omega) (cb_lt hd)
      · have e : (((d % 2 : Nat) : Int) == 1) = false := by
          have : d % 2 = 0 := by omega
          rw [this]; rfl
        have hb : cb d = d / 2 := by unfold cb; rw [if_neg h1]
        rw [run_inl (s := (((i + 1 : Nat) : Int), ((cb d : Nat) : Int))) (by simp only [M_crc_sum_step_p050, Tr.val_c, Tr.val_r, q, w, o, hf, e, hb, decide_true, cond_true, cond_false])]
        exact ih (i + 1) (cb d) (by omega) (cb_lt hd)
  exact key 8 0 _ rfl (xor_lt32 hc u2)

theorem each_eq (A : List AV) (hA : A.length < 8796093022208) : g_crc_each_0fstep_p50 A 4294967295 = some ((A.foldl crc1 4294967295 : Nat) : Int) := by
  unfold g_crc_each_0fstep_p50
  rw [run_inl (s := (((0 : Nat) : Int), ((4294967295 : Nat) : Int))) rfl]
  have key : ∀ k i d : Nat, i + k = A.length → d < 4294967296 → run (M_crc_each_0fstep_p50 A 4294967295) (M_crc_each_0fstep_p50 A 4294967295 ((i : Int), (d : Int))) = some (((A.drop i).foldl crc1 d : Nat) : Int) := by
    intro k
    induction k with
    | zero =>
      intro i d hi hd
      have q : ¬ ((i : Int) < A.length) := by omega
      rw [List.drop_of_length_le (by omega)]
      exact run_inr (by simp only [M_crc_each_0fstep_p50, Tr.val_c, Tr.val_r, q, decide_false, cond_false]; rfl)
    | succ k ih =>
      intro i d hi hd
      have q : (i : Int) < A.length := by omega
      have q2 : (0 : Int) ≤ i := by omega
      have q3 : i < A.length := by omega
      have w : IntKind.i64.wrap ((i : Int) + 1) = ((i + 1 : Nat) : Int) := by rw [i64_wrap (by omega) (by omega)]; omega
      have hg : A.getD i (.int .u8 0) = A[i] := by simp [List.getD_eq_getElem?_getD, q3]
      have hs := step_eq (getI A[i]) d hd
      rw [run_inl (s := (((i + 1 : Nat) : Int), ((crc1 d A[i] : Nat) : Int))) (by simp only [M_crc_each_0fstep_p50, Tr.val_c, Tr.val_r, val_opt, q, q2, w, hg, Int.toNat_natCast, hs, Option.bind_some, decide_true, cond_true]; rfl), ih (i + 1) _ (by omega) (crc1_lt _ hd), List.drop_eq_getElem_cons q3, List.foldl_cons]
  have := key A.length 0 4294967295 (by omega) (by omega)
  rwa [List.drop_zero] at this

theorem Of_eq (A : List AV) (hA : A.length < 8796093022208) : g_crc_Of A = some ((crcN A : Nat) : Int) := by
  have x1 : bitsA .xor .u32 ((A.foldl crc1 4294967295 : Nat) : Int) 4294967295 = ((crcN A : Nat) : Int) := xor32' (Y := 4294967295) (crcF_lt A (by omega)) (by omega)
  unfold g_crc_Of
  simp only [T_crc_Of, Tr.val_r, val_opt, each_eq A hA, Option.bind_some, x1]

theorem u64_crc (A : List AV) : IntKind.u64.wrap ((crcN A : Nat) : Int) = ((crcN A : Nat) : Int) := by
  have := crcN_lt A
  exact u64_wrap (by omega) (by omega)

theorem Seal_eq (A : List AV) (hA : A.length < 8796093022208) : g_crc_Seal A = some (A ++ bex ((crcN A : Nat) : Int) 4) := by
  have p := Put_eq A ((crcN A : Nat) : Int) 4 4 hA (by omega) (by decide)
  unfold g_crc_Seal
  simp only [T_crc_Seal, Tr.val_r, val_opt, Of_eq A hA, u64_crc, p, Option.bind_some]

/-- What opens. -/
noncomputable def openR (A : List AV) : List AV × Int :=
  if A.length < 4 then ([], 3) else if IntKind.u32.wrap (numOf (A.drop (A.length - 4))) = ((crcN (A.take (A.length - 4)) : Nat) : Int) then (A.take (A.length - 4), 0) else ([], 8)

theorem Open_eq (A : List AV) (hA : A.length < 8796093022208) : g_crc_Open A = some (openR A) := by
  have w0 : IntKind.i64.wrap ((A.length : Int) - 4) = (A.length : Int) - 4 := i64_wrap (by omega) (by omega)
  have nw := New_eq A hA
  unfold g_crc_Open openR
  by_cases h4 : A.length < 4
  · have q : (if (0 : Int) > (A.length : Int) - 4 then (0 : Int) else (A.length : Int) - 4) = 0 := if_pos (by omega)
    have t := Take_eq 0 A 0 (by omega) hA
    rw [if_neg (by omega), if_neg (by omega), show ((0 : Nat) : Int) + 0 = ((0 : Nat) : Int) from rfl] at t
    have n := Number_eq 4 A 0 (by omega) hA
    rw [if_neg (by decide), if_neg (by decide), if_pos (by omega)] at n
    have t' : g_cursor_Cursor_Take_p0500 0 A 0 = _ := t
    have n' : g_cursor_Cursor_Number_p0500 4 A ((0 : Nat) : Int) = _ := n
    rw [if_pos h4]
    simp only [T_crc_Open, Tr.val_c, Tr.val_r, val_opt, w0, q, nw, t', n', Option.bind_some, bne_self_eq_false, cond_false]
    rfl
  · have q : (if (0 : Int) > (A.length : Int) - 4 then (0 : Int) else (A.length : Int) - 4) = ((A.length - 4 : Nat) : Int) := by rw [if_neg (by omega)]; omega
    have t := Take_eq ((A.length - 4 : Nat) : Int) A 0 (by omega) hA
    rw [if_neg (by omega), if_neg (by omega), show ((0 : Nat) : Int) + ((A.length - 4 : Nat) : Int) = ((A.length - 4 : Nat) : Int) by omega, List.drop_zero, Int.toNat_natCast] at t
    have n := Number_eq 4 A (A.length - 4) (by omega) hA
    rw [if_neg (by decide), if_neg (by decide), if_neg (by omega)] at n
    have hd : (A.drop (A.length - 4)).take (4 : Int).toNat = A.drop (A.length - 4) := List.take_of_length_le (by rw [List.length_drop, show (4 : Int).toNat = 4 from rfl]; omega)
    rw [hd] at n
    have t' : g_cursor_Cursor_Take_p0500 ((A.length - 4 : Nat) : Int) A 0 = _ := t
    have o := Of_eq (A.take (A.length - 4)) (by rw [List.length_take]; omega)
    rw [if_neg h4]
    by_cases he : IntKind.u32.wrap (numOf (A.drop (A.length - 4))) = ((crcN (A.take (A.length - 4)) : Nat) : Int)
    · rw [if_pos he]
      simp only [T_crc_Open, Tr.val_c, Tr.val_r, val_opt, w0, q, nw, t', n, o, he, Option.bind_some, bne_self_eq_false, cond_false]
    · have he' : (IntKind.u32.wrap (numOf (A.drop (A.length - 4))) != ((crcN (A.take (A.length - 4)) : Nat) : Int)) = true := by simpa using he
      rw [if_neg he]
      simp only [T_crc_Open, Tr.val_c, Tr.val_r, val_opt, w0, q, nw, t', n, o, he', Option.bind_some, bne_self_eq_false, cond_false, cond_true]


/- the same, by the other program -/
theorem refCrc_eq (A : List AV) (hA : A.length < 8796093022208) : g_comptoirref01_Crc A = some ((crcN A : Nat) : Int) := by
  unfold g_comptoirref01_Crc
  rw [run_inl (s := .inl (((4294967295 : Nat) : Int), ((0 : Nat) : Int))) rfl]
  have inner : ∀ (k i d : Nat) (j : Int), i + k = 8 → d < 4294967296 → run (M_comptoirref01_Crc A) (M_comptoirref01_Crc A (.inr ((d : Int), (i : Int), j))) = run (M_comptoirref01_Crc A) (M_comptoirref01_Crc A (.inl (((cbs k d : Nat) : Int), IntKind.i64.wrap (j + 1)))) := by
    intro k
    induction k with
    | zero =>
      intro i d j hi hd
      have q : ¬ ((i : Int) < 8) := by omega
      exact run_inl (by simp only [M_comptoirref01_Crc, Tr.val_c, Tr.val_r, q, decide_false, cond_false]; rfl)
    | succ k ih =>
      intro i d j hi hd
      have q : (i : Int) < 8 := by omega
      have w : IntKind.i64.wrap ((i : Int) + 1) = ((i + 1 : Nat) : Int) := by rw [i64_wrap (by omega) (by omega)]; omega
      have o : Int.tmod (d : Int) 2 = ((d % 2 : Nat) : Int) := by rw [tmod_eq (by omega)]; norm_cast
      have hf : IntKind.u32.wrap (Int.tdiv (d : Int) 2) = ((d / 2 : Nat) : Int) := by rw [tdiv_eq (by omega), u32_wrap (by omega) (by omega)]; norm_cast
      by_cases h1 : d % 2 = 1
      · have x1 : bitsA .xor .u32 ((d / 2 : Nat) : Int) 3988292384 = ((d / 2 ^^^ 3988292384 : Nat) : Int) := xor32' (Y := 3988292384) (by omega) (by omega)
        have e : (((d % 2 : Nat) : Int) == 1) = true := by rw [h1]; rfl
        have hb : cb d = d / 2 ^^^ 3988292384 := by unfold cb; rw [if_pos h1]
        rw [run_inl (s := .inr (((cb d : Nat) : Int), ((i + 1 : Nat) : Int), j)) (by simp only [M_comptoirref01_Crc, Tr.val_c, Tr.val_r, q, w, o, hf, x1, e, hb, decide_true, cond_true])]
        exact ih (i + 1) (cb d) j (by omega) (cb_lt hd)
      · have e : (((d % 2 : Nat) : Int) == 1) = false := by
          have : d % 2 = 0 := by omega
          rw [this]; rfl
        have hb : cb d = d / 2 := by unfold cb; rw [if_neg h1]
        rw [run_inl (s := .inr (((cb d : Nat) : Int), ((i + 1 : Nat) : Int), j)) (by simp only [M_comptoirref01_Crc, Tr.val_c, Tr.val_r, q, w, o, hf, e, hb, decide_true, cond_true, cond_false])]
        exact ih (i + 1) (cb d) j (by omega) (cb_lt hd)
  have key : ∀ k i d : Nat, i + k = A.length → d < 4294967296 → run (M_comptoirref01_Crc A) (M_comptoirref01_Crc A (.inl ((d : Int), (i : Int)))) = some (((A.drop i).foldl crc1 d ^^^ 4294967295 : Nat) : Int) := by
    intro k
    induction k with
    | zero =>
      intro i d hi hd
      have q : ¬ ((i : Int) < A.length) := by omega
      have x1 : bitsA .xor .u32 (d : Int) 4294967295 = ((d ^^^ 4294967295 : Nat) : Int) := xor32' (Y := 4294967295) hd (by omega)
      rw [List.drop_of_length_le (by omega)]
      exact run_inr (by simp only [M_comptoirref01_Crc, Tr.val_c, Tr.val_r, q, x1, decide_false, cond_false]; rfl)
    | succ k ih =>
      intro i d hi hd
      have q : (i : Int) < A.length := by omega
      have q2 : (0 : Int) ≤ i := by omega
      have q3 : i < A.length := by omega
      have w : IntKind.i64.wrap ((i : Int) + 1) = ((i + 1 : Nat) : Int) := by rw [i64_wrap (by omega) (by omega)]; omega
      have hg : A.getD i (.int .u8 0) = A[i] := by simp [List.getD_eq_getElem?_getD, q3]
      obtain ⟨u1, u2⟩ := u32_nat (getI A[i])
      have h0 : bitsA .xor .u32 (d : Int) (IntKind.u32.wrap (getI A[i])) = ((d ^^^ (IntKind.u32.wrap (getI A[i])).toNat : Nat) : Int) := by rw [← xor32' hd u2, u1]
      rw [run_inl (s := .inr (((d ^^^ (IntKind.u32.wrap (getI A[i])).toNat : Nat) : Int), ((0 : Nat) : Int), (i : Int))) (by simp only [M_comptoirref01_Crc, Tr.val_c, Tr.val_r, q, q2, hg, h0, Int.toNat_natCast, decide_true, cond_true]; rfl),
        inner 8 0 _ _ rfl (xor_lt32 hd u2), w, List.drop_eq_getElem_cons q3, List.foldl_cons]
      exact ih (i + 1) _ (by omega) (crc1_lt _ hd)
  have := key A.length 0 4294967295 (by omega) (by omega)
  rwa [List.drop_zero] at this

theorem refSeal_eq (A : List AV) (hA : A.length < 8796093022208) : g_comptoirref01_Seal A = some (A ++ bex ((crcN A : Nat) : Int) 4) := by
  have p := refPut_eq A ((crcN A : Nat) : Int) 4 4 hA (by omega) (by decide)
  unfold g_comptoirref01_Seal
  simp only [T_comptoirref01_Seal, Tr.val_c, Tr.val_r, val_opt, refCrc_eq A hA, u64_crc, p, Option.bind_some, beq_self_eq_true, cond_true]

theorem refNum_eq (l : List AV) (s : Nat) (n : Nat) (hl : l.length < 8796093022208) (hn : s + n ≤ l.length) : g_comptoirref01_Num l (s : Int) (n : Int) = some (numOf ((l.drop s).take n)) := by
  have loop : ∀ (m i : Nat) (v : Int), i + m = n → run (M_comptoirref01_Num l (s : Int) (n : Int)) (M_comptoirref01_Num l (s : Int) (n : Int) (v, (i : Int))) =
      some ((((l.drop s).take n).drop i).foldl (fun a x => bitsA .or .u64 (shlA .u64 a 8) (IntKind.u64.wrap (getI x))) v) := by
    have ll : ((l.drop s).take n).length = n := by simp only [List.length_take, List.length_drop]; omega
    intro m
    induction m with
    | zero =>
      intro i v hi
      have hlt : ¬ ((i : Int) < n) := by omega
      rw [List.drop_of_length_le (by omega)]
      exact run_inr (by simp only [M_comptoirref01_Num, Tr.val_c, Tr.val_r, hlt, decide_false, cond_false]; rfl)
    | succ m ih =>
      intro i v hi
      have q1 : (i : Int) < n := by omega
      have q2 : (0 : Int) ≤ ((s + i : Nat) : Int) := by omega
      have q4 : ((s + i : Nat) : Int) < l.length := by omega
      have q3 : i < ((l.drop s).take n).length := by omega
      have w0 : IntKind.i64.wrap ((s : Int) + (i : Int)) = ((s + i : Nat) : Int) := by rw [i64_wrap (by omega) (by omega)]; omega
      have w : IntKind.i64.wrap ((i : Int) + 1) = ((i + 1 : Nat) : Int) := by rw [i64_wrap (by omega) (by omega)]; omega
      have hg : l.getD (s + i) (.int .u8 0) = ((l.drop s).take n)[i] := by
        rw [List.getD_eq_getElem?_getD, List.getElem?_eq_getElem (by omega)]; simp
      rw [run_inl (s := (bitsA .or .u64 (shlA .u64 v 8) (IntKind.u64.wrap (getI ((l.drop s).take n)[i])), ((i + 1 : Nat) : Int))) (by simp only [M_comptoirref01_Num, Tr.val_c, Tr.val_r, q1, q2, q4, w, w0, hg, Int.toNat_natCast, decide_true, cond_true]), ih (i + 1) _ (by omega), List.drop_eq_getElem_cons q3, List.foldl_cons]
  unfold g_comptoirref01_Num
  rw [run_inl (s := (0, ((0 : Nat) : Int))) rfl, loop n 0 0 (by omega)]
  rfl

theorem num4_lt (b : List UInt8) (h : b.length = 4) : 0 ≤ numOf (bl b) ∧ numOf (bl b) < 4294967296 := by
  match b, h with
  | [b0, b1, b2, b3], _ =>
    have e : ∀ a : Nat, a < 16777216 → ∀ c : UInt8, bitsA .or .u64 (shlA .u64 (a : Int) 8) (IntKind.u64.wrap (getI (.int .u8 (c.toNat : Int)))) = ((a * 256 + c.toNat : Nat) : Int) := fun a ha c => byte_behind (by omega) c.toNat_lt
    have z : numOf (bl [b0, b1, b2, b3]) = bitsA .or .u64 (shlA .u64 (bitsA .or .u64 (shlA .u64 (bitsA .or .u64 (shlA .u64 (bitsA .or .u64 (shlA .u64 ((0 : Nat) : Int) 8) (IntKind.u64.wrap (getI (.int .u8 (b0.toNat : Int))))) 8) (IntKind.u64.wrap (getI (.int .u8 (b1.toNat : Int))))) 8) (IntKind.u64.wrap (getI (.int .u8 (b2.toNat : Int))))) 8) (IntKind.u64.wrap (getI (.int .u8 (b3.toNat : Int)))) := rfl
    have l0 := b0.toNat_lt
    have l1 := b1.toNat_lt
    have l2 := b2.toNat_lt
    have l3 := b3.toNat_lt
    rw [z, e 0 (by omega), e _ (by omega), e _ (by omega), e _ (by omega)]
    omega

theorem Unseal_eq (a : List UInt8) (hA : a.length < 1000000) : g_comptoirref01_Unseal (bl a) = some (openR (bl a)) := by
  have lb : (bl a).length = a.length := by simp [bl]
  have w0 : IntKind.i64.wrap (((bl a).length : Int) - 4) = ((bl a).length : Int) - 4 := i64_wrap (by omega) (by omega)
  unfold g_comptoirref01_Unseal openR
  by_cases h4 : (bl a).length < 4
  · have q : ((bl a).length : Int) - 4 < 0 := by omega
    rw [if_pos h4]
    simp only [T_comptoirref01_Unseal, Tr.val_c, Tr.val_r, w0, q, decide_true, cond_true]
  · have q0 : ((bl a).length : Int) - 4 = (((bl a).length - 4 : Nat) : Int) := by omega
    have q1 : ¬ ((((bl a).length - 4 : Nat) : Int) < 0) := by omega
    have w1 : IntKind.i64.wrap (((bl a).length - 4 : Nat) : Int) = (((bl a).length - 4 : Nat) : Int) := i64_wrap (by omega) (by omega)
    have q2 : (0 : Int) ≤ (((bl a).length - 4 : Nat) : Int) := by omega
    have q3 : (((bl a).length - 4 : Nat) : Int) ≤ ((bl a).length : Int) := by omega
    have n := refNum_eq (bl a) ((bl a).length - 4) 4 (by omega) (by omega)
    rw [List.take_of_length_le (by rw [List.length_drop]; omega)] at n
    have n' : g_comptoirref01_Num (bl a) (((bl a).length - 4 : Nat) : Int) 4 = _ := n
    have o := refCrc_eq ((bl a).take ((bl a).length - 4)) (by rw [List.length_take]; omega)
    have hl2 : ((bl a).take ((bl a).length - 4)).length * 2 < 70368744177664 := by rw [List.length_take]; omega
    have hs : (bl a).drop ((bl a).length - 4) = bl (a.drop ((bl a).length - 4)) := by simp [bl, List.map_drop]
    obtain ⟨v1, v2⟩ := num4_lt (a.drop ((bl a).length - 4)) (by rw [List.length_drop]; omega)
    rw [← hs] at v1 v2
    rw [if_neg h4, u32_wrap v1 v2]
    by_cases he : numOf ((bl a).drop ((bl a).length - 4)) = ((crcN ((bl a).take ((bl a).length - 4)) : Nat) : Int)
    · rw [if_pos he]
      simp only [T_comptoirref01_Unseal, Tr.val_c, Tr.val_r, val_opt, q0, w1, q1, q2, q3, n', o, he, u64_crc, hl2, Int.toNat_natCast, List.drop_zero, Option.bind_some, decide_true, decide_false, bne_self_eq_false, beq_self_eq_true, cond_false, cond_true]
    · have he' : (numOf ((bl a).drop ((bl a).length - 4)) != ((crcN ((bl a).take ((bl a).length - 4)) : Nat) : Int)) = true := by simpa using he
      rw [if_neg he]
      simp only [T_comptoirref01_Unseal, Tr.val_c, Tr.val_r, val_opt, q0, w1, q1, q2, q3, n', o, he', u64_crc, Int.toNat_natCast, List.drop_zero, Option.bind_some, decide_true, decide_false, cond_false, cond_true]

/- records -/
def recR (A : List AV) : List AV := (bex (A.length : Int) 4 ++ A) ++ bex ((crcN (bex (A.length : Int) 4 ++ A) : Nat) : Int) 4

theorem Record_eq (A : List AV) (hA : A.length < 1000000) : g_journal_Record A = some (recR A) := by
  have w : IntKind.u64.wrap (A.length : Int) = (A.length : Int) := u64_wrap (by omega) (by omega)
  have p := Put_eq [] (A.length : Int) 4 4 (by simp) (by omega) (by decide)
  rw [List.nil_append] at p
  have c := Concat_eq (bex (A.length : Int) 4) A (by simp; omega)
  have s := Seal_eq (bex (A.length : Int) 4 ++ A) (by simp; omega)
  unfold g_journal_Record
  simp only [T_journal_Record, Tr.val_r, val_opt, w, p, c, s, Option.bind_some]
  rfl

theorem openR_len (A : List AV) (h : (openR A).2 = 0) : 4 ≤ A.length ∧ (openR A).1.length = A.length - 4 := by
  unfold openR at h ⊢
  by_cases h4 : A.length < 4
  · rw [if_pos h4] at h; exact absurd h (by decide)
  · rw [if_neg h4] at h ⊢
    by_cases he : IntKind.u32.wrap (numOf (A.drop (A.length - 4))) = ((crcN (A.take (A.length - 4)) : Nat) : Int)
    · rw [if_pos he]
      exact ⟨by omega, by simp⟩
    · rw [if_neg he] at h; exact absurd h (by decide)

/-- The record that bytes begin with. -/
noncomputable def nextR (B : List AV) : Option (List AV × Nat) :=
  if 8 ≤ B.length ∧ (numOf (B.take 4)).toNat + 8 ≤ B.length ∧ (openR (B.take ((numOf (B.take 4)).toNat + 8))).2 = 0 then
    some ((openR (B.take ((numOf (B.take 4)).toNat + 8))).1.drop 4, (numOf (B.take 4)).toNat + 8) else none

noncomputable def nextT (B : List AV) : List AV × Bool × List AV := match nextR B with
  | some (t, k) => (t, true, B.drop k)
  | none => ([], false, B)

theorem num_take (b : List UInt8) (h : 4 ≤ b.length) : ∃ n : Nat, numOf ((bl b).take 4) = (n : Int) ∧ n < 4294967296 := by
  have hs : (bl b).take 4 = bl (b.take 4) := by simp [bl, List.map_take]
  obtain ⟨v1, v2⟩ := num4_lt (b.take 4) (by rw [List.length_take]; omega)
  rw [← hs] at v1 v2
  exact ⟨(numOf ((bl b).take 4)).toNat, by omega, by omega⟩

theorem next_eq (b : List UInt8) (hb : b.length < 1000000) : g_journal_walk_next_p50 (bl b) = some (nextT (bl b)) := by
  have lb : (bl b).length = b.length := by simp [bl]
  have hA : (bl b).length < 8796093022208 := by omega
  have nw := New_eq (bl b) hA
  have n := Number_eq 4 (bl b) 0 (by omega) hA
  rw [if_neg (by decide), if_neg (by decide)] at n
  unfold g_journal_walk_next_p50 nextT nextR
  by_cases h4 : (bl b).length < 4
  · rw [if_pos (by omega)] at n
    have n' : g_cursor_Cursor_Number_p0500 4 (bl b) 0 = _ := n
    have e3 : ((3 : Int) != 0) = true := rfl
    rw [if_neg (by omega)]
    simp only [T_journal_walk_next_p50, Tr.val_c, Tr.val_r, val_opt, nw, n', e3, Option.bind_some, cond_true]
  · rw [if_neg (by omega), List.drop_zero, show (4 : Int).toNat = 4 from rfl] at n
    obtain ⟨N, hN, hN2⟩ := num_take b (by omega)
    rw [hN] at n ⊢
    have n' : g_cursor_Cursor_Number_p0500 4 (bl b) 0 = _ := n
    have wl : IntKind.u64.wrap ((bl b).length : Int) = ((bl b).length : Int) := u64_wrap (by omega) (by omega)
    have w8 : IntKind.i64.wrap (IntKind.i64.wrap (IntKind.i64.wrap (N : Int) + 4) + 4) = ((N + 8 : Nat) : Int) := by
      rw [i64_wrap (n := (N : Int)) (by omega) (by omega), i64_wrap (n := (N : Int) + 4) (by omega) (by omega), i64_wrap (by omega) (by omega)]; omega
    rw [Int.toNat_natCast]
    by_cases h8 : N + 8 ≤ (bl b).length
    · have q1 : ¬ ((N : Int) > ((bl b).length : Int)) := by omega
      have q2 : ¬ (((N + 8 : Nat) : Int) > ((bl b).length : Int)) := by omega
      have q3 : (0 : Int) ≤ ((N + 8 : Nat) : Int) := by omega
      have q4 : ((N + 8 : Nat) : Int) ≤ ((bl b).length : Int) := by omega
      have q5 : ((bl b).length : Int) ≤ ((bl b).length : Int) := by omega
      have o := Open_eq ((bl b).take (N + 8)) (by rw [List.length_take]; omega)
      by_cases he : (openR ((bl b).take (N + 8))).2 = 0
      · obtain ⟨l1, l2⟩ := openR_len _ he
        rw [List.length_take] at l2
        have q6 : (4 : Int) ≤ ((openR ((bl b).take (N + 8))).1.length : Int) := by omega
        have q7 : ((openR ((bl b).take (N + 8))).1.length : Int) ≤ ((openR ((bl b).take (N + 8))).1.length : Int) := by omega
        rw [if_pos ⟨by omega, h8, he⟩]
        simp only [T_journal_walk_next_p50, Tr.val_c, Tr.val_r, val_opt, nw, n', wl, w8, q1, q2, q3, q4, q5, q6, q7, o, he, Int.toNat_natCast, List.drop_zero, List.take_length, Option.bind_some, decide_true, decide_false, bne_self_eq_false, cond_true, cond_false]
      · have he' : ((openR ((bl b).take (N + 8))).2 != 0) = true := by simpa using he
        rw [if_neg (fun h => he h.2.2)]
        simp only [T_journal_walk_next_p50, Tr.val_c, Tr.val_r, val_opt, nw, n', wl, w8, q1, q2, q3, q4, q5, o, he', Int.toNat_natCast, List.drop_zero, Option.bind_some, decide_true, decide_false, bne_self_eq_false, cond_true, cond_false]
    · have q2 : ((N + 8 : Nat) : Int) > ((bl b).length : Int) := by omega
      rw [if_neg (fun h => h8 h.2.1)]
      by_cases q1 : (N : Int) > ((bl b).length : Int)
      · simp only [T_journal_walk_next_p50, Tr.val_c, Tr.val_r, val_opt, nw, n', wl, q1, Option.bind_some, decide_true, bne_self_eq_false, cond_true, cond_false]
      · simp only [T_journal_walk_next_p50, Tr.val_c, Tr.val_r, val_opt, nw, n', wl, w8, q1, q2, Option.bind_some, decide_true, decide_false, bne_self_eq_false, cond_true, cond_false]

theorem awake23 : g_comptoirlaw23_awake = some true := by
  have r := Record_eq [.int .u8 7] (by simp)
  have e : recR [.int .u8 7] = bl (bytesOf (recR [.int .u8 7])) := by kernel_rfl
  have l : (bytesOf (recR [.int .u8 7])).length = 9 := by kernel_rfl
  have l9 : (recR [.int .u8 7]).length = 9 := by kernel_rfl
  have n1 := next_eq (bytesOf (recR [.int .u8 7])) (by omega)
  rw [← e] at n1
  have t1 : nextT (recR [.int .u8 7]) = ([.int .u8 7], true, []) := by kernel_rfl
  rw [t1] at n1
  have n2 : g_journal_walk_next_p50 [] = some (nextT []) := next_eq [] (by simp)
  have t2 : nextT [] = ([], false, []) := by kernel_rfl
  rw [t2] at n2
  have ev : g_journal_every_fnext_p50 (recR [.int .u8 7]) = some ([.slice 1 (.int .u8) [.int .u8 7] .ro], []) := by
    unfold g_journal_every_fnext_p50
    rw [run_inl (s := ([.int .u8 7], true, [], [])) (by simp only [T_journal_every_fnext_p50, Tr.val_r, val_opt, n1, Option.bind_some])]
    rw [run_inl (s := ([], false, [], [.slice 1 (.int .u8) [.int .u8 7] .ro])) (by simp only [M_journal_every_fnext_p50, Tr.val_c, Tr.val_r, val_opt, n2, Option.bind_some, beq_self_eq_true, cond_true, List.nil_append]; rfl)]
    exact run_inr (by simp only [M_journal_every_fnext_p50, Tr.val_c, Tr.val_r, beq_self_eq_true, cond_true, cond_false])
  have s : g_journal_Scan (recR [.int .u8 7]) = some ([.slice 1 (.int .u8) [.int .u8 7] .ro], 9) := by
    unfold g_journal_Scan
    simp only [T_journal_Scan, Tr.val_r, val_opt, ev, l9, Option.bind_some]
    rfl
  unfold g_comptoirlaw23_awake
  simp only [T_comptoirlaw23_awake, Tr.val_c, Tr.val_r, val_opt, r, s, Option.bind_some]
  rfl

theorem refRecord_eq (A : List AV) (hA : A.length < 1000000) : g_comptoirref21_Record A = some (recR A) := by
  have w : IntKind.u64.wrap (A.length : Int) = (A.length : Int) := u64_wrap (by omega) (by omega)
  have p := refPut_eq [] (A.length : Int) 4 4 (by simp) (by omega) (by decide)
  rw [List.nil_append] at p
  have l2 : (bex (A.length : Int) 4 ++ A).length * 2 < 70368744177664 := by simp; omega
  have s := refSeal_eq (bex (A.length : Int) 4 ++ A) (by simp; omega)
  unfold g_comptoirref21_Record
  simp only [T_comptoirref21_Record, Tr.val_c, Tr.val_r, val_opt, w, p, l2, s, Option.bind_some, decide_true, beq_self_eq_true, Bool.and_self, cond_true]
  rfl

/-- Both walk alike. -/
theorem scan_both (a : List UInt8) (ha : a.length < 1000000) : ∀ (m k : Nat) (acc : List AV), a.length - k ≤ m → k ≤ a.length → acc.length ≤ k → ∃ (L : List AV) (z : Nat), z ≤ a.length ∧ L.length ≤ z ∧
    run (M_journal_every_fnext_p50 (bl a)) (M_journal_every_fnext_p50 (bl a) ((nextT ((bl a).drop k)).1, (nextT ((bl a).drop k)).2.1, (nextT ((bl a).drop k)).2.2, acc)) = some (L, (bl a).drop z) ∧
    run (M_comptoirref21_Scan (bl a)) (M_comptoirref21_Scan (bl a) ((k : Int), acc)) = some (L, (z : Int)) := by
  have lb : (bl a).length = a.length := by simp [bl]
  intro m
  induction m with
  | zero =>
    intro k acc hm hk hacc
    have hn : nextR ((bl a).drop k) = none := by unfold nextR; rw [if_neg (by rw [List.length_drop]; omega)]
    have w0 : IntKind.i64.wrap ((bl a).length - (k : Int)) = ((bl a).length : Int) - k := i64_wrap (by omega) (by omega)
    have q : ¬ (((bl a).length : Int) - k ≥ 8) := by omega
    refine ⟨acc, k, hk, hacc, ?_, ?_⟩
    · unfold nextT; rw [hn]
      exact run_inr (by simp only [M_journal_every_fnext_p50, Tr.val_c, Tr.val_r, beq_self_eq_true, cond_true, cond_false])
    · exact run_inr (by simp only [M_comptoirref21_Scan, Tr.val_c, Tr.val_r, w0, q, decide_false, beq_self_eq_true, cond_true, cond_false])
  | succ m ih =>
    intro k acc hm hk hacc
    have hd : (bl a).drop k = bl (a.drop k) := by simp [bl, List.map_drop]
    have ld : ((bl a).drop k).length = a.length - k := by rw [List.length_drop]; omega
    have w0 : IntKind.i64.wrap ((bl a).length - (k : Int)) = ((bl a).length : Int) - k := i64_wrap (by omega) (by omega)
    by_cases q : ((bl a).length : Int) - k ≥ 8
    rotate_left
    · have hn : nextR ((bl a).drop k) = none := by unfold nextR; rw [if_neg (by omega)]
      refine ⟨acc, k, hk, hacc, ?_, ?_⟩
      · unfold nextT; rw [hn]
        exact run_inr (by simp only [M_journal_every_fnext_p50, Tr.val_c, Tr.val_r, beq_self_eq_true, cond_true, cond_false])
      · exact run_inr (by simp only [M_comptoirref21_Scan, Tr.val_c, Tr.val_r, w0, q, decide_false, beq_self_eq_true, cond_true, cond_false])
    obtain ⟨N, hN, hN2⟩ := num_take (a.drop k) (by rw [List.length_drop]; omega)
    rw [← hd] at hN
    have nn := refNum_eq (bl a) k 4 (by omega) (by omega)
    rw [hN] at nn
    have nn' : g_comptoirref01_Num (bl a) (k : Int) 4 = _ := nn
    have wN : IntKind.i64.wrap (N : Int) = (N : Int) := i64_wrap (by omega) (by omega)
    have w1 : IntKind.i64.wrap (((bl a).length : Int) - k - 8) = ((bl a).length : Int) - k - 8 := i64_wrap (by omega) (by omega)
    by_cases h8 : (N : Int) > ((bl a).length : Int) - k - 8
    · have hn : nextR ((bl a).drop k) = none := by unfold nextR; rw [hN, Int.toNat_natCast, if_neg (by omega)]
      refine ⟨acc, k, hk, hacc, ?_, ?_⟩
      · unfold nextT; rw [hn]
        exact run_inr (by simp only [M_journal_every_fnext_p50, Tr.val_c, Tr.val_r, beq_self_eq_true, cond_true, cond_false])
      · exact run_inr (by simp only [M_comptoirref21_Scan, Tr.val_c, Tr.val_r, val_opt, w0, w1, wN, q, nn', h8, Option.bind_some, decide_true, beq_self_eq_true, cond_true])
    have w2 : IntKind.i64.wrap (IntKind.i64.wrap ((k : Int) + 8) + (N : Int)) = ((k + (N + 8) : Nat) : Int) := by
      rw [i64_wrap (n := (k : Int) + 8) (by omega) (by omega), i64_wrap (by omega) (by omega)]; omega
    have q1 : (0 : Int) ≤ ((k + (N + 8) : Nat) : Int) := by omega
    have q2 : ((k + (N + 8) : Nat) : Int) ≤ ((bl a).length : Int) := by omega
    have q3 : (0 : Int) ≤ k := by omega
    have q4 : (k : Int) ≤ ((k + (N + 8) : Nat) : Int) := by omega
    have hdt : ((bl a).take (k + (N + 8))).drop k = ((bl a).drop k).take (N + 8) := by rw [List.drop_take]; congr 1; omega
    have u := Unseal_eq ((a.drop k).take (N + 8)) (by rw [List.length_take, List.length_drop]; omega)
    have hbt : bl ((a.drop k).take (N + 8)) = ((bl a).drop k).take (N + 8) := by simp [bl, List.map_take, List.map_drop]
    rw [hbt] at u
    by_cases he : (openR (((bl a).drop k).take (N + 8))).2 = 0
    · obtain ⟨l1, l2⟩ := openR_len _ he
      rw [List.length_take] at l2
      have hn : nextR ((bl a).drop k) = some ((openR (((bl a).drop k).take (N + 8))).1.drop 4, N + 8) := by
        unfold nextR; rw [hN, Int.toNat_natCast, if_pos ⟨by omega, by omega, he⟩]
      have ht : nextT ((bl a).drop k) = ((openR (((bl a).drop k).take (N + 8))).1.drop 4, true, (bl a).drop (k + (N + 8))) := by
        unfold nextT; rw [hn]; show (_, true, ((bl a).drop k).drop (N + 8)) = _; rw [List.drop_drop]
      obtain ⟨t, htt⟩ : ∃ t, t = (openR (((bl a).drop k).take (N + 8))).1.drop 4 := ⟨_, rfl⟩
      have q6 : (4 : Int) ≤ ((openR (((bl a).drop k).take (N + 8))).1.length : Int) := by omega
      have q7 : ((openR (((bl a).drop k).take (N + 8))).1.length : Int) ≤ ((openR (((bl a).drop k).take (N + 8))).1.length : Int) := by omega
      have lacc : (acc ++ [AV.slice 1 (.int .u8) t .ro]).length * 25 < 70368744177664 := by simp; omega
      obtain ⟨L, z, hz, hL, r1, r2⟩ := ih (k + (N + 8)) (acc ++ [.slice 1 (.int .u8) t .ro]) (by omega) (by omega) (by simp; omega)
      have hd2 : (bl a).drop (k + (N + 8)) = bl (a.drop (k + (N + 8))) := by simp [bl, List.map_drop]
      have nx := next_eq (a.drop (k + (N + 8))) (by rw [List.length_drop]; omega)
      rw [← hd2] at nx
      refine ⟨L, z, hz, hL, ?_, ?_⟩
      · rw [ht, ← htt, run_inl (s := ((nextT ((bl a).drop (k + (N + 8)))).1, (nextT ((bl a).drop (k + (N + 8)))).2.1, (nextT ((bl a).drop (k + (N + 8)))).2.2, acc ++ [.slice 1 (.int .u8) t .ro])) (by
          simp only [M_journal_every_fnext_p50, Tr.val_c, Tr.val_r, val_opt, lacc, nx, Option.bind_some, decide_true, beq_self_eq_true, cond_true])]
        exact r1
      · rw [run_inl (s := (((k + (N + 8) : Nat) : Int), acc ++ [.slice 1 (.int .u8) t .ro])) (by
          simp only [M_comptoirref21_Scan, Tr.val_c, Tr.val_r, val_opt, w0, w1, w2, wN, q, nn', h8, q1, q2, q3, q4, q6, q7, hdt, u, he, ← htt, lacc, Int.toNat_natCast, List.take_length, Option.bind_some, decide_true, decide_false, bne_self_eq_false, beq_self_eq_true, cond_true, cond_false])]
        exact r2
    · have he' : ((openR (((bl a).drop k).take (N + 8))).2 != 0) = true := by simpa using he
      have hn : nextR ((bl a).drop k) = none := by unfold nextR; rw [hN, Int.toNat_natCast, if_neg (fun h => he h.2.2)]
      refine ⟨acc, k, hk, hacc, ?_, ?_⟩
      · unfold nextT; rw [hn]
        exact run_inr (by simp only [M_journal_every_fnext_p50, Tr.val_c, Tr.val_r, beq_self_eq_true, cond_true, cond_false])
      · exact run_inr (by simp only [M_comptoirref21_Scan, Tr.val_c, Tr.val_r, val_opt, w0, w1, w2, wN, q, nn', h8, q1, q2, q3, q4, hdt, u, he', Int.toNat_natCast, Option.bind_some, decide_true, decide_false, beq_self_eq_true, cond_true, cond_false])

theorem Scan_both (a : List UInt8) (ha : a.length < 1000000) : ∃ (L : List AV) (z : Int), L.length < 1000000 ∧ g_journal_Scan (bl a) = some (L, z) ∧ g_comptoirref21_Scan (bl a) = some (L, z) := by
  have lb : (bl a).length = a.length := by simp [bl]
  obtain ⟨L, z, hz, hL, r1, r2⟩ := scan_both a ha a.length 0 [] (by omega) (by omega) (by simp)
  have nx := next_eq a ha
  rw [List.drop_zero] at r1
  have ev : g_journal_every_fnext_p50 (bl a) = some (L, (bl a).drop z) := by
    unfold g_journal_every_fnext_p50
    rw [run_inl (s := ((nextT (bl a)).1, (nextT (bl a)).2.1, (nextT (bl a)).2.2, [])) (by simp only [T_journal_every_fnext_p50, Tr.val_r, val_opt, nx, Option.bind_some])]
    exact r1
  have w : IntKind.i64.wrap (((bl a).length : Int) - (((bl a).drop z).length : Int)) = (z : Int) := by
    rw [List.length_drop, i64_wrap (by omega) (by omega)]; omega
  refine ⟨L, z, by omega, ?_, ?_⟩
  · unfold g_journal_Scan
    simp only [T_journal_Scan, Tr.val_r, val_opt, ev, w, Option.bind_some]
  · unfold g_comptoirref21_Scan
    rw [run_inl (s := (((0 : Nat) : Int), [])) rfl]
    exact r2

theorem Same_self (L : List AV) (hL : L.length < 8796093022208) : g_comptoirhelp_Same_byte_00fBytes_ L L = some true := by
  unfold g_comptoirhelp_Same_byte_00fBytes_
  rw [run_inl (s := (0 : Int)) (by simp only [T_comptoirhelp_Same_byte_00fBytes_, Tr.val_c, Tr.val_r, bne_self_eq_false, cond_false])]
  exact run_until (f := fun i => (i : Int)) (n := L.length) (fun i hi => by
    have q1 : (i : Int) < L.length := by omega
    have q2 : (0 : Int) ≤ i := by omega
    have w : IntKind.i64.wrap ((i : Int) + 1) = ((i + 1 : Nat) : Int) := by rw [i64_wrap (by omega) (by omega)]; omega
    simp only [M_comptoirhelp_Same_byte_00fBytes_, Tr.val_c, Tr.val_r, q1, q2, w, decide_true, cond_true, beq_self_eq_true, Bool.not_true, cond_false]) (by
    have q1 : ¬ ((L.length : Int) < L.length) := by omega
    simp only [M_comptoirhelp_Same_byte_00fBytes_, Tr.val_c, Tr.val_r, q1, decide_false, cond_false])

theorem jtells_eq (a : List UInt8) : g_comptoirlaw23_JournalTells (bl a) = some true := by
  have lb : (bl a).length = a.length := by simp [bl]
  unfold g_comptoirlaw23_JournalTells
  by_cases hbig : ((bl a).length : Int) > 2000
  · simp only [T_comptoirlaw23_JournalTells, Tr.val_c, Tr.val_r, val_opt, awake23, hbig, Option.bind_some, decide_true, cond_true]
  have hA : (bl a).length < 1000000 := by omega
  have l4 : (bl a).length * 4 < 70368744177600 := by omega
  obtain ⟨L, z, hL, s1, s2⟩ := Scan_both a (by omega)
  simp only [T_comptoirlaw23_JournalTells, Tr.val_c, Tr.val_r, val_opt, awake23, hbig, l4, s1, s2, Same_self L (by omega), Record_eq _ hA, refRecord_eq _ hA, Kept_self _ 71 (show (bl a).length < 8796093022208 by omega), Option.bind_some, decide_true, decide_false, cond_true, cond_false, beq_self_eq_true]

end Go.Proofs.Ytaejmfmamhdlhaa
