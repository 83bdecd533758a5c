/- What the printed functions come to, plainly. -/
import Derived.Test.YthocnaabefdokaaYaG7
import Derived.Test.YthocnaabefdokaaCxPl2
namespace Go.Proofs.Ythocnaabefdokaa
open Go.Cx Go.Cx.AV
set_option linter.unusedSimpArgs false
set_option linter.unusedVariables false

/- slices.Concat of two. -/
theorem Grow_eq (n : Int) (h0 : 0 ≤ n) (h : n < 35184372088832) : g_slices_Grow_byte_byte n = some [] := by
  unfold g_slices_Grow_byte_byte
  have w : IntKind.i64.wrap (n - 0) = n := by rw [Int.sub_zero]; exact i64_wrap (by omega) (by omega)
  have hn0 : ¬ (n < 0) := by omega
  have hT : (T_slices_Grow_byte_byte n).val = some (.inl (.inl ())) := by simp only [T_slices_Grow_byte_byte, Tr.val_c, Tr.val_r, hn0]; rfl
  rw [run_inl hT]
  rw [run_inl (s := .inr ())]
  · exact run_inr rfl
  · simp only [M_slices_Grow_byte_byte, Tr.val_c, Tr.val_r, w, List.length_replicate]
    by_cases hn : n > 0
    · have : n.toNat * 2 < 70368744177664 := by omega
      simp [hn, this]
    · simp [hn]

theorem Concat_eq (a b : List AV) (h : a.length + b.length < 17592186044416) : g_slices_Concat_byte_byte [.slice 1 (.int .u8) a .ro, .slice 1 (.int .u8) b .ro] = some (a ++ b) := by
  have e0 : getXs (List.getD [AV.slice 1 (.int .u8) a .ro, .slice 1 (.int .u8) b .ro] (Int.toNat 0) (.slice 1 (.int .u8) [] .ro)) = a := rfl
  have e1 : getXs (List.getD [AV.slice 1 (.int .u8) a .ro, .slice 1 (.int .u8) b .ro] (Int.toNat 1) (.slice 1 (.int .u8) [] .ro)) = b := rfl
  have w0 : IntKind.i64.wrap (0 + (a.length : Int)) = a.length := by rw [Int.zero_add]; exact i64_wrap (by omega) (by omega)
  have w1 : IntKind.i64.wrap ((a.length : Int) + b.length) = ((a.length + b.length : Nat) : Int) := by rw [i64_wrap (by omega) (by omega)]; omega
  have w2 : IntKind.i64.wrap (0 + 1) = 1 := rfl
  have w3 : IntKind.i64.wrap (1 + 1) = 2 := rfl
  have n0 : ¬ ((a.length : Int) < 0) := by omega
  have n1 : ¬ (((a.length + b.length : Nat) : Int) < 0) := by omega
  have l0 : a.length * 2 < 70368744177664 := by omega
  have l1 : (a.length + b.length) * 2 < 70368744177664 := by omega
  have gr := Grow_eq (((a.length + b.length : Nat) : Int)) (by omega) (by omega)
  unfold g_slices_Concat_byte_byte
  rw [run_inl (s := .inl (0, 0)) rfl]
  rw [run_inl (s := .inl ((a.length : Int), 1)) (by simp only [M_slices_Concat_byte_byte, Tr.val_c, Tr.val_r, e0, w0, w2, n0]; rfl)]
  rw [run_inl (s := .inl (((a.length + b.length : Nat) : Int), 2)) (by simp only [M_slices_Concat_byte_byte, Tr.val_c, Tr.val_r, e1, w1, w3, n1]; rfl)]
  rw [run_inl (s := .inr ([], 0)) (by simp only [M_slices_Concat_byte_byte, Tr.val_c, Tr.val_r, gr, opt_some]; rfl)]
  rw [run_inl (s := .inr (a, 1)) (by simp only [M_slices_Concat_byte_byte, Tr.val_c, Tr.val_r, e0, w2, List.nil_append, l0, decide_true, beq_self_eq_true]; rfl)]
  rw [run_inl (s := .inr (a ++ b, 2)) (by simp only [M_slices_Concat_byte_byte, Tr.val_c, Tr.val_r, e1, w3, List.length_append, l1, decide_true, beq_self_eq_true]; rfl)]
  exact run_inr (by simp only [M_slices_Concat_byte_byte, Tr.val_c, Tr.val_r, beq_self_eq_true]; rfl)

/- the cursor -/
theorem shr8 (v : Int) : ∀ i : Nat, i < 8 → IntKind.u8.wrap (shrA .u64 v (8 * (i : Int))) = v / 256 ^ i % 256
  | 0, _ => by rw [u8_mod]; show v.fdiv 1 % 256 = _; rw [Int.fdiv_eq_ediv_of_nonneg _ (by decide)]; rfl
  | 1, _ => by rw [u8_mod]; show v.fdiv 256 % 256 = _; rw [Int.fdiv_eq_ediv_of_nonneg _ (by decide)]; rfl
  | 2, _ => by rw [u8_mod]; show v.fdiv 65536 % 256 = _; rw [Int.fdiv_eq_ediv_of_nonneg _ (by decide)]; rfl
  | 3, _ => by rw [u8_mod]; show v.fdiv 16777216 % 256 = _; rw [Int.fdiv_eq_ediv_of_nonneg _ (by decide)]; rfl
  | 4, _ => by rw [u8_mod]; show v.fdiv 4294967296 % 256 = _; rw [Int.fdiv_eq_ediv_of_nonneg _ (by decide)]; rfl
  | 5, _ => by rw [u8_mod]; show v.fdiv 1099511627776 % 256 = _; rw [Int.fdiv_eq_ediv_of_nonneg _ (by decide)]; rfl
  | 6, _ => by rw [u8_mod]; show v.fdiv 281474976710656 % 256 = _; rw [Int.fdiv_eq_ediv_of_nonneg _ (by decide)]; rfl
  | 7, _ => by rw [u8_mod]; show v.fdiv 72057594037927936 % 256 = _; rw [Int.fdiv_eq_ediv_of_nonneg _ (by decide)]; rfl
  | n + 8, h => by omega

/-- The lowest bytes of a number, the highest first. -/
def bex (v : Int) : Nat → List AV
  | 0 => []
  | i + 1 => .int .u8 (v / 256 ^ i % 256) :: bex v i
@[simp] theorem length_bex (v : Int) (i : Nat) : (bex v i).length = i := by induction i <;> simp [bex, *]

theorem set_last (r : List AV) (x y : AV) (j : Nat) : (List.replicate (j + 1) x ++ r).set j y = List.replicate j x ++ y :: r := by
  induction j with
  | zero => rfl
  | succ j ih => rw [List.replicate_succ (n := j + 1), List.cons_append, List.set_cons_succ, ih]; rfl

theorem Put_eq (x0 : List AV) (v n : Int) (m : Nat) (hx : x0.length < 8796093022208) (hm : m ≤ 8) (hn : (if 8 < (if 0 > n then 0 else n) then 8 else if 0 > n then 0 else n) = (m : Int)) : g_cursor_Put x0 v n = some (x0 ++ bex v m) := by
  unfold g_cursor_Put
  have hr : m * 2 < 70368744177664 := by omega
  have h0 : (0 : Int) ≤ m := by omega
  rw [run_inl (s := ((m : Int), (m : Int), List.replicate m (.int .u8 0), 0))]
  rotate_left
  · simp only [T_cursor_Put, Tr.val_c, Tr.val_r, hn, h0, Int.toNat_natCast, List.length_replicate, hr, decide_true, cond_true, beq_self_eq_true]
  have key : ∀ k i, i + k = m → run (M_cursor_Put x0 v n) (M_cursor_Put x0 v n ((m : Int), (m : Int), List.replicate k (.int .u8 0) ++ bex v i, (i : Int))) = some (x0 ++ bex v m) := by
    intro k
    induction k with
    | zero =>
      intro i hi
      have : i = m := by omega
      subst this
      have hlt : ¬ ((i : Int) < i) := by omega
      have hc := Concat_eq x0 (bex v i) (by simp; omega)
      exact run_inr (by simp only [M_cursor_Put, Tr.val_c, Tr.val_r, hlt, List.replicate_zero, List.nil_append, val_opt, hc, Option.bind_some, decide_false, cond_false, beq_self_eq_true, cond_true])
    | succ k ih =>
      intro i hi
      have q1 : (i : Int) < m := by omega
      have w1 : IntKind.i64.wrap (8 * (i : Int)) = 8 * i := i64_wrap (by omega) (by omega)
      have w2 : IntKind.i64.wrap ((m : Int) - 1) = m - 1 := i64_wrap (by omega) (by omega)
      have w3 : IntKind.i64.wrap ((m : Int) - 1 - i) = (k : Int) := by rw [i64_wrap (by omega) (by omega)]; omega
      have w4 : IntKind.i64.wrap ((i : Int) + 1) = ((i + 1 : Nat) : Int) := by rw [i64_wrap (by omega) (by omega)]; omega
      have q2 : (0 : Int) ≤ 8 * i := by omega
      have q3 : (0 : Int) ≤ k := by omega
      have hl : (List.replicate (k + 1) (AV.int .u8 0) ++ bex v i).length = m := by simp; omega
      have hl2 : (List.replicate k (AV.int .u8 0) ++ AV.int .u8 (v / 256 ^ i % 256) :: bex v i).length = m := by simp; omega
      have q4 : (k : Int) < m := by omega
      have q5 : k < m := by omega
      rw [run_inl (s := ((m : Int), (m : Int), List.replicate k (.int .u8 0) ++ bex v (i + 1), ((i + 1 : Nat) : Int)))]
      · exact ih (i + 1) (by omega)
      · simp only [M_cursor_Put, Tr.val_c, Tr.val_r, q1, w1, w2, w3, w4, q2, q3, q4, q5, hl, Int.toNat_natCast, shr8 v i (by omega), decide_true, cond_true, beq_self_eq_true, set_last, hl2]
        rfl
  have := key m 0 (by omega)
  simpa [bex] using this

theorem take_eq (n : Int) (b : List AV) (k : Nat) (hk : k ≤ b.length) (hb : b.length < 8796093022208) :
    g_cursor_Cursor_take_p0500 n b k = some (if n < 0 then ([], 1, b, (k : Int)) else if n > b.length - k then ([], 3, b, (k : Int)) else ((b.drop k).take n.toNat, 0, b, (k : Int) + n)) := by
  unfold g_cursor_Cursor_take_p0500
  have w0 : IntKind.i64.wrap ((b.length : Int) - k) = b.length - k := i64_wrap (by omega) (by omega)
  by_cases h1 : n < 0
  · simp only [T_cursor_Cursor_take_p0500, Tr.val_c, Tr.val_r, h1, decide_true, cond_true, if_true]
  · by_cases h2 : n > (b.length : Int) - k
    · simp only [T_cursor_Cursor_take_p0500, Tr.val_c, Tr.val_r, h1, h2, w0, decide_true, decide_false, cond_true, cond_false, if_true, if_false]
    · have w1 : IntKind.i64.wrap ((k : Int) + n) = k + n := i64_wrap (by omega) (by omega)
      have w2 : IntKind.i64.wrap ((k : Int) + n - n) = k := by rw [i64_wrap (by omega) (by omega)]; omega
      have q1 : (0 : Int) ≤ k + n := by omega
      have q2 : (k : Int) + n ≤ b.length := by omega
      have q3 : (0 : Int) ≤ k := by omega
      have q4 : (k : Int) ≤ k + n := by omega
      have hd : ((b.take ((k : Int) + n).toNat).drop (k : Int).toNat) = (b.drop k).take n.toNat := by
        rw [List.drop_take]; congr 1; omega
      simp only [T_cursor_Cursor_take_p0500, Tr.val_c, Tr.val_r, h1, h2, w0, w1, w2, q1, q2, q3, q4, hd, decide_true, decide_false, cond_true, cond_false, if_false]

theorem read_eq (n : Int) (b : List AV) (k : Int) : g_cursor_read_ftake_0p500 n b k = g_cursor_Cursor_take_p0500 n b k := by
  conv => lhs; unfold g_cursor_read_ftake_0p500
  simp only [T_cursor_read_ftake_0p500, Tr.val_c, Tr.val_r, val_opt]
  cases g_cursor_Cursor_take_p0500 n b k <;> rfl

theorem Take_eq (n : Int) (b : List AV) (k : Nat) (hk : k ≤ b.length) (hb : b.length < 8796093022208) :
    g_cursor_Cursor_Take_p0500 n b k = some (if n < 0 then ([], 1, b, (k : Int)) else if n > b.length - k then ([], 3, b, (k : Int)) else ((b.drop k).take n.toNat, 0, b, (k : Int) + n)) := by
  have h := take_eq n b k hk hb
  have hl : ∀ m : Nat, ((b.drop k).take m).length * 2 < 70368744177664 := by
    intro m; simp only [List.length_take, List.length_drop]; omega
  unfold g_cursor_Cursor_Take_p0500
  simp only [T_cursor_Cursor_Take_p0500, Tr.val_c, Tr.val_r, val_opt, read_eq, h, Option.bind_some]
  by_cases h1 : n < 0
  · simp [h1]
  · by_cases h2 : n > (b.length : Int) - k
    · simp [h1, h2]
    · simp only [h1, h2, if_false, hl, decide_true, cond_true]

/-- The number that bytes are. -/
def numOf (l : List AV) : Int := l.foldl (fun a x => bitsA .or .u64 (shlA .u64 a 8) (IntKind.u64.wrap (getI x))) 0

theorem Number_eq (n : Int) (b : List AV) (k : Nat) (hk : k ≤ b.length) (hb : b.length < 8796093022208) :
    g_cursor_Cursor_Number_p0500 n b k = some (if n < 1 then (0, 1, b, (k : Int)) else if n > 8 then (0, 1, b, (k : Int)) else if n > b.length - k then (0, 3, b, (k : Int)) else (numOf ((b.drop k).take n.toNat), 0, b, (k : Int) + n)) := by
  unfold g_cursor_Cursor_Number_p0500
  by_cases h1 : n < 1
  · rw [run_inr (x := (0, 1, b, (k : Int))) (by simp only [T_cursor_Cursor_Number_p0500, Tr.val_c, Tr.val_r, h1, decide_true, cond_true])]
    simp [h1]
  by_cases h2 : n > 8
  · rw [run_inr (x := (0, 1, b, (k : Int))) (by simp only [T_cursor_Cursor_Number_p0500, Tr.val_c, Tr.val_r, h1, h2, decide_true, decide_false, cond_true, cond_false])]
    simp [h1, h2]
  have loop : ∀ (e : Int) (l : List AV) (b2 : List AV) (at' : Int), l.length < 8796093022208 → ∀ m i v, i + m = l.length → run (M_cursor_Cursor_Number_p0500 n b k) (M_cursor_Cursor_Number_p0500 n b k (e, l, (l.length : Int), b2, at', v, (i : Int))) =
      some ((l.drop i).foldl (fun a x => bitsA .or .u64 (shlA .u64 a 8) (IntKind.u64.wrap (getI x))) v, e, b2, at') := by
    intro e l b2 at' hl m
    induction m with
    | zero =>
      intro i v hi
      have hlt : ¬ ((i : Int) < l.length) := by omega
      rw [List.drop_of_length_le (by omega)]
      exact run_inr (by simp only [M_cursor_Cursor_Number_p0500, Tr.val_c, Tr.val_r, hlt, decide_false, cond_false]; rfl)
    | succ m ih =>
      intro i v hi
      have q1 : (i : Int) < l.length := by omega
      have q2 : (0 : Int) ≤ i := by omega
      have q3 : i < l.length := by omega
      have w : IntKind.i64.wrap ((i : Int) + 1) = ((i + 1 : Nat) : Int) := by rw [i64_wrap (by omega) (by omega)]; omega
      have hg : l.getD i (.int .u8 0) = l[i] := by simp [List.getD_eq_getElem?_getD, q3]
      rw [run_inl (s := (e, l, (l.length : Int), b2, at', bitsA .or .u64 (shlA .u64 v 8) (IntKind.u64.wrap (getI l[i])), ((i + 1 : Nat) : Int))) (by simp only [M_cursor_Cursor_Number_p0500, Tr.val_c, Tr.val_r, q1, q2, w, hg, Int.toNat_natCast, decide_true, cond_true]), ih (i + 1) _ (by omega), List.drop_eq_getElem_cons q3, List.foldl_cons]
  have ht := take_eq n b k hk hb
  have h0 : ¬ n < 0 := by omega
  by_cases h3 : n > (b.length : Int) - k
  · rw [run_inl (s := (3, [], ((([] : List AV).length : Nat) : Int), b, (k : Int), 0, ((0 : Nat) : Int)))]
    · rw [loop 3 [] b k (by simp) 0 0 0 rfl]
      simp [h1, h2, h3]
    · simp only [T_cursor_Cursor_Number_p0500, Tr.val_c, Tr.val_r, val_opt, h1, h2, h0, h3, read_eq, ht, Option.bind_some, if_true, if_false, decide_false, cond_false]
      rfl
  · rw [run_inl (s := (0, (b.drop k).take n.toNat, ((((b.drop k).take n.toNat).length : Nat) : Int), b, (k : Int) + n, 0, ((0 : Nat) : Int)))]
    · rw [loop 0 _ b _ (by simp only [List.length_take, List.length_drop]; omega) ((b.drop k).take n.toNat).length 0 0 (by omega)]
      simp only [h1, h2, h3, if_false, List.drop_zero, numOf]
    · simp only [T_cursor_Cursor_Number_p0500, Tr.val_c, Tr.val_r, val_opt, h1, h2, h0, h3, read_eq, ht, Option.bind_some, if_true, if_false, decide_false, cond_false]
      rfl

theorem New_eq (b : List AV) (hb : b.length < 8796093022208) : g_cursor_New b = some (b, 0) := by
  have : b.length * 2 < 70368744177664 := by omega
  unfold g_cursor_New
  simp only [T_cursor_New, Tr.val_c, Tr.val_r, this, decide_true, cond_true]

theorem awake01 : g_comptoirlaw01_awake = some true := by
  have a := Number_eq 2 [.int .u8 1, .int .u8 2, .int .u8 3] 0 (by simp) (by simp)
  have p := Put_eq [] 258 2 2 (by simp) (by omega) (by decide)
  have e1 : (if (2 : Int) < 1 then ((0 : Int), (1 : Int), [AV.int .u8 1, .int .u8 2, .int .u8 3], ((0 : Nat) : Int)) else if (2 : Int) > 8 then (0, 1, [.int .u8 1, .int .u8 2, .int .u8 3], ((0 : Nat) : Int)) else if (2 : Int) > (([AV.int .u8 1, .int .u8 2, .int .u8 3].length : Nat) : Int) - ((0 : Nat) : Int) then (0, 3, [.int .u8 1, .int .u8 2, .int .u8 3], ((0 : Nat) : Int)) else (numOf (([AV.int .u8 1, .int .u8 2, .int .u8 3].drop 0).take (2 : Int).toNat), 0, [.int .u8 1, .int .u8 2, .int .u8 3], ((0 : Nat) : Int) + 2)) = (258, 0, [.int .u8 1, .int .u8 2, .int .u8 3], 2) := by kernel_rfl
  rw [e1] at a
  have a : g_cursor_Cursor_Number_p0500 2 [.int .u8 1, .int .u8 2, .int .u8 3] 0 = some (258, 0, [.int .u8 1, .int .u8 2, .int .u8 3], 2) := a
  unfold g_comptoirlaw01_awake
  simp only [T_comptoirlaw01_awake, Tr.val_c, Tr.val_r, val_opt, a, p, Option.bind_some]
  rfl

theorem parts_eq (A : List AV) (L : List AV) (x2 : Int) (hL : L.length < 9223372036854775808) : g_comptoirlaw01_CursorParts A L x2 = some true := by
  obtain ⟨b0, b1⟩ := u64_bounds x2
  unfold g_comptoirlaw01_CursorParts
  by_cases hbig : (A.length : Int) > 300
  · exact run_inr (by simp only [T_comptoirlaw01_CursorParts, Tr.val_c, Tr.val_r, val_opt, awake01, hbig, Option.bind_some, decide_true, cond_true])
  have lA : A.length ≤ 300 := by omega
  have hA : A.length < 8796093022208 := by omega
  rw [run_inl (s := .inl (A, 0, false)) (by simp only [T_comptoirlaw01_CursorParts, Tr.val_c, Tr.val_r, val_opt, awake01, New_eq A hA, hbig, Option.bind_some, decide_false, cond_false, Bool.not_true])]
  rw [run_inl (s := .inr (.inl (A, 0, 0, []))) (by simp only [M_comptoirlaw01_CursorParts, Tr.val_c, Tr.val_r, cond_false])]
  -- the end
  have fin : ∀ k : Nat, k ≤ A.length → run (M_comptoirlaw01_CursorParts A L x2) (M_comptoirlaw01_CursorParts A L x2 (.inr (.inr (.inr (.inl (A, (k : Int), A.take k)))))) = some true := by
    intro k hk
    have w : IntKind.i64.wrap ((A.length : Int) - k) = A.length - k := i64_wrap (by omega) (by omega)
    have ht := Take_eq ((A.length : Int) - k) A k hk hA
    have n1 : ¬ ((A.length : Int) - k < 0) := by omega
    have n2 : ¬ ((A.length : Int) - k > A.length - k) := by omega
    have e : (A.drop k).take ((A.length : Int) - k).toNat = A.drop k := List.take_of_length_le (by simp only [List.length_drop]; omega)
    have l1 : A.length * 2 < 70368744177664 := by omega
    rw [if_neg n1, if_neg n2, e] at ht
    exact run_inr (by simp only [M_comptoirlaw01_CursorParts, Tr.val_c, Tr.val_r, val_opt, w, ht, Option.bind_some, beq_self_eq_true, cond_true, List.take_append_drop, l1, decide_true])
  have key : ∀ m (i k : Nat), i + m = 30 → k ≤ A.length → run (M_comptoirlaw01_CursorParts A L x2) (M_comptoirlaw01_CursorParts A L x2 (.inr (.inl (A, (k : Int), (i : Int), A.take k)))) = some true := by
    intro m
    induction m with
    | zero =>
      intro i k hi hk
      have hlt : ¬ ((i : Int) < 30) := by omega
      have := fin k hk
      by_cases hl : (i : Int) < L.length
      · rw [run_inl (s := .inr (.inr (.inr (.inl (A, (k : Int), A.take k))))) (by simp only [M_comptoirlaw01_CursorParts, Tr.val_c, Tr.val_r, hl, hlt, decide_true, decide_false, cond_true, cond_false])]
        exact this
      · rw [run_inl (s := .inr (.inr (.inr (.inl (A, (k : Int), A.take k))))) (by simp only [M_comptoirlaw01_CursorParts, Tr.val_c, Tr.val_r, hl, decide_false, cond_false])]
        exact this
    | succ m ih =>
      intro i k hi hk
      by_cases hl : (i : Int) < L.length
      · have h30 : (i : Int) < 30 := by omega
        have q0 : (0 : Int) ≤ i := by omega
        obtain ⟨p, hp, hp0⟩ : ∃ p : Int, IntKind.i64.wrap (Int.tmod (IntKind.u64.wrap (getI (L.getD i (.int .i64 0)))) 20) = p ∧ (0 ≤ p) := ⟨_, rfl, by
          obtain ⟨c0, c1⟩ := u64_bounds (getI (L.getD i (.int .i64 0)))
          rw [tmod_eq c0, i64_wrap (by omega) (by omega)]; omega⟩
        rw [run_inl (s := .inr (.inr (.inl (A, (k : Int), (i : Int), A.take k)))) (by simp only [M_comptoirlaw01_CursorParts, Tr.val_c, Tr.val_r, hl, h30, decide_true, cond_true])]
        have ht := Take_eq p A k hk hA
        rw [if_neg (by omega)] at ht
        -- behind the taking
        have rest : ∀ k2 : Nat, k2 ≤ A.length → run (M_comptoirlaw01_CursorParts A L x2) (M_comptoirlaw01_CursorParts A L x2 (.inr (.inr (.inr (.inr (.inl (A, (k2 : Int), A.take k2, (i : Int)))))))) = some true := by
          intro k2 hk2
          have lt : (A.take k2).length = k2 := by simp; omega
          have w1 : IntKind.i64.wrap ((A.length : Int) - k2) = A.length - k2 := i64_wrap (by omega) (by omega)
          have w2 : IntKind.i64.wrap ((A.length : Int) - k2 + 1) = A.length - k2 + 1 := i64_wrap (by omega) (by omega)
          have ht100 : IntKind.i64.wrap (Int.tmod (IntKind.u64.wrap x2) 100) = IntKind.u64.wrap x2 % 100 := by rw [tmod_eq b0, i64_wrap (by omega) (by omega)]
          have w3 : IntKind.i64.wrap ((A.length : Int) - k2 + 1 + IntKind.u64.wrap x2 % 100) = A.length - k2 + 1 + IntKind.u64.wrap x2 % 100 := i64_wrap (by omega) (by omega)
          have hs := Take_eq ((A.length : Int) - k2 + 1 + IntKind.u64.wrap x2 % 100) A k2 hk2 hA
          rw [if_neg (by omega), if_pos (by omega)] at hs
          have hn := Number_eq 9 A k2 hk2 hA
          rw [if_neg (by omega), if_pos (by omega)] at hn
          have w4 : IntKind.i64.wrap ((i : Int) + 1) = ((i + 1 : Nat) : Int) := by rw [i64_wrap (by omega) (by omega)]; omega
          rw [run_inl (s := .inr (.inr (.inr (.inr (.inr (A, (k2 : Int), A.take k2, false, (i : Int))))))) (by
            simp only [M_comptoirlaw01_CursorParts, Tr.val_c, Tr.val_r, val_opt, w1, w2, ht100, w3, hs, hn, Option.bind_some, lt]
            simp)]
          rw [run_inl (s := .inr (.inl (A, (k2 : Int), ((i + 1 : Nat) : Int), A.take k2))) (by simp only [M_comptoirlaw01_CursorParts, Tr.val_c, Tr.val_r, cond_false, w4])]
          exact ih (i + 1) k2 (by omega) hk2
        by_cases hp2 : p > (A.length : Int) - k
        · rw [if_pos hp2] at ht
          rw [run_inl (s := .inr (.inr (.inr (.inr (.inl (A, (k : Int), A.take k, (i : Int))))))) (by
            simp only [M_comptoirlaw01_CursorParts, Tr.val_c, Tr.val_r, val_opt, q0, hl, Int.toNat_natCast, hp, ht, Option.bind_some, decide_true, cond_true]
            rfl)]
          exact rest k hk
        · rw [if_neg hp2] at ht
          obtain ⟨q, hq⟩ : ∃ q : Nat, p = q := ⟨p.toNat, by omega⟩
          subst hq
          have e : A.take k ++ (A.drop k).take q = A.take (k + q) := by rw [List.take_add]
          have l1 : (A.take (k + q)).length * 2 < 70368744177664 := by simp; omega
          rw [run_inl (s := .inr (.inr (.inr (.inr (.inl (A, ((k + q : Nat) : Int), A.take (k + q), (i : Int))))))) (by
            simp only [M_comptoirlaw01_CursorParts, Tr.val_c, Tr.val_r, val_opt, q0, hl, Int.toNat_natCast, hp, ht, Option.bind_some, decide_true, cond_true, beq_self_eq_true, e, l1]
            rfl)]
          exact rest (k + q) (by omega)
      · rw [run_inl (s := .inr (.inr (.inr (.inl (A, (k : Int), A.take k))))) (by simp only [M_comptoirlaw01_CursorParts, Tr.val_c, Tr.val_r, hl, decide_false, cond_false])]
        exact fin k hk
  exact key 30 0 0 rfl (by omega)

end Go.Proofs.Ythocnaabefdokaa
