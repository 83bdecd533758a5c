/- What the printed functions come to, plainly. -/
import Derived.Test.YtfhgmpeplfjmcaaYcG12
import Derived.Test.YtfhgmpeplfjmcaaCxPl3
import Derived.Test.YtfhgmpeplfjmcaaCxAm
namespace Go.Proofs.Ytfhgmpeplfjmcaa
open Go.Cx Go.Cx.AV
set_option linter.unusedSimpArgs false
set_option linter.unusedVariables false

/- slices.Concat of two. -/
theorem Grow_eq (n : Int) (h0 : 0 ≤ n) (h : n < 35184372088832) : g_slices_Grow_byte_byte n = some [] := by
  unfold g_slices_Grow_byte_byte
  have w : IntKind.i64.wrap (n - 0) = n := by rw [Int.sub_zero]; exact i64_wrap (by omega) (by omega)
  have hn0 : ¬ (n < 0) := by omega
  have hT : (T_slices_Grow_byte_byte n).val = some (.inl (.inl ())) := by simp only [T_slices_Grow_byte_byte, Tr.val_c, Tr.val_r, hn0]; rfl
  rw [run_inl hT]
  rw [run_inl (s := .inr ())]
  · exact run_inr rfl
  · simp only [M_slices_Grow_byte_byte, Tr.val_c, Tr.val_r, w, List.length_replicate]
    by_cases hn : n > 0
    · have : n.toNat * 2 < 70368744177664 := by omega
      simp [hn, this]
    · simp [hn]

theorem Concat_eq (a b : List AV) (h : a.length + b.length < 17592186044416) : g_slices_Concat_byte_byte [.slice 1 (.int .u8) a .ro, .slice 1 (.int .u8) b .ro] = some (a ++ b) := by
  have e0 : getXs (List.getD [AV.slice 1 (.int .u8) a .ro, .slice 1 (.int .u8) b .ro] (Int.toNat 0) (.slice 1 (.int .u8) [] .ro)) = a := rfl
  have e1 : getXs (List.getD [AV.slice 1 (.int .u8) a .ro, .slice 1 (.int .u8) b .ro] (Int.toNat 1) (.slice 1 (.int .u8) [] .ro)) = b := rfl
  have w0 : IntKind.i64.wrap (0 + (a.length : Int)) = a.length := by rw [Int.zero_add]; exact i64_wrap (by omega) (by omega)
  have w1 : IntKind.i64.wrap ((a.length : Int) + b.length) = ((a.length + b.length : Nat) : Int) := by rw [i64_wrap (by omega) (by omega)]; omega
  have w2 : IntKind.i64.wrap (0 + 1) = 1 := rfl
  have w3 : IntKind.i64.wrap (1 + 1) = 2 := rfl
  have n0 : ¬ ((a.length : Int) < 0) := by omega
  have n1 : ¬ (((a.length + b.length : Nat) : Int) < 0) := by omega
  have l0 : a.length * 2 < 70368744177664 := by omega
  have l1 : (a.length + b.length) * 2 < 70368744177664 := by omega
  have gr := Grow_eq (((a.length + b.length : Nat) : Int)) (by omega) (by omega)
  unfold g_slices_Concat_byte_byte
  rw [run_inl (s := .inl (0, 0)) rfl]
  rw [run_inl (s := .inl ((a.length : Int), 1)) (by simp only [M_slices_Concat_byte_byte, Tr.val_c, Tr.val_r, e0, w0, w2, n0]; rfl)]
  rw [run_inl (s := .inl (((a.length + b.length : Nat) : Int), 2)) (by simp only [M_slices_Concat_byte_byte, Tr.val_c, Tr.val_r, e1, w1, w3, n1]; rfl)]
  rw [run_inl (s := .inr ([], 0)) (by simp only [M_slices_Concat_byte_byte, Tr.val_c, Tr.val_r, gr, opt_some]; rfl)]
  rw [run_inl (s := .inr (a, 1)) (by simp only [M_slices_Concat_byte_byte, Tr.val_c, Tr.val_r, e0, w2, List.nil_append, l0, decide_true, beq_self_eq_true]; rfl)]
  rw [run_inl (s := .inr (a ++ b, 2)) (by simp only [M_slices_Concat_byte_byte, Tr.val_c, Tr.val_r, e1, w3, List.length_append, l1, decide_true, beq_self_eq_true]; rfl)]
  exact run_inr (by simp only [M_slices_Concat_byte_byte, Tr.val_c, Tr.val_r, beq_self_eq_true]; rfl)

/- the cursor -/
theorem shr8 (v : Int) : ∀ i : Nat, i < 8 → IntKind.u8.wrap (shrA .u64 v (8 * (i : Int))) = v / 256 ^ i % 256
  | 0, _ => by rw [u8_mod]; show v.fdiv 1 % 256 = _; rw [Int.fdiv_eq_ediv_of_nonneg _ (by decide)]; rfl
  | 1, _ => by rw [u8_mod]; show v.fdiv 256 % 256 = _; rw [Int.fdiv_eq_ediv_of_nonneg _ (by decide)]; rfl
  | 2, _ => by rw [u8_mod]; show v.fdiv 65536 % 256 = _; rw [Int.fdiv_eq_ediv_of_nonneg _ (by decide)]; rfl
  | 3, _ => by rw [u8_mod]; show v.fdiv 16777216 % 256 = _; rw [Int.fdiv_eq_ediv_of_nonneg _ (by decide)]; rfl
  | 4, _ => by rw [u8_mod]; show v.fdiv 4294967296 % 256 = _; rw [Int.fdiv_eq_ediv_of_nonneg _ (by decide)]; rfl
  | 5, _ => by rw [u8_mod]; show v.fdiv 1099511627776 % 256 = _; rw [Int.fdiv_eq_ediv_of_nonneg _ (by decide)]; rfl
  | 6, _ => by rw [u8_mod]; show v.fdiv 281474976710656 % 256 = _; rw [Int.fdiv_eq_ediv_of_nonneg _ (by decide)]; rfl
  | 7, _ => by rw [u8_mod]; show v.fdiv 72057594037927936 % 256 = _; rw [Int.fdiv_eq_ediv_of_nonneg _ (by decide)]; rfl
  | n + 8, h => by omega

/-- The lowest bytes of a number, the highest first. -/
def bex (v : Int) : Nat → List AV
  | 0 => []
  | i + 1 => .int .u8 (v / 256 ^ i % 256) :: bex v i
@[simp] theorem length_bex (v : Int) (i : Nat) : (bex v i).length = i := by induction i <;> simp [bex, *]

theorem set_last (r : List AV) (x y : AV) (j : Nat) : (List.replicate (j + 1) x ++ r).set j y = List.replicate j x ++ y :: r := by
  induction j with
  | zero => rfl
  | succ j ih => rw [List.replicate_succ (n := j + 1), List.cons_append, List.set_cons_succ, ih]; rfl

theorem Put_eq (x0 : List AV) (v n : Int) (m : Nat) (hx : x0.length < 8796093022208) (hm : m ≤ 8) (hn : (if 8 < (if 0 > n then 0 else n) then 8 else if 0 > n then 0 else n) = (m : Int)) : g_cursor_Put x0 v n = some (x0 ++ bex v m) := by
  unfold g_cursor_Put
  have hr : m * 2 < 70368744177664 := by omega
  have h0 : (0 : Int) ≤ m := by omega
  rw [run_inl (s := ((m : Int), (m : Int), List.replicate m (.int .u8 0), 0))]
  rotate_left
  · simp only [T_cursor_Put, Tr.val_c, Tr.val_r, hn, h0, Int.toNat_natCast, List.length_replicate, hr, decide_true, cond_true, beq_self_eq_true]
  have key : ∀ k i, i + k = m → run (M_cursor_Put x0 v n) (M_cursor_Put x0 v n ((m : Int), (m : Int), List.replicate k (.int .u8 0) ++ bex v i, (i : Int))) = some (x0 ++ bex v m) := by
    intro k
    induction k with
    | zero =>
      intro i hi
      have : i = m := by omega
      subst this
      have hlt : ¬ ((i : Int) < i) := by omega
      have hc := Concat_eq x0 (bex v i) (by simp; omega)
      exact run_inr (by simp only [M_cursor_Put, Tr.val_c, Tr.val_r, hlt, List.replicate_zero, List.nil_append, val_opt, hc, Option.bind_some, decide_false, cond_false, beq_self_eq_true, cond_true])
    | succ k ih =>
      intro i hi
      have q1 : (i : Int) < m := by omega
      have w1 : IntKind.i64.wrap (8 * (i : Int)) = 8 * i := i64_wrap (by omega) (by omega)
      have w2 : IntKind.i64.wrap ((m : Int) - 1) = m - 1 := i64_wrap (by omega) (by omega)
      have w3 : IntKind.i64.wrap ((m : Int) - 1 - i) = (k : Int) := by rw [i64_wrap (by omega) (by omega)]; omega
      have w4 : IntKind.i64.wrap ((i : Int) + 1) = ((i + 1 : Nat) : Int) := by rw [i64_wrap (by omega) (by omega)]; omega
      have q2 : (0 : Int) ≤ 8 * i := by omega
      have q3 : (0 : Int) ≤ k := by omega
      have hl : (List.replicate (k + 1) (AV.int .u8 0) ++ bex v i).length = m := by simp; omega
      have hl2 : (List.replicate k (AV.int .u8 0) ++ AV.int .u8 (v / 256 ^ i % 256) :: bex v i).length = m := by simp; omega
      have q4 : (k : Int) < m := by omega
      have q5 : k < m := by omega
      rw [run_inl (s := ((m : Int), (m : Int), List.replicate k (.int .u8 0) ++ bex v (i + 1), ((i + 1 : Nat) : Int)))]
      · exact ih (i + 1) (by omega)
      · simp only [M_cursor_Put, Tr.val_c, Tr.val_r, q1, w1, w2, w3, w4, q2, q3, q4, q5, hl, Int.toNat_natCast, shr8 v i (by omega), decide_true, cond_true, beq_self_eq_true, set_last, hl2]
        rfl
  have := key m 0 (by omega)
  simpa [bex] using this

theorem take_eq (n : Int) (b : List AV) (k : Nat) (hk : k ≤ b.length) (hb : b.length < 8796093022208) :
    g_cursor_Cursor_take_p0500 n b k = some (if n < 0 then ([], 1, b, (k : Int)) else if n > b.length - k then ([], 3, b, (k : Int)) else ((b.drop k).take n.toNat, 0, b, (k : Int) + n)) := by
  unfold g_cursor_Cursor_take_p0500
  have w0 : IntKind.i64.wrap ((b.length : Int) - k) = b.length - k := i64_wrap (by omega) (by omega)
  by_cases h1 : n < 0
  · simp only [T_cursor_Cursor_take_p0500, Tr.val_c, Tr.val_r, h1, decide_true, cond_true, if_true]
  · by_cases h2 : n > (b.length : Int) - k
    · simp only [T_cursor_Cursor_take_p0500, Tr.val_c, Tr.val_r, h1, h2, w0, decide_true, decide_false, cond_true, cond_false, if_true, if_false]
    · have w1 : IntKind.i64.wrap ((k : Int) + n) = k + n := i64_wrap (by omega) (by omega)
      have w2 : IntKind.i64.wrap ((k : Int) + n - n) = k := by rw [i64_wrap (by omega) (by omega)]; omega
      have q1 : (0 : Int) ≤ k + n := by omega
      have q2 : (k : Int) + n ≤ b.length := by omega
      have q3 : (0 : Int) ≤ k := by omega
      have q4 : (k : Int) ≤ k + n := by omega
      have hd : ((b.take ((k : Int) + n).toNat).drop (k : Int).toNat) = (b.drop k).take n.toNat := by
        rw [List.drop_take]; congr 1; omega
      simp only [T_cursor_Cursor_take_p0500, Tr.val_c, Tr.val_r, h1, h2, w0, w1, w2, q1, q2, q3, q4, hd, decide_true, decide_false, cond_true, cond_false, if_false]

theorem read_eq (n : Int) (b : List AV) (k : Int) : g_cursor_read_ftake_0p500 n b k = g_cursor_Cursor_take_p0500 n b k := by
  conv => lhs; unfold g_cursor_read_ftake_0p500
  simp only [T_cursor_read_ftake_0p500, Tr.val_c, Tr.val_r, val_opt]
  cases g_cursor_Cursor_take_p0500 n b k <;> rfl

/-- The number that bytes are. -/
def numOf (l : List AV) : Int := l.foldl (fun a x => bitsA .or .u64 (shlA .u64 a 8) (IntKind.u64.wrap (getI x))) 0

theorem Number_eq (n : Int) (b : List AV) (k : Nat) (hk : k ≤ b.length) (hb : b.length < 8796093022208) :
    g_cursor_Cursor_Number_p0500 n b k = some (if n < 1 then (0, 1, b, (k : Int)) else if n > 8 then (0, 1, b, (k : Int)) else if n > b.length - k then (0, 3, b, (k : Int)) else (numOf ((b.drop k).take n.toNat), 0, b, (k : Int) + n)) := by
  unfold g_cursor_Cursor_Number_p0500
  by_cases h1 : n < 1
  · rw [run_inr (x := (0, 1, b, (k : Int))) (by simp only [T_cursor_Cursor_Number_p0500, Tr.val_c, Tr.val_r, h1, decide_true, cond_true])]
    simp [h1]
  by_cases h2 : n > 8
  · rw [run_inr (x := (0, 1, b, (k : Int))) (by simp only [T_cursor_Cursor_Number_p0500, Tr.val_c, Tr.val_r, h1, h2, decide_true, decide_false, cond_true, cond_false])]
    simp [h1, h2]
  have loop : ∀ (e : Int) (l : List AV) (b2 : List AV) (at' : Int), l.length < 8796093022208 → ∀ m i v, i + m = l.length → run (M_cursor_Cursor_Number_p0500 n b k) (M_cursor_Cursor_Number_p0500 n b k (e, l, (l.length : Int), b2, at', v, (i : Int))) =
      some ((l.drop i).foldl (fun a x => bitsA .or .u64 (shlA .u64 a 8) (IntKind.u64.wrap (getI x))) v, e, b2, at') := by
    intro e l b2 at' hl m
    induction m with
    | zero =>
      intro i v hi
      have hlt : ¬ ((i : Int) < l.length) := by omega
      rw [List.drop_of_length_le (by omega)]
      exact run_inr (by simp only [M_cursor_Cursor_Number_p0500, Tr.val_c, Tr.val_r, hlt, decide_false, cond_false]; rfl)
    | succ m ih =>
      intro i v hi
      have q1 : (i : Int) < l.length := by omega
      have q2 : (0 : Int) ≤ i := by omega
      have q3 : i < l.length := by omega
      have w : IntKind.i64.wrap ((i : Int) + 1) = ((i + 1 : Nat) : Int) := by rw [i64_wrap (by omega) (by omega)]; omega
      have hg : l.getD i (.int .u8 0) = l[i] := by simp [List.getD_eq_getElem?_getD, q3]
      rw [run_inl (s := (e, l, (l.length : Int), b2, at', bitsA .or .u64 (shlA .u64 v 8) (IntKind.u64.wrap (getI l[i])), ((i + 1 : Nat) : Int))) (by simp only [M_cursor_Cursor_Number_p0500, Tr.val_c, Tr.val_r, q1, q2, w, hg, Int.toNat_natCast, decide_true, cond_true]), ih (i + 1) _ (by omega), List.drop_eq_getElem_cons q3, List.foldl_cons]
  have ht := take_eq n b k hk hb
  have h0 : ¬ n < 0 := by omega
  by_cases h3 : n > (b.length : Int) - k
  · rw [run_inl (s := (3, [], ((([] : List AV).length : Nat) : Int), b, (k : Int), 0, ((0 : Nat) : Int)))]
    · rw [loop 3 [] b k (by simp) 0 0 0 rfl]
      simp [h1, h2, h3]
    · simp only [T_cursor_Cursor_Number_p0500, Tr.val_c, Tr.val_r, val_opt, h1, h2, h0, h3, read_eq, ht, Option.bind_some, if_true, if_false, decide_false, cond_false]
      rfl
  · rw [run_inl (s := (0, (b.drop k).take n.toNat, ((((b.drop k).take n.toNat).length : Nat) : Int), b, (k : Int) + n, 0, ((0 : Nat) : Int)))]
    · rw [loop 0 _ b _ (by simp only [List.length_take, List.length_drop]; omega) ((b.drop k).take n.toNat).length 0 0 (by omega)]
      simp only [h1, h2, h3, if_false, List.drop_zero, numOf]
    · simp only [T_cursor_Cursor_Number_p0500, Tr.val_c, Tr.val_r, val_opt, h1, h2, h0, h3, read_eq, ht, Option.bind_some, if_true, if_false, decide_false, cond_false]
      rfl

theorem New_eq (b : List AV) (hb : b.length < 8796093022208) : g_cursor_New b = some (b, 0) := by
  have : b.length * 2 < 70368744177664 := by omega
  unfold g_cursor_New
  simp only [T_cursor_New, Tr.val_c, Tr.val_r, this, decide_true, cond_true]


theorem Take_eq (n : Int) (b : List AV) (k : Nat) (hk : k ≤ b.length) (hb : b.length < 8796093022208) :
    g_cursor_Cursor_Take_p0500 n b k = some (if n < 0 then ([], 1, b, (k : Int)) else if n > b.length - k then ([], 3, b, (k : Int)) else ((b.drop k).take n.toNat, 0, b, (k : Int) + n)) := by
  have h := take_eq n b k hk hb
  have hl : ∀ m : Nat, ((b.drop k).take m).length * 2 < 70368744177664 := by
    intro m; simp only [List.length_take, List.length_drop]; omega
  unfold g_cursor_Cursor_Take_p0500
  simp only [T_cursor_Cursor_Take_p0500, Tr.val_c, Tr.val_r, val_opt, read_eq, h, Option.bind_some]
  by_cases h1 : n < 0
  · simp [h1]
  · by_cases h2 : n > (b.length : Int) - k
    · simp [h1, h2]
    · simp only [h1, h2, if_false, hl, decide_true, cond_true]


theorem foldl_bex (v : Nat) : ∀ (i a : Nat), i ≤ 8 → a < 256 ^ (8 - i) → (bex (v : Int) i).foldl (fun a x => bitsA .or .u64 (shlA .u64 a 8) (IntKind.u64.wrap (getI x))) (a : Int) = ((a * 256 ^ i + v % 256 ^ i : Nat) : Int)
  | 0, a, _, _ => by
    show (a : Int) = _
    rw [Nat.pow_zero, Nat.mod_one, Nat.mul_one, Nat.add_zero]
  | i + 1, a, hi, ha => by
    have e8 : 8 - i = (8 - (i + 1)) + 1 := by omega
    have hp : 256 ^ (8 - i) = 256 * 256 ^ (8 - (i + 1)) := by rw [e8, Nat.pow_succ, Nat.mul_comm]
    have h7 : 256 ^ (8 - (i + 1)) ≤ 256 ^ 7 := Nat.pow_le_pow_right (by omega) (by omega)
    have hy : v / 256 ^ i % 256 < 256 := Nat.mod_lt _ (by omega)
    have hb := byte_behind (a := a) (y := v / 256 ^ i % 256) (by omega) hy
    have hc : ((v : Int) / 256 ^ i % 256) = ((v / 256 ^ i % 256 : Nat) : Int) := by rw [Int.natCast_emod, Int.natCast_ediv, Int.natCast_pow]; rfl
    rw [bex, List.foldl_cons, getI_int, hc, hb, foldl_bex v i _ (by omega) (by rw [hp]; omega)]
    congr 1
    rw [Nat.pow_succ, Nat.mod_mul, Nat.add_mul, Nat.mul_assoc, Nat.mul_comm 256 (256 ^ i), Nat.mul_comm (v / 256 ^ i % 256)]
    omega

theorem numOf_bex (v n : Nat) (hn : n ≤ 8) : numOf (bex (v : Int) n) = ((v % 256 ^ n : Nat) : Int) := by
  have := foldl_bex v n 0 hn (Nat.pow_pos (by omega))
  unfold numOf
  rw [Nat.zero_mul, Nat.zero_add] at this
  exact this

/- what is packed -/
def CAP : Nat := 1099511627776
theorem number_eq (v : Int) (m : Nat) (hm : m = 4 ∨ m = 8) (A : List AV) (hA : A.length < CAP) : g_pack_writer_number_p0050 v (m : Int) A = some (A ++ bex v m) := by
  unfold CAP at hA
  have p : g_cursor_Put A v (m : Int) = some (A ++ bex v m) := by
    rcases hm with rfl | rfl
    · exact Put_eq A v 4 4 (by omega) (by omega) (by decide)
    · exact Put_eq A v 8 8 (by omega) (by omega) (by decide)
  unfold g_pack_writer_number_p0050
  simp only [T_pack_writer_number_p0050, Tr.val_c, Tr.val_r, val_opt, p, Option.bind_some, beq_self_eq_true, Bool.true_and, cond_true]
theorem number4 (v : Int) (A : List AV) (hA : A.length < CAP) : g_pack_writer_number_p0050 v 4 A = some (A ++ bex v 4) := number_eq v 4 (.inl rfl) A hA
theorem number8 (v : Int) (A : List AV) (hA : A.length < CAP) : g_pack_writer_number_p0050 v 8 A = some (A ++ bex v 8) := number_eq v 8 (.inr rfl) A hA

theorem flat_take (W : AV → List AV) (xs : List AV) (d : AV) {i : Nat} (hi : i < xs.length) : (xs.take (i + 1)).flatMap W = (xs.take i).flatMap W ++ W (xs.getD i d) := by
  rw [List.take_succ_eq_append_getElem hi, List.flatMap_append, List.getD_eq_getElem?_getD, List.getElem?_eq_getElem hi]
  simp
theorem flat_take_len (W : AV → List AV) (xs : List AV) (i : Nat) : ((xs.take i).flatMap W).length ≤ (xs.flatMap W).length := by
  have : xs.flatMap W = (xs.take i).flatMap W ++ (xs.drop i).flatMap W := by rw [← List.flatMap_append, List.take_append_drop]
  rw [this, List.length_append]; omega
theorem flat_take_all (W : AV → List AV) (xs : List AV) : (xs.take xs.length).flatMap W = xs.flatMap W := by rw [List.take_length]

def intW (x : AV) : List AV := bex (IntKind.u64.wrap (getI x)) 8
def textW (x : AV) : List AV := bex (IntKind.u64.wrap ((getS x).length : Int)) 4 ++ (getS x).map byte

theorem ints_eq (xs A : List AV) (h : A.length + (xs.flatMap intW).length < CAP) (hx : xs.length < CAP) : g_pack_writer_ints_p050 xs A = some (A ++ xs.flatMap intW) := by
  have hc := h
  unfold CAP at h hx
  unfold g_pack_writer_ints_p050
  rw [run_inl (s := (((0 : Nat) : Int), A ++ (xs.take 0).flatMap intW)) (by simp [T_pack_writer_ints_p050, Tr.val_r])]
  rw [run_count (step := M_pack_writer_ints_p050 xs A) (f := fun i => ((i : Int), A ++ (xs.take i).flatMap intW)) (n := xs.length) (fun i hi => by
    have q : (i : Int) < xs.length := by omega
    have q0 : (0 : Int) ≤ i := by omega
    have w : IntKind.i64.wrap ((i : Int) + 1) = ((i + 1 : Nat) : Int) := by rw [i64_wrap (by omega) (by omega)]; omega
    have l := flat_take_len intW xs i
    have p := number8 (IntKind.u64.wrap (getI (xs.getD i (.int .i64 0)))) (A ++ (xs.take i).flatMap intW) (by rw [List.length_append]; unfold CAP; omega)
    have e : A ++ (xs.take (i + 1)).flatMap intW = A ++ (xs.take i).flatMap intW ++ bex (IntKind.u64.wrap (getI (xs.getD i (.int .i64 0)))) 8 := by
      rw [flat_take intW xs (.int .i64 0) hi, ← List.append_assoc]; rfl
    simp only [M_pack_writer_ints_p050, Tr.val_c, Tr.val_r, val_opt, q, q0, w, p, e, Int.toNat_natCast, Option.bind_some, decide_true, beq_self_eq_true, cond_true])]
  have q : ¬ ((xs.length : Int) < xs.length) := by omega
  exact run_inr (by simp only [M_pack_writer_ints_p050, Tr.val_c, Tr.val_r, q, flat_take_all, decide_false, beq_self_eq_true, cond_true, cond_false])

theorem texts_eq (xs A : List AV) (h : A.length + (xs.flatMap textW).length < CAP) (hx : xs.length < CAP) : g_pack_writer_texts_p050 xs A = some (A ++ xs.flatMap textW) := by
  have hc := h
  unfold CAP at h hx
  unfold g_pack_writer_texts_p050
  rw [run_inl (s := (((0 : Nat) : Int), A ++ (xs.take 0).flatMap textW)) (by simp [T_pack_writer_texts_p050, Tr.val_r])]
  rw [run_count (step := M_pack_writer_texts_p050 xs A) (f := fun i => ((i : Int), A ++ (xs.take i).flatMap textW)) (n := xs.length) (fun i hi => by
    have q : (i : Int) < xs.length := by omega
    have q0 : (0 : Int) ≤ i := by omega
    have w : IntKind.i64.wrap ((i : Int) + 1) = ((i + 1 : Nat) : Int) := by rw [i64_wrap (by omega) (by omega)]; omega
    have l := flat_take_len textW xs i
    have p := number4 (IntKind.u64.wrap ((getS (xs.getD i (.str []))).length : Int)) (A ++ (xs.take i).flatMap textW) (by rw [List.length_append]; unfold CAP; omega)
    have e : A ++ (xs.take (i + 1)).flatMap textW = (A ++ (xs.take i).flatMap textW ++ bex (IntKind.u64.wrap ((getS (xs.getD i (.str []))).length : Int)) 4) ++ (getS (xs.getD i (.str []))).map byte := by
      rw [flat_take textW xs (.str []) hi]; simp only [textW, List.append_assoc]
    have l2 : (A ++ (xs.take (i + 1)).flatMap textW).length * 2 < 70368744177664 := by
      have := flat_take_len textW xs (i + 1)
      rw [List.length_append]; omega
    rw [e] at l2
    simp only [M_pack_writer_texts_p050, Tr.val_c, Tr.val_r, val_opt, q, q0, w, p, e, l2, Int.toNat_natCast, Option.bind_some, decide_true, beq_self_eq_true, cond_true])]
  have q : ¬ ((xs.length : Int) < xs.length) := by omega
  exact run_inr (by simp only [M_pack_writer_texts_p050, Tr.val_c, Tr.val_r, q, flat_take_all, decide_false, beq_self_eq_true, cond_true, cond_false])

def ints (l : List AV) : List AV := l.flatMap intW
def texts (l : List AV) : List AV := l.flatMap textW
theorem ints_eq' (xs A : List AV) (h : A.length + (ints xs).length < CAP) (hx : xs.length < 10) : g_pack_writer_ints_p050 xs A = some (A ++ ints xs) := ints_eq xs A h (by unfold CAP; omega)
theorem texts_eq' (xs A : List AV) (h : A.length + (texts xs).length < CAP) (hx : xs.length < 10) : g_pack_writer_texts_p050 xs A = some (A ++ texts xs) := texts_eq xs A h (by unfold CAP; omega)

/-- A tag, or an element. -/
def tagW (x : AV) : List AV := ints [.int .i64 (getI (getF x 0))] ++ texts [.str (bytesOf (getXs (getF x 1)))]
def pairW (x : AV) : List AV := texts [.str (getS (getF x 0)), .str (getS (getF x 1))]
def listW (W : AV → List AV) (l : List AV) : List AV := bex (IntKind.u64.wrap (l.length : Int)) 4 ++ l.flatMap W

theorem tag_eq (x : AV) (A : List AV) (h : A.length + (tagW x).length < CAP) : g_pack_writer_tag_p050 (getI (getF x 0)) (getXs (getF x 1)) A = some (A ++ tagW x) := by
  unfold tagW at h ⊢
  rw [List.length_append] at h
  have a := ints_eq' [.int .i64 (getI (getF x 0))] A (by omega) (by simp)
  have b := texts_eq' [.str (bytesOf (getXs (getF x 1)))] (A ++ ints [.int .i64 (getI (getF x 0))]) (by rw [List.length_append]; omega) (by simp)
  unfold g_pack_writer_tag_p050
  simp only [T_pack_writer_tag_p050, Tr.val_c, Tr.val_r, val_opt, a, b, Option.bind_some, beq_self_eq_true, cond_true, List.append_assoc]
theorem element_eq (x : AV) (A : List AV) (h : A.length + (tagW x).length < CAP) : g_pack_writer_element_p050 (getI (getF x 0)) (getXs (getF x 1)) A = some (A ++ tagW x) := by
  unfold tagW at h ⊢
  rw [List.length_append] at h
  have a := ints_eq' [.int .i64 (getI (getF x 0))] A (by omega) (by simp)
  have b := texts_eq' [.str (bytesOf (getXs (getF x 1)))] (A ++ ints [.int .i64 (getI (getF x 0))]) (by rw [List.length_append]; omega) (by simp)
  unfold g_pack_writer_element_p050
  simp only [T_pack_writer_element_p050, Tr.val_c, Tr.val_r, val_opt, a, b, Option.bind_some, beq_self_eq_true, cond_true, List.append_assoc]
theorem pair_eq (x : AV) (A : List AV) (h : A.length + (pairW x).length < CAP) : g_pack_writer_pair_p050 (getS (getF x 0)) (getS (getF x 1)) A = some (A ++ pairW x) := by
  unfold pairW at h ⊢
  have b := texts_eq' [.str (getS (getF x 0)), .str (getS (getF x 1))] A h (by simp)
  unfold g_pack_writer_pair_p050
  simp only [T_pack_writer_pair_p050, Tr.val_c, Tr.val_r, val_opt, b, Option.bind_some, beq_self_eq_true, cond_true]

theorem listTag_eq (xs A : List AV) (h : A.length + (listW tagW xs).length < CAP) (hx : xs.length < CAP) : g_pack_list_api_Tag_p0ftag_50p50 xs A = some (A ++ listW tagW xs) := by
  have hc := h
  unfold listW at hc ⊢
  rw [List.length_append] at hc
  unfold CAP at hc hx
  have p0 := number4 (IntKind.u64.wrap (xs.length : Int)) A (by unfold CAP; omega)
  generalize hH : bex (IntKind.u64.wrap (xs.length : Int)) 4 = H at *
  unfold g_pack_list_api_Tag_p0ftag_50p50
  rw [run_inl (s := (A ++ H ++ (xs.take 0).flatMap tagW, ((0 : Nat) : Int))) (by simp [T_pack_list_api_Tag_p0ftag_50p50, Tr.val_c, Tr.val_r, val_opt, p0])]
  rw [run_count (step := M_pack_list_api_Tag_p0ftag_50p50 xs A) (f := fun i => (A ++ H ++ (xs.take i).flatMap tagW, (i : Int))) (n := xs.length) (fun i hi => by
    have q : (i : Int) < xs.length := by omega
    have q0 : (0 : Int) ≤ i := by omega
    have w : IntKind.i64.wrap ((i : Int) + 1) = ((i + 1 : Nat) : Int) := by rw [i64_wrap (by omega) (by omega)]; omega
    have e := flat_take tagW xs (.agg [.int .i64 0, .slice 1 (.int .u8) [] .ro]) hi
    have l := flat_take_len tagW xs (i + 1)
    rw [e, List.length_append] at l
    rw [e, ← List.append_assoc (A ++ H)]
    have p := tag_eq (xs.getD i (.agg [.int .i64 0, .slice 1 (.int .u8) [] .ro])) (A ++ H ++ (xs.take i).flatMap tagW) (by rw [List.length_append, List.length_append]; unfold CAP; omega)
    simp only [M_pack_list_api_Tag_p0ftag_50p50, Tr.val_c, Tr.val_r, val_opt, q, q0, w, p, Int.toNat_natCast, Option.bind_some, decide_true, beq_self_eq_true, cond_true])]
  have q : ¬ ((xs.length : Int) < xs.length) := by omega
  exact run_inr (by simp only [M_pack_list_api_Tag_p0ftag_50p50, Tr.val_c, Tr.val_r, q, flat_take_all, decide_false, beq_self_eq_true, cond_true, cond_false, List.append_assoc])

theorem listElement_eq (xs A : List AV) (h : A.length + (listW tagW xs).length < CAP) (hx : xs.length < CAP) : g_pack_list_api_Element_p0felement_50p50 xs A = some (A ++ listW tagW xs) := by
  have hc := h
  unfold listW at hc ⊢
  rw [List.length_append] at hc
  unfold CAP at hc hx
  have p0 := number4 (IntKind.u64.wrap (xs.length : Int)) A (by unfold CAP; omega)
  generalize hH : bex (IntKind.u64.wrap (xs.length : Int)) 4 = H at *
  unfold g_pack_list_api_Element_p0felement_50p50
  rw [run_inl (s := (A ++ H ++ (xs.take 0).flatMap tagW, ((0 : Nat) : Int))) (by simp [T_pack_list_api_Element_p0felement_50p50, Tr.val_c, Tr.val_r, val_opt, p0])]
  rw [run_count (step := M_pack_list_api_Element_p0felement_50p50 xs A) (f := fun i => (A ++ H ++ (xs.take i).flatMap tagW, (i : Int))) (n := xs.length) (fun i hi => by
    have q : (i : Int) < xs.length := by omega
    have q0 : (0 : Int) ≤ i := by omega
    have w : IntKind.i64.wrap ((i : Int) + 1) = ((i + 1 : Nat) : Int) := by rw [i64_wrap (by omega) (by omega)]; omega
    have e := flat_take tagW xs (.agg [.int .i64 0, .slice 1 (.int .u8) [] .ro]) hi
    have l := flat_take_len tagW xs (i + 1)
    rw [e, List.length_append] at l
    rw [e, ← List.append_assoc (A ++ H)]
    have p := element_eq (xs.getD i (.agg [.int .i64 0, .slice 1 (.int .u8) [] .ro])) (A ++ H ++ (xs.take i).flatMap tagW) (by rw [List.length_append, List.length_append]; unfold CAP; omega)
    simp only [M_pack_list_api_Element_p0felement_50p50, Tr.val_c, Tr.val_r, val_opt, q, q0, w, p, Int.toNat_natCast, Option.bind_some, decide_true, beq_self_eq_true, cond_true])]
  have q : ¬ ((xs.length : Int) < xs.length) := by omega
  exact run_inr (by simp only [M_pack_list_api_Element_p0felement_50p50, Tr.val_c, Tr.val_r, q, flat_take_all, decide_false, beq_self_eq_true, cond_true, cond_false, List.append_assoc])

theorem listPair_eq (xs A : List AV) (h : A.length + (listW pairW xs).length < CAP) (hx : xs.length < CAP) : g_pack_list_api_Pair_p0fpair_50p50 xs A = some (A ++ listW pairW xs) := by
  have hc := h
  unfold listW at hc ⊢
  rw [List.length_append] at hc
  unfold CAP at hc hx
  have p0 := number4 (IntKind.u64.wrap (xs.length : Int)) A (by unfold CAP; omega)
  generalize hH : bex (IntKind.u64.wrap (xs.length : Int)) 4 = H at *
  unfold g_pack_list_api_Pair_p0fpair_50p50
  rw [run_inl (s := (A ++ H ++ (xs.take 0).flatMap pairW, ((0 : Nat) : Int))) (by simp [T_pack_list_api_Pair_p0fpair_50p50, Tr.val_c, Tr.val_r, val_opt, p0])]
  rw [run_count (step := M_pack_list_api_Pair_p0fpair_50p50 xs A) (f := fun i => (A ++ H ++ (xs.take i).flatMap pairW, (i : Int))) (n := xs.length) (fun i hi => by
    have q : (i : Int) < xs.length := by omega
    have q0 : (0 : Int) ≤ i := by omega
    have w : IntKind.i64.wrap ((i : Int) + 1) = ((i + 1 : Nat) : Int) := by rw [i64_wrap (by omega) (by omega)]; omega
    have e := flat_take pairW xs (.agg [.str [], .str []]) hi
    have l := flat_take_len pairW xs (i + 1)
    rw [e, List.length_append] at l
    rw [e, ← List.append_assoc (A ++ H)]
    have p := pair_eq (xs.getD i (.agg [.str [], .str []])) (A ++ H ++ (xs.take i).flatMap pairW) (by rw [List.length_append, List.length_append]; unfold CAP; omega)
    simp only [M_pack_list_api_Pair_p0fpair_50p50, Tr.val_c, Tr.val_r, val_opt, q, q0, w, p, Int.toNat_natCast, Option.bind_some, decide_true, beq_self_eq_true, cond_true])]
  have q : ¬ ((xs.length : Int) < xs.length) := by omega
  exact run_inr (by simp only [M_pack_list_api_Pair_p0fpair_50p50, Tr.val_c, Tr.val_r, q, flat_take_all, decide_false, beq_self_eq_true, cond_true, cond_false, List.append_assoc])

def msgW (x0 : Int) (x1 : Int) (x2 : List UInt8) (x3 : List UInt8) (x4 : List UInt8) (x5 : List UInt8) (x6 : Int) (x7 : List UInt8) (x8 : List UInt8) (x9 : List UInt8) (x10 : List UInt8) (x11 : Int) (x12 : List UInt8) (x13 : List UInt8) (x14 : Int) (x15 : List UInt8) (x16 : List AV) (x17 : List UInt8) (x18 : List UInt8) (x19 : List AV) (x20 : List AV) : List AV := (ints [.int .i64 x0, .int .i64 x1]) ++ ((texts [.str x2, .str x3, .str x4, .str x5]) ++ ((bex x6 8) ++ ((texts [.str x7, .str x8, .str x9, .str x10]) ++ ((ints [.int .i64 x11]) ++ ((texts [.str x12, .str x13]) ++ ((ints [.int .i64 x14]) ++ ((texts [.str x15]) ++ ((listW tagW x16) ++ ((texts [.str x17, .str x18]) ++ ((listW pairW x19) ++ ((listW tagW x20))))))))))))
theorem msgW_eq (x0 : Int) (x1 : Int) (x2 : List UInt8) (x3 : List UInt8) (x4 : List UInt8) (x5 : List UInt8) (x6 : Int) (x7 : List UInt8) (x8 : List UInt8) (x9 : List UInt8) (x10 : List UInt8) (x11 : Int) (x12 : List UInt8) (x13 : List UInt8) (x14 : Int) (x15 : List UInt8) (x16 : List AV) (x17 : List UInt8) (x18 : List UInt8) (x19 : List AV) (x20 : List AV) (A : List AV) (h16 : x16.length < CAP) (h19 : x19.length < CAP) (h20 : x20.length < CAP) (h : A.length + (msgW x0 x1 x2 x3 x4 x5 x6 x7 x8 x9 x10 x11 x12 x13 x14 x15 x16 x17 x18 x19 x20).length < CAP) : g_pack_writer_message_p050 x0 x1 x2 x3 x4 x5 x6 x7 x8 x9 x10 x11 x12 x13 x14 x15 x16 x17 x18 x19 x20 A = some (A ++ msgW x0 x1 x2 x3 x4 x5 x6 x7 x8 x9 x10 x11 x12 x13 x14 x15 x16 x17 x18 x19 x20) := by
  unfold msgW at h ⊢
  simp only [List.length_append] at h
  have e0 := ints_eq' [.int .i64 x0, .int .i64 x1] (A) (by first | omega | (simp only [List.length_append]; omega)) (by simp)
  have e1 := texts_eq' [.str x2, .str x3, .str x4, .str x5] (A ++ (ints [.int .i64 x0, .int .i64 x1])) (by first | omega | (simp only [List.length_append]; omega)) (by simp)
  have e2 := number8 x6 ((A ++ (ints [.int .i64 x0, .int .i64 x1])) ++ (texts [.str x2, .str x3, .str x4, .str x5])) (by first | omega | (simp only [List.length_append]; omega))
  have e3 := texts_eq' [.str x7, .str x8, .str x9, .str x10] (((A ++ (ints [.int .i64 x0, .int .i64 x1])) ++ (texts [.str x2, .str x3, .str x4, .str x5])) ++ (bex x6 8)) (by first | omega | (simp only [List.length_append]; omega)) (by simp)
  have e4 := ints_eq' [.int .i64 x11] ((((A ++ (ints [.int .i64 x0, .int .i64 x1])) ++ (texts [.str x2, .str x3, .str x4, .str x5])) ++ (bex x6 8)) ++ (texts [.str x7, .str x8, .str x9, .str x10])) (by first | omega | (simp only [List.length_append]; omega)) (by simp)
  have e5 := texts_eq' [.str x12, .str x13] (((((A ++ (ints [.int .i64 x0, .int .i64 x1])) ++ (texts [.str x2, .str x3, .str x4, .str x5])) ++ (bex x6 8)) ++ (texts [.str x7, .str x8, .str x9, .str x10])) ++ (ints [.int .i64 x11])) (by first | omega | (simp only [List.length_append]; omega)) (by simp)
  have e6 := ints_eq' [.int .i64 x14] ((((((A ++ (ints [.int .i64 x0, .int .i64 x1])) ++ (texts [.str x2, .str x3, .str x4, .str x5])) ++ (bex x6 8)) ++ (texts [.str x7, .str x8, .str x9, .str x10])) ++ (ints [.int .i64 x11])) ++ (texts [.str x12, .str x13])) (by first | omega | (simp only [List.length_append]; omega)) (by simp)
  have e7 := texts_eq' [.str x15] (((((((A ++ (ints [.int .i64 x0, .int .i64 x1])) ++ (texts [.str x2, .str x3, .str x4, .str x5])) ++ (bex x6 8)) ++ (texts [.str x7, .str x8, .str x9, .str x10])) ++ (ints [.int .i64 x11])) ++ (texts [.str x12, .str x13])) ++ (ints [.int .i64 x14])) (by first | omega | (simp only [List.length_append]; omega)) (by simp)
  have e8 := listTag_eq x16 ((((((((A ++ (ints [.int .i64 x0, .int .i64 x1])) ++ (texts [.str x2, .str x3, .str x4, .str x5])) ++ (bex x6 8)) ++ (texts [.str x7, .str x8, .str x9, .str x10])) ++ (ints [.int .i64 x11])) ++ (texts [.str x12, .str x13])) ++ (ints [.int .i64 x14])) ++ (texts [.str x15])) (by first | omega | (simp only [List.length_append]; omega)) h16
  have e9 := texts_eq' [.str x17, .str x18] (((((((((A ++ (ints [.int .i64 x0, .int .i64 x1])) ++ (texts [.str x2, .str x3, .str x4, .str x5])) ++ (bex x6 8)) ++ (texts [.str x7, .str x8, .str x9, .str x10])) ++ (ints [.int .i64 x11])) ++ (texts [.str x12, .str x13])) ++ (ints [.int .i64 x14])) ++ (texts [.str x15])) ++ (listW tagW x16)) (by first | omega | (simp only [List.length_append]; omega)) (by simp)
  have e10 := listPair_eq x19 ((((((((((A ++ (ints [.int .i64 x0, .int .i64 x1])) ++ (texts [.str x2, .str x3, .str x4, .str x5])) ++ (bex x6 8)) ++ (texts [.str x7, .str x8, .str x9, .str x10])) ++ (ints [.int .i64 x11])) ++ (texts [.str x12, .str x13])) ++ (ints [.int .i64 x14])) ++ (texts [.str x15])) ++ (listW tagW x16)) ++ (texts [.str x17, .str x18])) (by first | omega | (simp only [List.length_append]; omega)) h19
  have e11 := listElement_eq x20 (((((((((((A ++ (ints [.int .i64 x0, .int .i64 x1])) ++ (texts [.str x2, .str x3, .str x4, .str x5])) ++ (bex x6 8)) ++ (texts [.str x7, .str x8, .str x9, .str x10])) ++ (ints [.int .i64 x11])) ++ (texts [.str x12, .str x13])) ++ (ints [.int .i64 x14])) ++ (texts [.str x15])) ++ (listW tagW x16)) ++ (texts [.str x17, .str x18])) ++ (listW pairW x19)) (by first | omega | (simp only [List.length_append]; omega)) h20
  unfold g_pack_writer_message_p050
  simp only [T_pack_writer_message_p050, Tr.val_c, Tr.val_r, val_opt, e0, e1, e2, e3, e4, e5, e6, e7, e8, e9, e10, e11, Option.bind_some, beq_self_eq_true, cond_true]
  simp only [List.append_assoc]

def resW (x0 : List UInt8) (x1 : List UInt8) (x2 : List UInt8) (x3 : List AV) (x4 : List AV) : List AV := (texts [.str x0, .str x1, .str x2]) ++ ((listW pairW x3) ++ ((listW tagW x4)))
theorem resW_eq (x0 : List UInt8) (x1 : List UInt8) (x2 : List UInt8) (x3 : List AV) (x4 : List AV) (A : List AV) (h3 : x3.length < CAP) (h4 : x4.length < CAP) (h : A.length + (resW x0 x1 x2 x3 x4).length < CAP) : g_pack_writer_residue_p050 x0 x1 x2 x3 x4 A = some (A ++ resW x0 x1 x2 x3 x4) := by
  unfold resW at h ⊢
  simp only [List.length_append] at h
  have e0 := texts_eq' [.str x0, .str x1, .str x2] (A) (by first | omega | (simp only [List.length_append]; omega)) (by simp)
  have e1 := listPair_eq x3 (A ++ (texts [.str x0, .str x1, .str x2])) (by first | omega | (simp only [List.length_append]; omega)) h3
  have e2 := listElement_eq x4 ((A ++ (texts [.str x0, .str x1, .str x2])) ++ (listW pairW x3)) (by first | omega | (simp only [List.length_append]; omega)) h4
  unfold g_pack_writer_residue_p050
  simp only [T_pack_writer_residue_p050, Tr.val_c, Tr.val_r, val_opt, e0, e1, e2, Option.bind_some, beq_self_eq_true, cond_true]
  simp only [List.append_assoc]

def deedP (x0 : Int) (x1 : Int) (x2 : Int) (x3 : Int) (x4 : Int) (x5 : Int) (x6 : Int) (x7 : Int) (x8 : Int) (x9 : Int) (x10 : Int) (x11 : Int) (x12 : List UInt8) (x13 : List UInt8) (x14 : List UInt8) (x15 : List UInt8) (x16 : Int) (x17 : List UInt8) (x18 : List UInt8) (x19 : List UInt8) (x20 : List UInt8) (x21 : Int) (x22 : List UInt8) (x23 : List UInt8) (x24 : Int) (x25 : List UInt8) (x26 : List AV) (x27 : List UInt8) (x28 : List UInt8) (x29 : List AV) (x30 : List AV) (x31 : Int) (x32 : Int) (x33 : List UInt8) (x34 : List UInt8) (x35 : List UInt8) (x36 : List AV) (x37 : List AV) : List AV := .int .u8 (IntKind.u8.wrap x0) :: (if x0 = 1 then bex x1 8 else if x0 = 2 then ints [.int .i64 x2, .int .i64 x3] else if x0 = 3 then ints [.int .i64 x4, .int .i64 x5, .int .i64 x6, .int .i64 x7, .int .i64 x8] ++ (bex x9 8 ++ msgW x10 x11 x12 x13 x14 x15 x16 x17 x18 x19 x20 x21 x22 x23 x24 x25 x26 x27 x28 x29 x30)
  else if x0 = 4 ∨ x0 = 6 then ints [.int .i64 x2] else if x0 = 5 then ints [.int .i64 x31] ++ (bex x32 8 ++ resW x33 x34 x35 x36 x37) else [])
theorem deedP_eq (x0 : Int) (x1 : Int) (x2 : Int) (x3 : Int) (x4 : Int) (x5 : Int) (x6 : Int) (x7 : Int) (x8 : Int) (x9 : Int) (x10 : Int) (x11 : Int) (x12 : List UInt8) (x13 : List UInt8) (x14 : List UInt8) (x15 : List UInt8) (x16 : Int) (x17 : List UInt8) (x18 : List UInt8) (x19 : List UInt8) (x20 : List UInt8) (x21 : Int) (x22 : List UInt8) (x23 : List UInt8) (x24 : Int) (x25 : List UInt8) (x26 : List AV) (x27 : List UInt8) (x28 : List UInt8) (x29 : List AV) (x30 : List AV) (x31 : Int) (x32 : Int) (x33 : List UInt8) (x34 : List UInt8) (x35 : List UInt8) (x36 : List AV) (x37 : List AV) (A : List AV) (h26 : x26.length < CAP) (h29 : x29.length < CAP) (h30 : x30.length < CAP) (h36 : x36.length < CAP) (h37 : x37.length < CAP) (h : A.length + (deedP x0 x1 x2 x3 x4 x5 x6 x7 x8 x9 x10 x11 x12 x13 x14 x15 x16 x17 x18 x19 x20 x21 x22 x23 x24 x25 x26 x27 x28 x29 x30 x31 x32 x33 x34 x35 x36 x37).length < CAP) : g_pack_writer_deed_p050 x0 x1 x2 x3 x4 x5 x6 x7 x8 x9 x10 x11 x12 x13 x14 x15 x16 x17 x18 x19 x20 x21 x22 x23 x24 x25 x26 x27 x28 x29 x30 x31 x32 x33 x34 x35 x36 x37 A = some (A ++ deedP x0 x1 x2 x3 x4 x5 x6 x7 x8 x9 x10 x11 x12 x13 x14 x15 x16 x17 x18 x19 x20 x21 x22 x23 x24 x25 x26 x27 x28 x29 x30 x31 x32 x33 x34 x35 x36 x37) := by
  unfold deedP at h ⊢
  have hA : ((A ++ [AV.int .u8 (IntKind.u8.wrap x0)]).length * 2 < 70368744177664) := by
    simp only [List.length_append, List.length_cons, List.length_nil] at h ⊢; unfold CAP at h; omega
  have e : ∀ X : List AV, A ++ (AV.int .u8 (IntKind.u8.wrap x0) :: X) = (A ++ [AV.int .u8 (IntKind.u8.wrap x0)]) ++ X := fun X => by simp
  rw [e]
  have h' : ∀ X : List AV, A.length + (AV.int .u8 (IntKind.u8.wrap x0) :: X).length < CAP → (A ++ [AV.int .u8 (IntKind.u8.wrap x0)]).length + X.length < CAP := fun X hX => by
    simp only [List.length_append, List.length_cons, List.length_nil] at hX ⊢; omega
  replace h := h' _ h
  generalize hZ : A ++ [AV.int .u8 (IntKind.u8.wrap x0)] = Z at *
  unfold g_pack_writer_deed_p050
  by_cases k1 : x0 = 1
  · have b1 : (x0 == 1) = true := by rw [beq_iff_eq]; exact k1
    rw [if_pos k1] at h ⊢
    have a := number8 x1 Z (by omega)
    simp only [T_pack_writer_deed_p050, Tr.val_c, Tr.val_r, val_opt, hZ, hA, b1, a, Option.bind_some, decide_true, beq_self_eq_true, cond_true]
  have b1 : (x0 == 1) = false := by rw [beq_eq_false_iff_ne]; exact k1
  rw [if_neg k1] at h ⊢
  by_cases k2 : x0 = 2
  · have b2 : (x0 == 2) = true := by rw [beq_iff_eq]; exact k2
    rw [if_pos k2] at h ⊢
    have a := ints_eq' [.int .i64 x2, .int .i64 x3] Z h (by simp)
    simp only [T_pack_writer_deed_p050, Tr.val_c, Tr.val_r, val_opt, hZ, hA, b1, b2, a, Option.bind_some, decide_true, beq_self_eq_true, cond_true, cond_false]
  have b2 : (x0 == 2) = false := by rw [beq_eq_false_iff_ne]; exact k2
  rw [if_neg k2] at h ⊢
  by_cases k3 : x0 = 3
  · have b3 : (x0 == 3) = true := by rw [beq_iff_eq]; exact k3
    rw [if_pos k3] at h ⊢
    simp only [List.length_append] at h
    have a := ints_eq' [.int .i64 x4, .int .i64 x5, .int .i64 x6, .int .i64 x7, .int .i64 x8] Z (by omega) (by simp)
    have b := number8 x9 (Z ++ ints [.int .i64 x4, .int .i64 x5, .int .i64 x6, .int .i64 x7, .int .i64 x8]) (by simp only [List.length_append]; omega)
    have c := msgW_eq x10 x11 x12 x13 x14 x15 x16 x17 x18 x19 x20 x21 x22 x23 x24 x25 x26 x27 x28 x29 x30 ((Z ++ ints [.int .i64 x4, .int .i64 x5, .int .i64 x6, .int .i64 x7, .int .i64 x8]) ++ bex x9 8) h26 h29 h30 (by simp only [List.length_append]; omega)
    simp only [T_pack_writer_deed_p050, Tr.val_c, Tr.val_r, val_opt, hZ, hA, b1, b2, b3, a, b, c, Option.bind_some, decide_true, beq_self_eq_true, cond_true, cond_false]
    simp only [List.append_assoc]
  have b3 : (x0 == 3) = false := by rw [beq_eq_false_iff_ne]; exact k3
  rw [if_neg k3] at h ⊢
  by_cases k4 : x0 = 4
  · have b4 : (x0 == 4) = true := by rw [beq_iff_eq]; exact k4
    rw [if_pos (.inl k4)] at h ⊢
    have a := ints_eq' [.int .i64 x2] Z h (by simp)
    simp only [T_pack_writer_deed_p050, Tr.val_c, Tr.val_r, val_opt, hZ, hA, b1, b2, b3, b4, a, Option.bind_some, decide_true, beq_self_eq_true, cond_true, cond_false]
  have b4 : (x0 == 4) = false := by rw [beq_eq_false_iff_ne]; exact k4
  by_cases k6 : x0 = 6
  · have b6 : (x0 == 6) = true := by rw [beq_iff_eq]; exact k6
    rw [if_pos (.inr k6)] at h ⊢
    have a := ints_eq' [.int .i64 x2] Z h (by simp)
    simp only [T_pack_writer_deed_p050, Tr.val_c, Tr.val_r, val_opt, hZ, hA, b1, b2, b3, b4, b6, a, Option.bind_some, decide_true, beq_self_eq_true, cond_true, cond_false]
  have b6 : (x0 == 6) = false := by rw [beq_eq_false_iff_ne]; exact k6
  rw [if_neg (by rintro (hh | hh); exact k4 hh; exact k6 hh)] at h ⊢
  by_cases k5 : x0 = 5
  · have b5 : (x0 == 5) = true := by rw [beq_iff_eq]; exact k5
    rw [if_pos k5] at h ⊢
    simp only [List.length_append] at h
    have a := ints_eq' [.int .i64 x31] Z (by omega) (by simp)
    have b := number8 x32 (Z ++ ints [.int .i64 x31]) (by simp only [List.length_append]; omega)
    have c := resW_eq x33 x34 x35 x36 x37 ((Z ++ ints [.int .i64 x31]) ++ bex x32 8) h36 h37 (by simp only [List.length_append]; omega)
    simp only [T_pack_writer_deed_p050, Tr.val_c, Tr.val_r, val_opt, hZ, hA, b1, b2, b3, b4, b5, b6, a, b, c, Option.bind_some, decide_true, beq_self_eq_true, cond_true, cond_false]
    simp only [List.append_assoc]
  have b5 : (x0 == 5) = false := by rw [beq_eq_false_iff_ne]; exact k5
  rw [if_neg k5] at h ⊢
  simp only [T_pack_writer_deed_p050, Tr.val_c, Tr.val_r, val_opt, hZ, hA, b1, b2, b3, b4, b5, b6, Option.bind_some, decide_true, beq_self_eq_true, cond_true, cond_false, List.append_nil]

def deedW (x : AV) : List AV := deedP (getI (getF x 0)) (getI (getF x 1)) (getI (getF x 2)) (getI (getF x 3)) (getI (getF x 4)) (getI (getF x 5)) (getI (getF x 6)) (getI (getF x 7)) (getI (getF x 8)) (getI (getF x 9)) (getI (getF x 10)) (getI (getF x 11)) (getS (getF x 12)) (getS (getF x 13)) (getS (getF x 14)) (getS (getF x 15)) (getI (getF x 16)) (getS (getF x 17)) (getS (getF x 18)) (getS (getF x 19)) (getS (getF x 20)) (getI (getF x 21)) (getS (getF x 22)) (getS (getF x 23)) (getI (getF x 24)) (getS (getF x 25)) (getXs (getF x 26)) (getS (getF x 27)) (getS (getF x 28)) (getXs (getF x 29)) (getXs (getF x 30)) (getI (getF x 31)) (getI (getF x 32)) (getS (getF x 33)) (getS (getF x 34)) (getS (getF x 35)) (getXs (getF x 36)) (getXs (getF x 37))
def noDeed : AV := .agg [.int .i64 0, .int .u64 0, .int .i64 0, .int .i64 0, .int .i64 0, .int .i64 0, .int .i64 0, .int .i64 0, .int .i64 0, .int .u64 0, .int .i64 0, .int .i64 0, .str [], .str [], .str [], .str [], .int .u64 0, .str [], .str [], .str [], .str [], .int .i64 0, .str [], .str [], .int .i64 0, .str [], .slice 2 (.agg [.int .i64, .slice 1 (.int .u8)]) [] .ro, .str [], .str [], .slice 2 (.agg [.str, .str]) [] .ro, .slice 2 (.agg [.int .i64, .slice 1 (.int .u8)]) [] .ro, .int .i64 0, .int .u64 0, .str [], .str [], .str [], .slice 2 (.agg [.str, .str]) [] .ro, .slice 2 (.agg [.int .i64, .slice 1 (.int .u8)]) [] .ro]
/-- What deeds are packed as. -/
theorem Deeds_eq (L : List AV) (hL : L.length < CAP) (hf : ∀ x ∈ L, (getXs (getF x 26)).length < CAP ∧ (getXs (getF x 29)).length < CAP ∧ (getXs (getF x 30)).length < CAP ∧ (getXs (getF x 36)).length < CAP ∧ (getXs (getF x 37)).length < CAP) (h : (L.flatMap deedW).length < CAP) : g_pack_Deeds L = some (L.flatMap deedW) := by
  unfold g_pack_Deeds
  rw [run_inl (s := (((0 : Nat) : Int), (L.take 0).flatMap deedW)) (by simp [T_pack_Deeds, Tr.val_r])]
  have hL2 : L.length < 1099511627776 := hL
  rw [run_count (step := M_pack_Deeds L) (f := fun i => ((i : Int), (L.take i).flatMap deedW)) (n := L.length) (fun i hi => by
    have q : (i : Int) < L.length := by omega
    have q0 : (0 : Int) ≤ i := by omega
    have w : IntKind.i64.wrap ((i : Int) + 1) = ((i + 1 : Nat) : Int) := by rw [i64_wrap (by omega) (by omega)]; omega
    have e := flat_take deedW L noDeed hi
    have l := flat_take_len deedW L (i + 1)
    rw [e, List.length_append] at l
    have hm : L.getD i noDeed ∈ L := by rw [List.getD_eq_getElem?_getD, List.getElem?_eq_getElem hi]; exact List.getElem_mem hi
    obtain ⟨f1, f2, f3, f4, f5⟩ := hf _ hm
    have p : ∀ x, L.getD i noDeed = x → g_pack_writer_deed_p050 (getI (getF x 0)) (getI (getF x 1)) (getI (getF x 2)) (getI (getF x 3)) (getI (getF x 4)) (getI (getF x 5)) (getI (getF x 6)) (getI (getF x 7)) (getI (getF x 8)) (getI (getF x 9)) (getI (getF x 10)) (getI (getF x 11)) (getS (getF x 12)) (getS (getF x 13)) (getS (getF x 14)) (getS (getF x 15)) (getI (getF x 16)) (getS (getF x 17)) (getS (getF x 18)) (getS (getF x 19)) (getS (getF x 20)) (getI (getF x 21)) (getS (getF x 22)) (getS (getF x 23)) (getI (getF x 24)) (getS (getF x 25)) (getXs (getF x 26)) (getS (getF x 27)) (getS (getF x 28)) (getXs (getF x 29)) (getXs (getF x 30)) (getI (getF x 31)) (getI (getF x 32)) (getS (getF x 33)) (getS (getF x 34)) (getS (getF x 35)) (getXs (getF x 36)) (getXs (getF x 37)) ((L.take i).flatMap deedW) = some ((L.take i).flatMap deedW ++ deedW x) := fun x hx => by
      subst hx
      exact deedP_eq _ _ _ _ _ _ _ _ _ _ _ _ _ _ _ _ _ _ _ _ _ _ _ _ _ _ _ _ _ _ _ _ _ _ _ _ _ _ _ f1 f2 f3 f4 f5 (by unfold deedW at l h ⊢; omega)
    have p := p _ rfl
    rw [e]
    simp only [M_pack_Deeds, Tr.val_c, Tr.val_r, val_opt, q, q0, w, Int.toNat_natCast, decide_true, beq_self_eq_true, cond_true]
    erw [p]
    rfl)]
  have q : ¬ ((L.length : Int) < L.length) := by omega
  have cl : (L.flatMap deedW).length * 2 < 70368744177664 := by unfold CAP at h; omega
  exact run_inr (by simp only [M_pack_Deeds, Tr.val_c, Tr.val_r, q, cl, flat_take_all, decide_true, decide_false, beq_self_eq_true, Bool.and_self, Bool.true_and, cond_true, cond_false])

theorem rnum (n : Int) (A : List AV) (k : Nat) (h1 : 1 ≤ n) (h8 : n ≤ 8) (hk : (k : Int) + n ≤ A.length) (hA : A.length < CAP) : g_pack_reader_number_p05p0 n 0 A k = some (numOf ((A.drop k).take n.toNat), 0, A, (k : Int) + n) := by
  unfold CAP at hA
  have p := Number_eq n A k (by omega) (by omega)
  rw [if_neg (by omega), if_neg (by omega), if_neg (by omega)] at p
  unfold g_pack_reader_number_p05p0
  simp only [T_pack_reader_number_p05p0, Tr.val_c, Tr.val_r, val_opt, p, bne_self_eq_false, Option.bind_some, cond_false]
def oneDeed : AV := .agg [.int .i64 1, .int .u64 5, .int .i64 0, .int .i64 0, .int .i64 0, .int .i64 0, .int .i64 0, .int .i64 0, .int .i64 0, .int .u64 0, .int .i64 0, .int .i64 0, .str [], .str [], .str [], .str [], .int .u64 0, .str [], .str [], .str [], .str [], .int .i64 0, .str [], .str [], .int .i64 0, .str [], .slice 2 (.agg [.int .i64, .slice 1 (.int .u8)]) [] .ro, .str [], .str [], .slice 2 (.agg [.str, .str]) [] .ro, .slice 2 (.agg [.int .i64, .slice 1 (.int .u8)]) [] .ro, .int .i64 0, .int .u64 0, .str [], .str [], .str [], .slice 2 (.agg [.str, .str]) [] .ro, .slice 2 (.agg [.int .i64, .slice 1 (.int .u8)]) [] .ro]
def oneB : List AV := [.int .u8 1, .int .u8 0, .int .u8 0, .int .u8 0, .int .u8 0, .int .u8 0, .int .u8 0, .int .u8 0, .int .u8 5]
theorem awake21 : g_comptoirlaw21_awake = some true := by
  have e : [oneDeed].flatMap deedW = oneB := by kernel_rfl
  have d := Deeds_eq [oneDeed] (by unfold CAP; simp) (fun x hx => by
    simp only [List.mem_singleton] at hx
    subst hx
    have : (getXs (getF oneDeed 26)) = [] ∧ (getXs (getF oneDeed 29)) = [] ∧ (getXs (getF oneDeed 30)) = [] ∧ (getXs (getF oneDeed 36)) = [] ∧ (getXs (getF oneDeed 37)) = [] := ⟨rfl, rfl, rfl, rfl, rfl⟩
    obtain ⟨a, b, c, d, f⟩ := this
    rw [a, b, c, d, f]
    unfold CAP; simp) (by rw [e]; unfold CAP oneB; simp)
  rw [e] at d
  have d' : g_pack_Deeds [oneDeed] = some oneB := d
  have nw := New_eq oneB (by unfold oneB; simp)
  have n1 := rnum 1 oneB 0 (by omega) (by omega) (by unfold oneB; simp) (by unfold oneB CAP; simp)
  have n8 := rnum 8 oneB 1 (by omega) (by omega) (by unfold oneB; simp) (by unfold oneB CAP; simp)
  have v1 : numOf ((oneB.drop 0).take (1 : Int).toNat) = 1 := by kernel_rfl
  have v8 : numOf ((oneB.drop 1).take (8 : Int).toNat) = 5 := by kernel_rfl
  rw [v1] at n1
  rw [v8] at n8
  have n1' : g_pack_reader_number_p05p0 1 0 oneB 0 = some (1, 0, oneB, 1) := n1
  have n8' : g_pack_reader_number_p05p0 8 0 oneB 1 = some (5, 0, oneB, 9) := n8
  have w1 : IntKind.i64.wrap 1 = 1 := by kernel_rfl
  have b1 : ((1 : Int) == 1) = true := rfl
  obtain ⟨D, hD⟩ : ∃ D, D = g_pack_reader_deed_p5p0 0 oneB 0 := ⟨_, rfl⟩
  have hD2 := hD
  unfold g_pack_reader_deed_p5p0 at hD2
  simp only [T_pack_reader_deed_p5p0, Tr.val_c, Tr.val_r, val_opt, n1', n8', w1, b1, Option.bind_some, cond_true] at hD2
  have hlen : (oneB.length : Int) = 9 := rfl
  have g9 : IntKind.i64.wrap ((9 : Int) - 0) > 0 := by
    have : IntKind.i64.wrap ((9 : Int) - 0) = 9 := by kernel_rfl
    rw [this]; omega
  have g0 : ¬ (IntKind.i64.wrap ((9 : Int) - 9) > 0) := by
    have : IntKind.i64.wrap ((9 : Int) - 9) = 0 := by kernel_rfl
    rw [this]; omega
  have pr : g_pack_Parse oneB = some ([oneDeed], 0) := by
    unfold g_pack_Parse
    rw [run_inl (s := (oneB, 0, 0, [])) (by simp only [T_pack_Parse, Tr.val_r, val_opt, nw, Option.bind_some])]
    rw [run_inl (s := (oneB, 9, 0, [oneDeed])) (by
      simp only [M_pack_Parse, Tr.val_c, Tr.val_r, val_opt, hlen, g9, ← hD, hD2, Option.bind_some, decide_true, cond_true]
      rfl)]
    exact run_inr (by simp only [M_pack_Parse, Tr.val_c, Tr.val_r, hlen, g0, decide_false, beq_self_eq_true, cond_true, cond_false])
  unfold g_comptoirlaw21_awake
  have l1 : ((([oneDeed] : List AV).length : Int) == 1) = true := rfl
  simp only [T_comptoirlaw21_awake, Tr.val_c, Tr.val_r, val_opt]
  erw [d']
  simp only [Option.bind_some, pr]
  rfl

theorem smallA (x0 : Int) (x1 : Int) (x2 : List UInt8) (x3 : List UInt8) (x4 : List UInt8) (x5 : List UInt8) (x6 : Int) (x7 : List UInt8) (x8 : List UInt8) (x9 : List UInt8) (x10 : List UInt8) (x11 : Int) (x12 : List UInt8) (x13 : List UInt8) (x14 : Int) (x15 : List UInt8) (x16 : List AV) (x17 : List UInt8) (x18 : List UInt8) (x19 : List AV) (x20 : List AV) (h : x16.length < CAP) : ∀ (m i : Nat) (n : Int), i + m = x16.length → ∃ n', run (M_comptoirplay_Small x0 x1 x2 x3 x4 x5 x6 x7 x8 x9 x10 x11 x12 x13 x14 x15 x16 x17 x18 x19 x20) (M_comptoirplay_Small x0 x1 x2 x3 x4 x5 x6 x7 x8 x9 x10 x11 x12 x13 x14 x15 x16 x17 x18 x19 x20 (.inl (n, (i : Int)))) = run (M_comptoirplay_Small x0 x1 x2 x3 x4 x5 x6 x7 x8 x9 x10 x11 x12 x13 x14 x15 x16 x17 x18 x19 x20) (M_comptoirplay_Small x0 x1 x2 x3 x4 x5 x6 x7 x8 x9 x10 x11 x12 x13 x14 x15 x16 x17 x18 x19 x20 (.inl (n', (x16.length : Int))))
  | 0, i, n, hi => ⟨n, by rw [show i = x16.length by omega]⟩
  | m + 1, i, n, hi => by
    have q : (i : Int) < x16.length := by omega
    have q0 : (0 : Int) ≤ i := by omega
    have w : IntKind.i64.wrap ((i : Int) + 1) = ((i + 1 : Nat) : Int) := by unfold CAP at h; rw [i64_wrap (by omega) (by omega)]; omega
    have s : ∃ n1, (M_comptoirplay_Small x0 x1 x2 x3 x4 x5 x6 x7 x8 x9 x10 x11 x12 x13 x14 x15 x16 x17 x18 x19 x20 (.inl (n, (i : Int)))).val = some (.inl (.inl (n1, ((i + 1 : Nat) : Int)))) := by
      simp only [M_comptoirplay_Small, Tr.val_c, Tr.val_r, q, q0, w, decide_true, cond_true]
      exact ⟨_, rfl⟩
    obtain ⟨n1, s⟩ := s
    obtain ⟨n', hn⟩ := smallA x0 x1 x2 x3 x4 x5 x6 x7 x8 x9 x10 x11 x12 x13 x14 x15 x16 x17 x18 x19 x20 h m (i + 1) n1 (by omega)
    exact ⟨n', by rw [run_inl s]; exact hn⟩

theorem smallB (x0 : Int) (x1 : Int) (x2 : List UInt8) (x3 : List UInt8) (x4 : List UInt8) (x5 : List UInt8) (x6 : Int) (x7 : List UInt8) (x8 : List UInt8) (x9 : List UInt8) (x10 : List UInt8) (x11 : Int) (x12 : List UInt8) (x13 : List UInt8) (x14 : Int) (x15 : List UInt8) (x16 : List AV) (x17 : List UInt8) (x18 : List UInt8) (x19 : List AV) (x20 : List AV) (h : x19.length < CAP) : ∀ (m i : Nat) (n : Int), i + m = x19.length → ∃ n', run (M_comptoirplay_Small x0 x1 x2 x3 x4 x5 x6 x7 x8 x9 x10 x11 x12 x13 x14 x15 x16 x17 x18 x19 x20) (M_comptoirplay_Small x0 x1 x2 x3 x4 x5 x6 x7 x8 x9 x10 x11 x12 x13 x14 x15 x16 x17 x18 x19 x20 (.inr (.inl (n, (i : Int))))) = run (M_comptoirplay_Small x0 x1 x2 x3 x4 x5 x6 x7 x8 x9 x10 x11 x12 x13 x14 x15 x16 x17 x18 x19 x20) (M_comptoirplay_Small x0 x1 x2 x3 x4 x5 x6 x7 x8 x9 x10 x11 x12 x13 x14 x15 x16 x17 x18 x19 x20 (.inr (.inl (n', (x19.length : Int)))))
  | 0, i, n, hi => ⟨n, by rw [show i = x19.length by omega]⟩
  | m + 1, i, n, hi => by
    have q : (i : Int) < x19.length := by omega
    have q0 : (0 : Int) ≤ i := by omega
    have w : IntKind.i64.wrap ((i : Int) + 1) = ((i + 1 : Nat) : Int) := by unfold CAP at h; rw [i64_wrap (by omega) (by omega)]; omega
    have s : ∃ n1, (M_comptoirplay_Small x0 x1 x2 x3 x4 x5 x6 x7 x8 x9 x10 x11 x12 x13 x14 x15 x16 x17 x18 x19 x20 (.inr (.inl (n, (i : Int))))).val = some (.inl (.inr (.inl (n1, ((i + 1 : Nat) : Int))))) := by
      simp only [M_comptoirplay_Small, Tr.val_c, Tr.val_r, q, q0, w, decide_true, cond_true]
      exact ⟨_, rfl⟩
    obtain ⟨n1, s⟩ := s
    obtain ⟨n', hn⟩ := smallB x0 x1 x2 x3 x4 x5 x6 x7 x8 x9 x10 x11 x12 x13 x14 x15 x16 x17 x18 x19 x20 h m (i + 1) n1 (by omega)
    exact ⟨n', by rw [run_inl s]; exact hn⟩

theorem smallC (x0 : Int) (x1 : Int) (x2 : List UInt8) (x3 : List UInt8) (x4 : List UInt8) (x5 : List UInt8) (x6 : Int) (x7 : List UInt8) (x8 : List UInt8) (x9 : List UInt8) (x10 : List UInt8) (x11 : Int) (x12 : List UInt8) (x13 : List UInt8) (x14 : Int) (x15 : List UInt8) (x16 : List AV) (x17 : List UInt8) (x18 : List UInt8) (x19 : List AV) (x20 : List AV) (h : x20.length < CAP) : ∀ (m i : Nat) (n : Int), i + m = x20.length → ∃ n', run (M_comptoirplay_Small x0 x1 x2 x3 x4 x5 x6 x7 x8 x9 x10 x11 x12 x13 x14 x15 x16 x17 x18 x19 x20) (M_comptoirplay_Small x0 x1 x2 x3 x4 x5 x6 x7 x8 x9 x10 x11 x12 x13 x14 x15 x16 x17 x18 x19 x20 (.inr (.inr (n, (i : Int))))) = run (M_comptoirplay_Small x0 x1 x2 x3 x4 x5 x6 x7 x8 x9 x10 x11 x12 x13 x14 x15 x16 x17 x18 x19 x20) (M_comptoirplay_Small x0 x1 x2 x3 x4 x5 x6 x7 x8 x9 x10 x11 x12 x13 x14 x15 x16 x17 x18 x19 x20 (.inr (.inr (n', (x20.length : Int)))))
  | 0, i, n, hi => ⟨n, by rw [show i = x20.length by omega]⟩
  | m + 1, i, n, hi => by
    have q : (i : Int) < x20.length := by omega
    have q0 : (0 : Int) ≤ i := by omega
    have w : IntKind.i64.wrap ((i : Int) + 1) = ((i + 1 : Nat) : Int) := by unfold CAP at h; rw [i64_wrap (by omega) (by omega)]; omega
    have s : ∃ n1, (M_comptoirplay_Small x0 x1 x2 x3 x4 x5 x6 x7 x8 x9 x10 x11 x12 x13 x14 x15 x16 x17 x18 x19 x20 (.inr (.inr (n, (i : Int))))).val = some (.inl (.inr (.inr (n1, ((i + 1 : Nat) : Int))))) := by
      simp only [M_comptoirplay_Small, Tr.val_c, Tr.val_r, q, q0, w, decide_true, cond_true]
      exact ⟨_, rfl⟩
    obtain ⟨n1, s⟩ := s
    obtain ⟨n', hn⟩ := smallC x0 x1 x2 x3 x4 x5 x6 x7 x8 x9 x10 x11 x12 x13 x14 x15 x16 x17 x18 x19 x20 h m (i + 1) n1 (by omega)
    exact ⟨n', by rw [run_inl s]; exact hn⟩

theorem small_total (x0 : Int) (x1 : Int) (x2 : List UInt8) (x3 : List UInt8) (x4 : List UInt8) (x5 : List UInt8) (x6 : Int) (x7 : List UInt8) (x8 : List UInt8) (x9 : List UInt8) (x10 : List UInt8) (x11 : Int) (x12 : List UInt8) (x13 : List UInt8) (x14 : Int) (x15 : List UInt8) (x16 : List AV) (x17 : List UInt8) (x18 : List UInt8) (x19 : List AV) (x20 : List AV) (h1 : x16.length < CAP) (h2 : x19.length < CAP) (h3 : x20.length < CAP) : ∃ b, g_comptoirplay_Small x0 x1 x2 x3 x4 x5 x6 x7 x8 x9 x10 x11 x12 x13 x14 x15 x16 x17 x18 x19 x20 = some b := by
  have e1 : ∃ n, (T_comptoirplay_Small x0 x1 x2 x3 x4 x5 x6 x7 x8 x9 x10 x11 x12 x13 x14 x15 x16 x17 x18 x19 x20).val = some (.inl (.inl (n, ((0 : Nat) : Int)))) := ⟨_, rfl⟩
  obtain ⟨n, e1⟩ := e1
  obtain ⟨n1, a⟩ := smallA x0 x1 x2 x3 x4 x5 x6 x7 x8 x9 x10 x11 x12 x13 x14 x15 x16 x17 x18 x19 x20 h1 x16.length 0 n (by omega)
  have q1 : ¬ ((x16.length : Int) < x16.length) := by omega
  have e2 : (M_comptoirplay_Small x0 x1 x2 x3 x4 x5 x6 x7 x8 x9 x10 x11 x12 x13 x14 x15 x16 x17 x18 x19 x20 (.inl (n1, (x16.length : Int)))).val = some (.inl (.inr (.inl (n1, ((0 : Nat) : Int))))) := by
    simp only [M_comptoirplay_Small, Tr.val_c, Tr.val_r, q1, decide_false, cond_false]; rfl
  obtain ⟨n2, b⟩ := smallB x0 x1 x2 x3 x4 x5 x6 x7 x8 x9 x10 x11 x12 x13 x14 x15 x16 x17 x18 x19 x20 h2 x19.length 0 n1 (by omega)
  have q2 : ¬ ((x19.length : Int) < x19.length) := by omega
  have e3 : (M_comptoirplay_Small x0 x1 x2 x3 x4 x5 x6 x7 x8 x9 x10 x11 x12 x13 x14 x15 x16 x17 x18 x19 x20 (.inr (.inl (n2, (x19.length : Int))))).val = some (.inl (.inr (.inr (n2, ((0 : Nat) : Int))))) := by
    simp only [M_comptoirplay_Small, Tr.val_c, Tr.val_r, q2, decide_false, cond_false]; rfl
  obtain ⟨n3, c⟩ := smallC x0 x1 x2 x3 x4 x5 x6 x7 x8 x9 x10 x11 x12 x13 x14 x15 x16 x17 x18 x19 x20 h3 x20.length 0 n2 (by omega)
  have q3 : ¬ ((x20.length : Int) < x20.length) := by omega
  refine ⟨decide (n3 ≤ 4000), ?_⟩
  unfold g_comptoirplay_Small
  rw [run_inl e1, a, run_inl e2, b, run_inl e3, c]
  exact run_inr (by simp only [M_comptoirplay_Small, Tr.val_c, Tr.val_r, q3, decide_false, cond_false])
/-- Deeds whose lists are not too long. -/
def Fit (x : AV) : Prop := (getXs (getF x 26)).length < CAP ∧ (getXs (getF x 29)).length < CAP ∧ (getXs (getF x 30)).length < CAP ∧ (getXs (getF x 36)).length < CAP ∧ (getXs (getF x 37)).length < CAP
theorem few_total (L : List AV) (hL : L.length < CAP) (hf : ∀ x ∈ L, Fit x) : ∃ b, g_comptoirlaw21_few L = some b := by
  have key : ∀ (m i : Nat), i + m = L.length → ∃ b, run (M_comptoirlaw21_few L) (M_comptoirlaw21_few L (i : Int)) = some b := by
    intro m
    induction m with
    | zero =>
      intro i hi
      have q : ¬ ((i : Int) < L.length) := by omega
      exact ⟨_, run_inr (by simp only [M_comptoirlaw21_few, Tr.val_c, Tr.val_r, q, decide_false, cond_false]; rfl)⟩
    | succ m ih =>
      intro i hi
      have hi' : i < L.length := by omega
      have q : (i : Int) < L.length := by omega
      have q0 : (0 : Int) ≤ i := by omega
      have w : IntKind.i64.wrap ((i : Int) + 1) = ((i + 1 : Nat) : Int) := by unfold CAP at hL; rw [i64_wrap (by omega) (by omega)]; omega
      have hm : L.getD i noDeed ∈ L := by rw [List.getD_eq_getElem?_getD, List.getElem?_eq_getElem hi']; exact List.getElem_mem hi'
      obtain ⟨f1, f2, f3, f4, f5⟩ := hf _ hm
      obtain ⟨b, hb⟩ := ih (i + 1) (by omega)
      unfold noDeed at f1 f2 f3 f4 f5
      obtain ⟨s1, hs1⟩ := small_total (getI (getF (L.getD i noDeed) 10)) (getI (getF (L.getD i noDeed) 11)) (getS (getF (L.getD i noDeed) 12)) (getS (getF (L.getD i noDeed) 13)) (getS (getF (L.getD i noDeed) 14)) (getS (getF (L.getD i noDeed) 15)) (getI (getF (L.getD i noDeed) 16)) (getS (getF (L.getD i noDeed) 17)) (getS (getF (L.getD i noDeed) 18)) (getS (getF (L.getD i noDeed) 19)) (getS (getF (L.getD i noDeed) 20)) (getI (getF (L.getD i noDeed) 21)) (getS (getF (L.getD i noDeed) 22)) (getS (getF (L.getD i noDeed) 23)) (getI (getF (L.getD i noDeed) 24)) (getS (getF (L.getD i noDeed) 25)) (getXs (getF (L.getD i noDeed) 26)) (getS (getF (L.getD i noDeed) 27)) (getS (getF (L.getD i noDeed) 28)) (getXs (getF (L.getD i noDeed) 29)) (getXs (getF (L.getD i noDeed) 30)) f1 f2 f3
      obtain ⟨s2, hs2⟩ := small_total 0 0 [] [] [] [] 0 [] (getS (getF (L.getD i noDeed) 34)) (getS (getF (L.getD i noDeed) 35)) [] 0 [] [] 0 [] [] [] (getS (getF (L.getD i noDeed) 33)) (getXs (getF (L.getD i noDeed) 36)) (getXs (getF (L.getD i noDeed) 37)) (by unfold CAP; simp) f4 f5
      unfold noDeed at hs1 hs2
      cases s1 with
      | false => exact ⟨false, run_inr (by simp only [M_comptoirlaw21_few, Tr.val_c, Tr.val_r, val_opt, q, q0, Int.toNat_natCast, hs1, Option.bind_some, Bool.not_false, decide_true, cond_true])⟩
      | true =>
        cases s2 with
        | false => exact ⟨false, run_inr (by simp only [M_comptoirlaw21_few, Tr.val_c, Tr.val_r, val_opt, q, q0, Int.toNat_natCast, hs1, hs2, Option.bind_some, Bool.not_true, Bool.not_false, decide_true, cond_true, cond_false])⟩
        | true => exact ⟨b, by
            rw [run_inl (s := ((i + 1 : Nat) : Int)) (by simp only [M_comptoirlaw21_few, Tr.val_c, Tr.val_r, val_opt, q, q0, w, Int.toNat_natCast, hs1, hs2, Option.bind_some, Bool.not_true, decide_true, cond_true, cond_false])]
            exact hb⟩
  obtain ⟨b, hb⟩ := key L.length 0 (by omega)
  refine ⟨b, ?_⟩
  unfold g_comptoirlaw21_few
  rw [run_inl (s := ((0 : Nat) : Int)) (by simp only [T_comptoirlaw21_few, Tr.val_r]; rfl)]
  exact hb

/- how much is packed -/
theorem getXs_bulk (y : AV) : bulkL (getXs y) ≤ bulkV y := by
  cases y <;> simp [getXs, bulkL, bulkV]
theorem getS_bulk (y : AV) : (getS y).length ≤ bulkV y := by
  cases y <;> simp [getS, bulkV]
theorem getF_bulk (y : AV) (i : Nat) : bulkV (getF y i) ≤ bulkV y + 1 := by
  unfold getF
  rw [List.getD_eq_getElem?_getD]
  cases h : (getCs y)[i]? with
  | none => simp [bulkV]
  | some z =>
    have hz : z ∈ getCs y := List.mem_of_getElem? h
    have : bulkL (getCs y) ≤ bulkV y := by cases y <;> simp [getCs, bulkL, bulkV]
    have := bulkV_mem hz
    simp only [Option.getD_some]; omega
theorem fs_len (x : AV) (i : Nat) : (getS (getF x i)).length ≤ bulkV x + 1 := Nat.le_trans (getS_bulk _) (getF_bulk x i)
theorem fx_bulk (x : AV) (i : Nat) : bulkL (getXs (getF x i)) ≤ bulkV x + 1 := Nat.le_trans (getXs_bulk _) (getF_bulk x i)
theorem fx_len (x : AV) (i : Nat) : (getXs (getF x i)).length ≤ bulkV x + 1 := Nat.le_trans (bulkL_len _) (fx_bulk x i)
theorem fit_of {L : List AV} (h : bulkL L ≤ 1048576) : ∀ x ∈ L, Fit x := fun x hx => by
  have := bulkV_mem hx
  have f := fun i => fx_len x i
  have f1 := f 26
  have f2 := f 29
  have f3 := f 30
  have f4 := f 36
  have f5 := f 37
  refine ⟨?_, ?_, ?_, ?_, ?_⟩ <;> (unfold CAP; omega)
theorem flat_bulk (W : AV → List AV) (c : Nat) (h : ∀ y, (W y).length ≤ c * bulkV y) : ∀ l : List AV, (l.flatMap W).length ≤ c * bulkL l
  | [] => by simp [bulkL]
  | y :: l => by
    rw [List.flatMap_cons, List.length_append, bulkL, Nat.mul_add]
    have := h y
    have := flat_bulk W c h l
    omega
theorem len_ints (l : List AV) : (ints l).length = 8 * l.length := by
  induction l with
  | nil => rfl
  | cons x l ih => unfold ints at ih ⊢; rw [List.flatMap_cons, List.length_append, ih]; simp [intW]; omega
theorem len_text (s : List UInt8) (l : List AV) : (texts (.str s :: l)).length = 4 + s.length + (texts l).length := by
  unfold texts; rw [List.flatMap_cons, List.length_append]; simp [textW, getS]
theorem len_text0 : (texts []).length = 0 := rfl
theorem len_tag (y : AV) : (tagW y).length ≤ 14 * bulkV y := by
  have h1 := fx_len y 1
  have h2 := bulkV_pos y
  unfold tagW
  rw [List.length_append, len_ints, len_text, len_text0]
  have : (bytesOf (getXs (getF y 1))).length = (getXs (getF y 1)).length := by simp [bytesOf]
  rw [this]; simp; omega
theorem len_pair (y : AV) : (pairW y).length ≤ 14 * bulkV y := by
  have h1 := fs_len y 0
  have h2 := fs_len y 1
  have h3 := bulkV_pos y
  unfold pairW
  rw [len_text, len_text, len_text0]; omega
theorem len_list (W : AV → List AV) (h : ∀ y, (W y).length ≤ 14 * bulkV y) (x : AV) (i : Nat) : (listW W (getXs (getF x i))).length ≤ 4 + 14 * (bulkV x + 1) := by
  unfold listW
  rw [List.length_append, length_bex]
  have := flat_bulk W 14 h (getXs (getF x i))
  have := fx_bulk x i
  have : 14 * bulkL (getXs (getF x i)) ≤ 14 * (bulkV x + 1) := Nat.mul_le_mul_left _ this
  omega

set_option maxRecDepth 100000 in
theorem len_deed (x : AV) : (deedW x).length ≤ 1000 * bulkV x := by
  have h0 := bulkV_pos x
  have f12 := fs_len x 12
  have f13 := fs_len x 13
  have f14 := fs_len x 14
  have f15 := fs_len x 15
  have f17 := fs_len x 17
  have f18 := fs_len x 18
  have f19 := fs_len x 19
  have f20 := fs_len x 20
  have f22 := fs_len x 22
  have f23 := fs_len x 23
  have f25 := fs_len x 25
  have f27 := fs_len x 27
  have f28 := fs_len x 28
  have f33 := fs_len x 33
  have f34 := fs_len x 34
  have f35 := fs_len x 35
  have f26 := len_list tagW len_tag x 26
  have f29 := len_list pairW len_pair x 29
  have f30 := len_list tagW len_tag x 30
  have f36 := len_list pairW len_pair x 36
  have f37 := len_list tagW len_tag x 37
  unfold deedW deedP
  rw [List.length_cons]
  split
  · rw [length_bex]; omega
  split
  · rw [len_ints]; simp; omega
  split
  · unfold msgW
    simp only [List.length_append, len_ints, len_text, len_text0, length_bex, List.length_cons, List.length_nil]; omega
  split
  · rw [len_ints]; simp; omega
  split
  · unfold resW
    simp only [List.length_append, len_ints, len_text, len_text0, length_bex, List.length_cons, List.length_nil]; omega
  · simp; omega
theorem deeds_all (L : List AV) (h : bulkL L ≤ 1048576) : g_pack_Deeds L = some (L.flatMap deedW) ∧ (L.flatMap deedW).length ≤ 1048576000 := by
  have l := flat_bulk deedW 1000 len_deed L
  have : 1000 * bulkL L ≤ 1000 * 1048576 := Nat.mul_le_mul_left _ h
  have n := bulkL_len L
  exact ⟨Deeds_eq L (by unfold CAP; omega) (fit_of h) (by unfold CAP; omega), by omega⟩
theorem few_all (L : List AV) (h : bulkL L ≤ 1048576) : ∃ b, g_comptoirlaw21_few L = some b := by
  have n := bulkL_len L
  exact few_total L (by unfold CAP; omega) (fit_of h)

theorem pjoins_eq (a b : List AV) (h : bulkL a + bulkL b ≤ 1048576) : g_comptoirlaw21_PackJoins a b = some true := by
  obtain ⟨fa, ha⟩ := few_all a (by omega)
  obtain ⟨fb, hb⟩ := few_all b (by omega)
  unfold g_comptoirlaw21_PackJoins
  have skip : run (M_comptoirlaw21_PackJoins a b) (M_comptoirlaw21_PackJoins a b true) = some true :=
    run_inr (by simp only [M_comptoirlaw21_PackJoins, Tr.val_c, Tr.val_r, val_opt, awake21, Option.bind_some, cond_true])
  cases fa with
  | false =>
    rw [run_inl (s := true) (by simp only [T_comptoirlaw21_PackJoins, Tr.val_c, Tr.val_r, val_opt, ha, Option.bind_some, Bool.not_false, cond_true])]
    exact skip
  | true =>
    cases fb with
    | false =>
      rw [run_inl (s := true) (by simp only [T_comptoirlaw21_PackJoins, Tr.val_c, Tr.val_r, val_opt, ha, hb, Option.bind_some, Bool.not_false, Bool.not_true, cond_false])]
      exact skip
    | true =>
      rw [run_inl (s := false) (by simp only [T_comptoirlaw21_PackJoins, Tr.val_c, Tr.val_r, val_opt, ha, hb, Option.bind_some, Bool.not_true, cond_false])]
      obtain ⟨d1, l1⟩ := deeds_all a (by omega)
      obtain ⟨d2, l2⟩ := deeds_all b (by omega)
      obtain ⟨d3, l3⟩ := deeds_all (a ++ b) (by rw [bulkL_append]; omega)
      have na := bulkL_len a
      have nb := bulkL_len b
      have k1 : a.length * 513 < 70368744177664 := Nat.lt_of_le_of_lt (Nat.mul_le_mul_right 513 (Nat.le_trans na (Nat.le_trans (Nat.le_add_right _ _) h))) (by decide)
      have k2 : (a ++ b).length * 513 < 70368744177664 := by
        have e : (a ++ b).length ≤ 1048576 := by
          rw [List.length_append]
          exact Nat.le_trans (Nat.add_le_add na nb) h
        exact Nat.lt_of_le_of_lt (Nat.mul_le_mul_right 513 e) (by decide)
      rw [List.flatMap_append] at d3
      generalize a.flatMap deedW = A at *
      generalize b.flatMap deedW = B at *
      have k3 : (A ++ B).length * 2 < 70368744177664 := by
        have e : (A ++ B).length ≤ 2097152000 := by rw [List.length_append]; exact Nat.add_le_add l1 l2
        exact Nat.lt_of_le_of_lt (Nat.mul_le_mul_right 2 e) (by decide)
      exact run_inr (by simp only [M_comptoirlaw21_PackJoins, Tr.val_c, Tr.val_r, val_opt, k1, k2, k3, awake21, d1, d2, d3, Option.bind_some, decide_true, beq_self_eq_true, Bool.true_and, cond_true, cond_false])

end Go.Proofs.Ytfhgmpeplfjmcaa
