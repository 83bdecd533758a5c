/- What the printed functions come to, plainly. -/
import Derived.Test.YtaejmfmamhdlhaaYbG8
import Derived.Test.YtaejmfmamhdlhaaCxPl3
namespace Go.Proofs.Ytaejmfmamhdlhaa
open Go.Cx Go.Cx.AV
set_option linter.unusedSimpArgs false
set_option linter.unusedVariables false

/- slices.Concat of two. -/
theorem Grow_eq (n : Int) (h0 : 0 ≤ n) (h : n < 35184372088832) : g_slices_Grow_byte_byte n = some [] := by
  unfold g_slices_Grow_byte_byte
  have w : IntKind.i64.wrap (n - 0) = n := by rw [Int.sub_zero]; exact i64_wrap (by omega) (by omega)
  have hn0 : ¬ (n < 0) := by omega
  have hT : (T_slices_Grow_byte_byte n).val = some (.inl (.inl ())) := by simp only [T_slices_Grow_byte_byte, Tr.val_c, Tr.val_r, hn0]; rfl
  rw [run_inl hT]
  rw [run_inl (s := .inr ())]
  · exact run_inr rfl
  · simp only [M_slices_Grow_byte_byte, Tr.val_c, Tr.val_r, w, List.length_replicate]
    by_cases hn : n > 0
    · have : n.toNat * 2 < 70368744177664 := by omega
      simp [hn, this]
    · simp [hn]

theorem Concat_eq (a b : List AV) (h : a.length + b.length < 17592186044416) : g_slices_Concat_byte_byte [.slice 1 (.int .u8) a .ro, .slice 1 (.int .u8) b .ro] = some (a ++ b) := by
  have e0 : getXs (List.getD [AV.slice 1 (.int .u8) a .ro, .slice 1 (.int .u8) b .ro] (Int.toNat 0) (.slice 1 (.int .u8) [] .ro)) = a := rfl
  have e1 : getXs (List.getD [AV.slice 1 (.int .u8) a .ro, .slice 1 (.int .u8) b .ro] (Int.toNat 1) (.slice 1 (.int .u8) [] .ro)) = b := rfl
  have w0 : IntKind.i64.wrap (0 + (a.length : Int)) = a.length := by rw [Int.zero_add]; exact i64_wrap (by omega) (by omega)
  have w1 : IntKind.i64.wrap ((a.length : Int) + b.length) = ((a.length + b.length : Nat) : Int) := by rw [i64_wrap (by omega) (by omega)]; omega
  have w2 : IntKind.i64.wrap (0 + 1) = 1 := rfl
  have w3 : IntKind.i64.wrap (1 + 1) = 2 := rfl
  have n0 : ¬ ((a.length : Int) < 0) := by omega
  have n1 : ¬ (((a.length + b.length : Nat) : Int) < 0) := by omega
  have l0 : a.length * 2 < 70368744177664 := by omega
  have l1 : (a.length + b.length) * 2 < 70368744177664 := by omega
  have gr := Grow_eq (((a.length + b.length : Nat) : Int)) (by omega) (by omega)
  unfold g_slices_Concat_byte_byte
  rw [run_inl (s := .inl (0, 0)) rfl]
  rw [run_inl (s := .inl ((a.length : Int), 1)) (by simp only [M_slices_Concat_byte_byte, Tr.val_c, Tr.val_r, e0, w0, w2, n0]; rfl)]
  rw [run_inl (s := .inl (((a.length + b.length : Nat) : Int), 2)) (by simp only [M_slices_Concat_byte_byte, Tr.val_c, Tr.val_r, e1, w1, w3, n1]; rfl)]
  rw [run_inl (s := .inr ([], 0)) (by simp only [M_slices_Concat_byte_byte, Tr.val_c, Tr.val_r, gr, opt_some]; rfl)]
  rw [run_inl (s := .inr (a, 1)) (by simp only [M_slices_Concat_byte_byte, Tr.val_c, Tr.val_r, e0, w2, List.nil_append, l0, decide_true, beq_self_eq_true]; rfl)]
  rw [run_inl (s := .inr (a ++ b, 2)) (by simp only [M_slices_Concat_byte_byte, Tr.val_c, Tr.val_r, e1, w3, List.length_append, l1, decide_true, beq_self_eq_true]; rfl)]
  exact run_inr (by simp only [M_slices_Concat_byte_byte, Tr.val_c, Tr.val_r, beq_self_eq_true]; rfl)

/- the cursor -/
theorem shr8 (v : Int) : ∀ i : Nat, i < 8 → IntKind.u8.wrap (shrA .u64 v (8 * (i : Int))) = v / 256 ^ i % 256
  | 0, _ => by rw [u8_mod]; show v.fdiv 1 % 256 = _; rw [Int.fdiv_eq_ediv_of_nonneg _ (by decide)]; rfl
  | 1, _ => by rw [u8_mod]; show v.fdiv 256 % 256 = _; rw [Int.fdiv_eq_ediv_of_nonneg _ (by decide)]; rfl
  | 2, _ => by rw [u8_mod]; show v.fdiv 65536 % 256 = _; rw [Int.fdiv_eq_ediv_of_nonneg _ (by decide)]; rfl
  | 3, _ => by rw [u8_mod]; show v.fdiv 16777216 % 256 = _; rw [Int.fdiv_eq_ediv_of_nonneg _ (by decide)]; rfl
  | 4, _ => by rw [u8_mod]; show v.fdiv 4294967296 % 256 = _; rw [Int.fdiv_eq_ediv_of_nonneg _ (by decide)]; rfl
  | 5, _ => by rw [u8_mod]; show v.fdiv 1099511627776 % 256 = _; rw [Int.fdiv_eq_ediv_of_nonneg _ (by decide)]; rfl
  | 6, _ => by rw [u8_mod]; show v.fdiv 281474976710656 % 256 = _; rw [Int.fdiv_eq_ediv_of_nonneg _ (by decide)]; rfl
  | 7, _ => by rw [u8_mod]; show v.fdiv 72057594037927936 % 256 = _; rw [Int.fdiv_eq_ediv_of_nonneg _ (by decide)]; rfl
  | n + 8, h => by omega

/-- The lowest bytes of a number, the highest first. -/
def bex (v : Int) : Nat → List AV
  | 0 => []
  | i + 1 => .int .u8 (v / 256 ^ i % 256) :: bex v i
@[simp] theorem length_bex (v : Int) (i : Nat) : (bex v i).length = i := by induction i <;> simp [bex, *]

theorem set_last (r : List AV) (x y : AV) (j : Nat) : (List.replicate (j + 1) x ++ r).set j y = List.replicate j x ++ y :: r := by
  induction j with
  | zero => rfl
  | succ j ih => rw [List.replicate_succ (n := j + 1), List.cons_append, List.set_cons_succ, ih]; rfl

theorem Put_eq (x0 : List AV) (v n : Int) (m : Nat) (hx : x0.length < 8796093022208) (hm : m ≤ 8) (hn : (if 8 < (if 0 > n then 0 else n) then 8 else if 0 > n then 0 else n) = (m : Int)) : g_cursor_Put x0 v n = some (x0 ++ bex v m) := by
  unfold g_cursor_Put
  have hr : m * 2 < 70368744177664 := by omega
  have h0 : (0 : Int) ≤ m := by omega
  rw [run_inl (s := ((m : Int), (m : Int), List.replicate m (.int .u8 0), 0))]
  rotate_left
  · simp only [T_cursor_Put, Tr.val_c, Tr.val_r, hn, h0, Int.toNat_natCast, List.length_replicate, hr, decide_true, cond_true, beq_self_eq_true]
  have key : ∀ k i, i + k = m → run (M_cursor_Put x0 v n) (M_cursor_Put x0 v n ((m : Int), (m : Int), List.replicate k (.int .u8 0) ++ bex v i, (i : Int))) = some (x0 ++ bex v m) := by
    intro k
    induction k with
    | zero =>
      intro i hi
      have : i = m := by omega
      subst this
      have hlt : ¬ ((i : Int) < i) := by omega
      have hc := Concat_eq x0 (bex v i) (by simp; omega)
      exact run_inr (by simp only [M_cursor_Put, Tr.val_c, Tr.val_r, hlt, List.replicate_zero, List.nil_append, val_opt, hc, Option.bind_some, decide_false, cond_false, beq_self_eq_true, cond_true])
    | succ k ih =>
      intro i hi
      have q1 : (i : Int) < m := by omega
      have w1 : IntKind.i64.wrap (8 * (i : Int)) = 8 * i := i64_wrap (by omega) (by omega)
      have w2 : IntKind.i64.wrap ((m : Int) - 1) = m - 1 := i64_wrap (by omega) (by omega)
      have w3 : IntKind.i64.wrap ((m : Int) - 1 - i) = (k : Int) := by rw [i64_wrap (by omega) (by omega)]; omega
      have w4 : IntKind.i64.wrap ((i : Int) + 1) = ((i + 1 : Nat) : Int) := by rw [i64_wrap (by omega) (by omega)]; omega
      have q2 : (0 : Int) ≤ 8 * i := by omega
      have q3 : (0 : Int) ≤ k := by omega
      have hl : (List.replicate (k + 1) (AV.int .u8 0) ++ bex v i).length = m := by simp; omega
      have hl2 : (List.replicate k (AV.int .u8 0) ++ AV.int .u8 (v / 256 ^ i % 256) :: bex v i).length = m := by simp; omega
      have q4 : (k : Int) < m := by omega
      have q5 : k < m := by omega
      rw [run_inl (s := ((m : Int), (m : Int), List.replicate k (.int .u8 0) ++ bex v (i + 1), ((i + 1 : Nat) : Int)))]
      · exact ih (i + 1) (by omega)
      · simp only [M_cursor_Put, Tr.val_c, Tr.val_r, q1, w1, w2, w3, w4, q2, q3, q4, q5, hl, Int.toNat_natCast, shr8 v i (by omega), decide_true, cond_true, beq_self_eq_true, set_last, hl2]
        rfl
  have := key m 0 (by omega)
  simpa [bex] using this

theorem take_eq (n : Int) (b : List AV) (k : Nat) (hk : k ≤ b.length) (hb : b.length < 8796093022208) :
    g_cursor_Cursor_take_p0500 n b k = some (if n < 0 then ([], 1, b, (k : Int)) else if n > b.length - k then ([], 3, b, (k : Int)) else ((b.drop k).take n.toNat, 0, b, (k : Int) + n)) := by
  unfold g_cursor_Cursor_take_p0500
  have w0 : IntKind.i64.wrap ((b.length : Int) - k) = b.length - k := i64_wrap (by omega) (by omega)
  by_cases h1 : n < 0
  · simp only [T_cursor_Cursor_take_p0500, Tr.val_c, Tr.val_r, h1, decide_true, cond_true, if_true]
  · by_cases h2 : n > (b.length : Int) - k
    · simp only [T_cursor_Cursor_take_p0500, Tr.val_c, Tr.val_r, h1, h2, w0, decide_true, decide_false, cond_true, cond_false, if_true, if_false]
    · have w1 : IntKind.i64.wrap ((k : Int) + n) = k + n := i64_wrap (by omega) (by omega)
      have w2 : IntKind.i64.wrap ((k : Int) + n - n) = k := by rw [i64_wrap (by omega) (by omega)]; omega
      have q1 : (0 : Int) ≤ k + n := by omega
      have q2 : (k : Int) + n ≤ b.length := by omega
      have q3 : (0 : Int) ≤ k := by omega
      have q4 : (k : Int) ≤ k + n := by omega
      have hd : ((b.take ((k : Int) + n).toNat).drop (k : Int).toNat) = (b.drop k).take n.toNat := by
        rw [List.drop_take]; congr 1; omega
      simp only [T_cursor_Cursor_take_p0500, Tr.val_c, Tr.val_r, h1, h2, w0, w1, w2, q1, q2, q3, q4, hd, decide_true, decide_false, cond_true, cond_false, if_false]

theorem read_eq (n : Int) (b : List AV) (k : Int) : g_cursor_read_ftake_0p500 n b k = g_cursor_Cursor_take_p0500 n b k := by
  conv => lhs; unfold g_cursor_read_ftake_0p500
  simp only [T_cursor_read_ftake_0p500, Tr.val_c, Tr.val_r, val_opt]
  cases g_cursor_Cursor_take_p0500 n b k <;> rfl

/-- The number that bytes are. -/
def numOf (l : List AV) : Int := l.foldl (fun a x => bitsA .or .u64 (shlA .u64 a 8) (IntKind.u64.wrap (getI x))) 0

theorem Number_eq (n : Int) (b : List AV) (k : Nat) (hk : k ≤ b.length) (hb : b.length < 8796093022208) :
    g_cursor_Cursor_Number_p0500 n b k = some (if n < 1 then (0, 1, b, (k : Int)) else if n > 8 then (0, 1, b, (k : Int)) else if n > b.length - k then (0, 3, b, (k : Int)) else (numOf ((b.drop k).take n.toNat), 0, b, (k : Int) + n)) := by
  unfold g_cursor_Cursor_Number_p0500
  by_cases h1 : n < 1
  · rw [run_inr (x := (0, 1, b, (k : Int))) (by simp only [T_cursor_Cursor_Number_p0500, Tr.val_c, Tr.val_r, h1, decide_true, cond_true])]
    simp [h1]
  by_cases h2 : n > 8
  · rw [run_inr (x := (0, 1, b, (k : Int))) (by simp only [T_cursor_Cursor_Number_p0500, Tr.val_c, Tr.val_r, h1, h2, decide_true, decide_false, cond_true, cond_false])]
    simp [h1, h2]
  have loop : ∀ (e : Int) (l : List AV) (b2 : List AV) (at' : Int), l.length < 8796093022208 → ∀ m i v, i + m = l.length → run (M_cursor_Cursor_Number_p0500 n b k) (M_cursor_Cursor_Number_p0500 n b k (e, l, (l.length : Int), b2, at', v, (i : Int))) =
      some ((l.drop i).foldl (fun a x => bitsA .or .u64 (shlA .u64 a 8) (IntKind.u64.wrap (getI x))) v, e, b2, at') := by
    intro e l b2 at' hl m
    induction m with
    | zero =>
      intro i v hi
      have hlt : ¬ ((i : Int) < l.length) := by omega
      rw [List.drop_of_length_le (by omega)]
      exact run_inr (by simp only [M_cursor_Cursor_Number_p0500, Tr.val_c, Tr.val_r, hlt, decide_false, cond_false]; rfl)
    | succ m ih =>
      intro i v hi
      have q1 : (i : Int) < l.length := by omega
      have q2 : (0 : Int) ≤ i := by omega
      have q3 : i < l.length := by omega
      have w : IntKind.i64.wrap ((i : Int) + 1) = ((i + 1 : Nat) : Int) := by rw [i64_wrap (by omega) (by omega)]; omega
      have hg : l.getD i (.int .u8 0) = l[i] := by simp [List.getD_eq_getElem?_getD, q3]
      rw [run_inl (s := (e, l, (l.length : Int), b2, at', bitsA .or .u64 (shlA .u64 v 8) (IntKind.u64.wrap (getI l[i])), ((i + 1 : Nat) : Int))) (by simp only [M_cursor_Cursor_Number_p0500, Tr.val_c, Tr.val_r, q1, q2, w, hg, Int.toNat_natCast, decide_true, cond_true]), ih (i + 1) _ (by omega), List.drop_eq_getElem_cons q3, List.foldl_cons]
  have ht := take_eq n b k hk hb
  have h0 : ¬ n < 0 := by omega
  by_cases h3 : n > (b.length : Int) - k
  · rw [run_inl (s := (3, [], ((([] : List AV).length : Nat) : Int), b, (k : Int), 0, ((0 : Nat) : Int)))]
    · rw [loop 3 [] b k (by simp) 0 0 0 rfl]
      simp [h1, h2, h3]
    · simp only [T_cursor_Cursor_Number_p0500, Tr.val_c, Tr.val_r, val_opt, h1, h2, h0, h3, read_eq, ht, Option.bind_some, if_true, if_false, decide_false, cond_false]
      rfl
  · rw [run_inl (s := (0, (b.drop k).take n.toNat, ((((b.drop k).take n.toNat).length : Nat) : Int), b, (k : Int) + n, 0, ((0 : Nat) : Int)))]
    · rw [loop 0 _ b _ (by simp only [List.length_take, List.length_drop]; omega) ((b.drop k).take n.toNat).length 0 0 (by omega)]
      simp only [h1, h2, h3, if_false, List.drop_zero, numOf]
    · simp only [T_cursor_Cursor_Number_p0500, Tr.val_c, Tr.val_r, val_opt, h1, h2, h0, h3, read_eq, ht, Option.bind_some, if_true, if_false, decide_false, cond_false]
      rfl

theorem New_eq (b : List AV) (hb : b.length < 8796093022208) : g_cursor_New b = some (b, 0) := by
  have : b.length * 2 < 70368744177664 := by omega
  unfold g_cursor_New
  simp only [T_cursor_New, Tr.val_c, Tr.val_r, this, decide_true, cond_true]


theorem Take_eq (n : Int) (b : List AV) (k : Nat) (hk : k ≤ b.length) (hb : b.length < 8796093022208) :
    g_cursor_Cursor_Take_p0500 n b k = some (if n < 0 then ([], 1, b, (k : Int)) else if n > b.length - k then ([], 3, b, (k : Int)) else ((b.drop k).take n.toNat, 0, b, (k : Int) + n)) := by
  have h := take_eq n b k hk hb
  have hl : ∀ m : Nat, ((b.drop k).take m).length * 2 < 70368744177664 := by
    intro m; simp only [List.length_take, List.length_drop]; omega
  unfold g_cursor_Cursor_Take_p0500
  simp only [T_cursor_Cursor_Take_p0500, Tr.val_c, Tr.val_r, val_opt, read_eq, h, Option.bind_some]
  by_cases h1 : n < 0
  · simp [h1]
  · by_cases h2 : n > (b.length : Int) - k
    · simp [h1, h2]
    · simp only [h1, h2, if_false, hl, decide_true, cond_true]


theorem foldl_bex (v : Nat) : ∀ (i a : Nat), i ≤ 8 → a < 256 ^ (8 - i) → (bex (v : Int) i).foldl (fun a x => bitsA .or .u64 (shlA .u64 a 8) (IntKind.u64.wrap (getI x))) (a : Int) = ((a * 256 ^ i + v % 256 ^ i : Nat) : Int)
  | 0, a, _, _ => by
    show (a : Int) = _
    rw [Nat.pow_zero, Nat.mod_one, Nat.mul_one, Nat.add_zero]
  | i + 1, a, hi, ha => by
    have e8 : 8 - i = (8 - (i + 1)) + 1 := by omega
    have hp : 256 ^ (8 - i) = 256 * 256 ^ (8 - (i + 1)) := by rw [e8, Nat.pow_succ, Nat.mul_comm]
    have h7 : 256 ^ (8 - (i + 1)) ≤ 256 ^ 7 := Nat.pow_le_pow_right (by omega) (by omega)
    have hy : v / 256 ^ i % 256 < 256 := Nat.mod_lt _ (by omega)
    have hb := byte_behind (a := a) (y := v / 256 ^ i % 256) (by omega) hy
    have hc : ((v : Int) / 256 ^ i % 256) = ((v / 256 ^ i % 256 : Nat) : Int) := by rw [Int.natCast_emod, Int.natCast_ediv, Int.natCast_pow]; rfl
    rw [bex, List.foldl_cons, getI_int, hc, hb, foldl_bex v i _ (by omega) (by rw [hp]; omega)]
    congr 1
    rw [Nat.pow_succ, Nat.mod_mul, Nat.add_mul, Nat.mul_assoc, Nat.mul_comm 256 (256 ^ i), Nat.mul_comm (v / 256 ^ i % 256)]
    omega

theorem numOf_bex (v n : Nat) (hn : n ≤ 8) : numOf (bex (v : Int) n) = ((v % 256 ^ n : Nat) : Int) := by
  have := foldl_bex v n 0 hn (Nat.pow_pos (by omega))
  unfold numOf
  rw [Nat.zero_mul, Nat.zero_add] at this
  exact this

/- the link -/
theorem next_short (w : List AV) (d : Bool) (h : w.length < 2) : g_link_Link_next_p500 w d = some ([], false, w, d) := by
  have a := New_eq w (by omega)
  have b := Number_eq 2 w 0 (by omega) (by omega)
  rw [if_neg (by decide), if_neg (by decide), if_pos (by omega)] at b
  have b : g_cursor_Cursor_Number_p0500 2 w 0 = some (0, 3, w, 0) := b
  unfold g_link_Link_next_p500
  simp only [T_link_Link_next_p500, Tr.val_c, Tr.val_r, val_opt, a, b, Option.bind_some]
  rfl

theorem next_num (w : List AV) (h : 2 ≤ w.length) (h2 : w.length < 8796093022208) : g_cursor_Cursor_Number_p0500 2 w 0 = some (numOf (w.take 2), 0, w, 2) := by
  have b := Number_eq 2 w 0 (by omega) h2
  rw [if_neg (by decide), if_neg (by decide), if_neg (by omega)] at b
  exact b

theorem next_dead (w : List AV) (d : Bool) (h : 2 ≤ w.length) (h2 : w.length < 8796093022208) (n : Int) (hn : numOf (w.take 2) = n) (hd : n = 0 ∨ n > 4096) : g_link_Link_next_p500 w d = some ([], false, w, true) := by
  have a := New_eq w h2
  have b := next_num w h h2
  unfold g_link_Link_next_p500
  simp only [T_link_Link_next_p500, Tr.val_c, Tr.val_r, val_opt, a, b, hn, Option.bind_some, bne_self_eq_false, cond_false]
  rcases hd with rfl | hd
  · rfl
  · have h0 : (n == 0) = false := by simp; omega
    simp only [h0, hd, decide_true, cond_true, cond_false]

theorem next_wait (w : List AV) (d : Bool) (h : 2 ≤ w.length) (h2 : w.length < 8796093022208) (n : Nat) (hn : numOf (w.take 2) = (n : Int)) (h1 : 1 ≤ n) (h4 : n ≤ 4096) (hw : w.length < 2 + n) : g_link_Link_next_p500 w d = some ([], false, w, d) := by
  have a := New_eq w h2
  have b := next_num w h h2
  have w1 : IntKind.i64.wrap (n : Int) = n := i64_wrap (by omega) (by omega)
  have c := Take_eq (n : Int) w 2 (by omega) h2
  rw [if_neg (by omega), if_pos (by omega)] at c
  have c : g_cursor_Cursor_Take_p0500 (n : Int) w 2 = some ([], 3, w, 2) := c
  have h0 : ((n : Int) == 0) = false := by simp; omega
  have h3 : ¬ ((n : Int) > 4096) := by omega
  unfold g_link_Link_next_p500
  simp only [T_link_Link_next_p500, Tr.val_c, Tr.val_r, val_opt, a, b, hn, Option.bind_some, bne_self_eq_false, cond_false, h0, h3, w1, c, decide_false]
  rfl

theorem next_one (w : List AV) (d : Bool) (h2 : w.length < 8796093022208) (n : Nat) (hn : numOf (w.take 2) = (n : Int)) (h1 : 1 ≤ n) (h4 : n ≤ 4096) (hw : 2 + n ≤ w.length) : g_link_Link_next_p500 w d = some ((w.drop 2).take n, true, w.drop (2 + n), d) := by
  have a := New_eq w h2
  have b := next_num w (by omega) h2
  have w1 : IntKind.i64.wrap (n : Int) = n := i64_wrap (by omega) (by omega)
  have c := Take_eq (n : Int) w 2 (by omega) h2
  rw [if_neg (by omega), if_neg (by omega), Int.toNat_natCast] at c
  have c : g_cursor_Cursor_Take_p0500 (n : Int) w 2 = some ((w.drop 2).take n, 0, w, ((2 + n : Nat) : Int)) := c
  have h0 : ((n : Int) == 0) = false := by simp; omega
  have h3 : ¬ ((n : Int) > 4096) := by omega
  have q1 : (w.length : Int) ≤ w.length := by omega
  have q2 : (0 : Int) ≤ ((2 + n : Nat) : Int) := by omega
  have q3 : ((2 + n : Nat) : Int) ≤ w.length := by omega
  unfold g_link_Link_next_p500
  simp only [T_link_Link_next_p500, Tr.val_c, Tr.val_r, val_opt, a, b, hn, Option.bind_some, bne_self_eq_false, cond_false, cond_true, h0, h3, w1, c, q1, q2, q3, decide_false, decide_true, Int.toNat_natCast, List.take_length]

theorem every_none (w w' : List AV) (d d' : Bool) (h : g_link_Link_next_p500 w d = some ([], false, w', d')) : g_link_every_fnext_p500 w d = some ([], w', d') := by
  unfold g_link_every_fnext_p500
  rw [run_inl (s := ([], false, w', d', [])) (by simp only [T_link_every_fnext_p500, Tr.val_c, Tr.val_r, val_opt, h, Option.bind_some])]
  exact run_inr (by simp only [M_link_every_fnext_p500, Tr.val_c, Tr.val_r, cond_false, cond_true, beq_self_eq_true])

theorem every_one (w w1 w2 b : List AV) (d d1 d2 : Bool) (h : g_link_Link_next_p500 w d = some (b, true, w1, d1)) (h' : g_link_Link_next_p500 w1 d1 = some ([], false, w2, d2)) : g_link_every_fnext_p500 w d = some ([.slice 1 (.int .u8) b .ro], w2, d2) := by
  unfold g_link_every_fnext_p500
  rw [run_inl (s := (b, true, w1, d1, [])) (by simp only [T_link_every_fnext_p500, Tr.val_c, Tr.val_r, val_opt, h, Option.bind_some])]
  rw [run_inl (s := ([], false, w2, d2, [.slice 1 (.int .u8) b .ro])) (by
    simp only [M_link_every_fnext_p500, Tr.val_c, Tr.val_r, val_opt, h', Option.bind_some, cond_true, beq_self_eq_true, List.nil_append]; rfl)]
  exact run_inr (by simp only [M_link_every_fnext_p500, Tr.val_c, Tr.val_r, cond_false, cond_true, beq_self_eq_true])

theorem Feed_eq (x w w' fr : List AV) (d : Bool) (hl : w.length + x.length < 8796093022208) (h : g_link_every_fnext_p500 (w ++ x) false = some (fr, w', d)) : g_link_Link_Feed_p0500 x w false = some (if d = true then ([], 4, w', true) else (fr, 0, w', false)) := by
  have c := Concat_eq w x (by omega)
  unfold g_link_Link_Feed_p0500
  simp only [T_link_Link_Feed_p0500, Tr.val_c, Tr.val_r, val_opt, c, h, Option.bind_some, Bool.not_false, cond_true]
  cases d <;> rfl

theorem Feed_dead (x w : List AV) : g_link_Link_Feed_p0500 x w true = some ([], 4, w, true) := by
  unfold g_link_Link_Feed_p0500
  simp only [T_link_Link_Feed_p0500, Tr.val_c, Tr.val_r, val_opt, Bool.not_true, cond_false, cond_true]

theorem Frame_eq (A : List AV) (h1 : 1 ≤ A.length) (h : A.length ≤ 4096) : g_link_Frame A = some (bex (A.length : Int) 2 ++ A, 0) := by
  have p := Put_eq [] (A.length : Int) 2 2 (by simp) (by omega) (by decide)
  have c := Concat_eq (bex (A.length : Int) 2) A (by simp; omega)
  have w : IntKind.u64.wrap (A.length : Int) = A.length := u64_wrap (by omega) (by omega)
  have q1 : ((A.length : Int) == 0) = false := by simp; intro h; rw [h] at h1; simp at h1
  have q2 : ¬ ((A.length : Int) > 4096) := by omega
  rw [List.nil_append] at p
  unfold g_link_Frame
  simp only [T_link_Frame, Tr.val_c, Tr.val_r, val_opt, q1, q2, w, p, c, Option.bind_some, decide_false, cond_false]

theorem Frame_big (A : List AV) (h1 : 1 ≤ A.length) (h : 4096 < A.length) (hl : A.length < 100000) : g_link_Frame A = some ([], 4) := by
  have q1 : ((A.length : Int) == 0) = false := by simp; intro h; rw [h] at h1; simp at h1
  have q2 : ((A.length : Int) > 4096) := by omega
  unfold g_link_Frame
  simp only [T_link_Frame, Tr.val_c, Tr.val_r, val_opt, q1, q2, decide_true, cond_true, cond_false]

theorem take_hdr (v : Nat) (r : List AV) : (bex (v : Int) 2 ++ r).take 2 = bex (v : Int) 2 := List.take_left' (by simp)

theorem awake06 : g_comptoirlaw06_awake = some true := by
  have hn : numOf (([AV.int .u8 0, .int .u8 1, .int .u8 7] : List AV).take 2) = ((1 : Nat) : Int) := by kernel_rfl
  have a := next_one [.int .u8 0, .int .u8 1, .int .u8 7] false (by simp) 1 hn (by omega) (by omega) (by simp)
  have b := next_short [] false (by simp)
  have e := every_one [.int .u8 0, .int .u8 1, .int .u8 7] [] [] [.int .u8 7] false false false a b
  have f := Feed_eq [.int .u8 0, .int .u8 1, .int .u8 7] [] [] _ false (by simp) e
  have g := Frame_eq [.int .u8 7] (by simp) (by simp)
  rw [if_neg (by decide)] at f
  unfold g_comptoirlaw06_awake
  simp only [T_comptoirlaw06_awake, Tr.val_c, Tr.val_r, val_opt, f, g, Option.bind_some]
  rfl

theorem hdr_bytes (N : Nat) (h : N = 4094 ∨ N = 4095 ∨ N = 4096 ∨ N = 4097 ∨ N = 4098) : [AV.int .u8 (IntKind.u8.wrap (shrA .i64 (N : Int) 8)), .int .u8 (IntKind.u8.wrap (N : Int))] = bex (N : Int) 2 := by
  rcases h with rfl | rfl | rfl | rfl | rfl <;> kernel_rfl

theorem ldead_eq (x0 : Int) (B : List AV) : g_comptoirlaw06_LinkDead x0 B = some true := by
  obtain ⟨b0, b1⟩ := u64_bounds x0
  obtain ⟨N, hN⟩ : ∃ N : Nat, (N : Int) = 4094 + IntKind.u64.wrap x0 % 5 := ⟨(4094 + IntKind.u64.wrap x0 % 5).toNat, by omega⟩
  have hn : IntKind.i64.wrap (4094 + IntKind.i64.wrap (Int.tmod (IntKind.u64.wrap x0) 5)) = (N : Int) := by
    rw [tmod_eq b0, i64_wrap (n := _ % 5) (by omega) (by omega), i64_wrap (by omega) (by omega), hN]
  have h5 : N = 4094 ∨ N = 4095 ∨ N = 4096 ∨ N = 4097 ∨ N = 4098 := by omega
  unfold g_comptoirlaw06_LinkDead
  by_cases hbig : (B.length : Int) > 100
  · exact run_inr (by simp only [T_comptoirlaw06_LinkDead, Tr.val_c, Tr.val_r, val_opt, awake06, hbig, Option.bind_some, decide_true, cond_true])
  rw [run_inl (s := (.inl ((N : Int), false))) (by simp only [T_comptoirlaw06_LinkDead, Tr.val_c, Tr.val_r, val_opt, awake06, hbig, hn, Option.bind_some, decide_false, cond_false, Bool.not_true])]
  have lB : B.length ≤ 100 := by omega
  have hb := hdr_bytes N h5
  have l2 : (bex (N : Int) 2).length = 2 := by simp
  have hnum : ∀ r : List AV, numOf ((bex (N : Int) 2 ++ r).take 2) = (N : Int) := fun r => by
    rw [take_hdr, numOf_bex _ _ (by omega)]
    have : N % 256 ^ 2 = N := Nat.mod_eq_of_lt (by omega)
    rw [this]
  have hnum0 : numOf ((bex (N : Int) 2).take 2) = (N : Int) := by have := hnum []; rwa [List.append_nil] at this
  -- of no bytes at all
  have z1 : g_link_Link_Feed_p0500 [.int .u8 0, .int .u8 0, .int .u8 1] [] false = some ([], 4, [.int .u8 0, .int .u8 0, .int .u8 1], true) := by
    have a := next_dead [.int .u8 0, .int .u8 0, .int .u8 1] false (by simp) (by simp) 0 (by kernel_rfl) (.inl rfl)
    have := Feed_eq [.int .u8 0, .int .u8 0, .int .u8 1] [] _ _ true (by simp) (every_none _ _ _ _ a)
    rwa [if_pos rfl] at this
  have z2 := Feed_dead B [.int .u8 0, .int .u8 0, .int .u8 1]
  obtain ⟨C, hC⟩ : ∃ C, C = List.replicate N (AV.int .u8 0) := ⟨_, rfl⟩
  have lC : C.length = N := by rw [hC]; simp
  have q0 : (0 : Int) ≤ N := by omega
  have k0 : C.length * 2 < 70368744177664 := by omega
  have zd : (Option.getD (g_link_Link_Feed_p0500 [.int .u8 0, .int .u8 0, .int .u8 1] [] false) default).2.1 = 4 := by rw [z1]; rfl
  by_cases hbg : N ≤ 4096
  · have a := next_wait (bex (N : Int) 2) false (by omega) (by omega) N hnum0 (by omega) hbg (by omega)
    have f1 := Feed_eq (bex (N : Int) 2) [] _ _ false (by rw [List.length_nil]; omega) (every_none _ _ _ _ a)
    have a2 := next_wait (bex (N : Int) 2 ++ B) false (by simp) (by simp; omega) N (hnum B) (by omega) hbg (by simp; omega)
    have f2 := Feed_eq B (bex (N : Int) 2) _ _ false (by omega) (every_none _ _ _ _ a2)
    rw [if_neg (by decide)] at f1 f2
    have fr := Frame_eq C (by omega) (by omega)
    have h3 : ¬ ((N : Int) > 4096) := by omega
    rw [run_inl (s := (.inr (0, 0, 4, 0, bex (N : Int) 2 ++ B, false, [.int .u8 0, .int .u8 0, .int .u8 1], true, 0))) (by
      simp only [M_comptoirlaw06_LinkDead, Tr.val_c, Tr.val_r, val_opt, hb, f1, f2, z1, z2, Int.toNat_natCast, ← hC, q0, k0, fr, h3, Option.bind_some, decide_true, decide_false, cond_true, cond_false, beq_self_eq_true, Bool.and_self])]
    exact run_inr (by
      have zd2 := zd
      simp only [M_comptoirlaw06_LinkDead, Tr.val_c, Tr.val_r, z1, beq_self_eq_true, cond_true]
      rfl)
  · have a := next_dead (bex (N : Int) 2) false (by omega) (by omega) (N : Int) hnum0 (.inr (by omega))
    have f1 := Feed_eq (bex (N : Int) 2) [] _ _ true (by rw [List.length_nil]; omega) (every_none _ _ _ _ a)
    rw [if_pos rfl] at f1
    have f2 := Feed_dead B (bex (N : Int) 2)
    have fr := Frame_big C (by omega) (by omega) (by omega)
    have h3 : ((N : Int) > 4096) := by omega
    rw [run_inl (s := (.inr (4, 4, 4, 4, bex (N : Int) 2, true, [.int .u8 0, .int .u8 0, .int .u8 1], true, 4))) (by
      simp only [M_comptoirlaw06_LinkDead, Tr.val_c, Tr.val_r, val_opt, hb, f1, f2, z1, z2, Int.toNat_natCast, ← hC, q0, k0, fr, h3, Option.bind_some, decide_true, cond_true, cond_false, beq_self_eq_true, Bool.and_self])]
    exact run_inr (by
      simp only [M_comptoirlaw06_LinkDead, Tr.val_c, Tr.val_r, z1, beq_self_eq_true, cond_true]
      rfl)

end Go.Proofs.Ytaejmfmamhdlhaa
