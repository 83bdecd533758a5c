/- What the printed functions come to, plainly. -/
import Derived.Test.YtdkaampcgkjikaaYmG4
import Derived.Test.YtdkaampcgkjikaaCxPl3
namespace Go.Proofs.Ytdkaampcgkjikaa
open Go.Cx Go.Cx.AV
set_option linter.unusedSimpArgs false
set_option linter.unusedVariables false

/- slices.Concat of two. -/
theorem Grow_eq (n : Int) (h0 : 0 ≤ n) (h : n < 35184372088832) : g_slices_Grow_byte_byte n = some [] := by
  unfold g_slices_Grow_byte_byte
  have w : IntKind.i64.wrap (n - 0) = n := by rw [Int.sub_zero]; exact i64_wrap (by omega) (by omega)
  have hn0 : ¬ (n < 0) := by omega
  have hT : (T_slices_Grow_byte_byte n).val = some (.inl (.inl ())) := by simp only [T_slices_Grow_byte_byte, Tr.val_c, Tr.val_r, hn0]; rfl
  rw [run_inl hT]
  rw [run_inl (s := .inr ())]
  · exact run_inr rfl
  · simp only [M_slices_Grow_byte_byte, Tr.val_c, Tr.val_r, w, List.length_replicate]
    by_cases hn : n > 0
    · have : n.toNat * 2 < 70368744177664 := by omega
      simp [hn, this]
    · simp [hn]

theorem Concat_eq (a b : List AV) (h : a.length + b.length < 17592186044416) : g_slices_Concat_byte_byte [.slice 1 (.int .u8) a .ro, .slice 1 (.int .u8) b .ro] = some (a ++ b) := by
  have e0 : getXs (List.getD [AV.slice 1 (.int .u8) a .ro, .slice 1 (.int .u8) b .ro] (Int.toNat 0) (.slice 1 (.int .u8) [] .ro)) = a := rfl
  have e1 : getXs (List.getD [AV.slice 1 (.int .u8) a .ro, .slice 1 (.int .u8) b .ro] (Int.toNat 1) (.slice 1 (.int .u8) [] .ro)) = b := rfl
  have w0 : IntKind.i64.wrap (0 + (a.length : Int)) = a.length := by rw [Int.zero_add]; exact i64_wrap (by omega) (by omega)
  have w1 : IntKind.i64.wrap ((a.length : Int) + b.length) = ((a.length + b.length : Nat) : Int) := by rw [i64_wrap (by omega) (by omega)]; omega
  have w2 : IntKind.i64.wrap (0 + 1) = 1 := rfl
  have w3 : IntKind.i64.wrap (1 + 1) = 2 := rfl
  have n0 : ¬ ((a.length : Int) < 0) := by omega
  have n1 : ¬ (((a.length + b.length : Nat) : Int) < 0) := by omega
  have l0 : a.length * 2 < 70368744177664 := by omega
  have l1 : (a.length + b.length) * 2 < 70368744177664 := by omega
  have gr := Grow_eq (((a.length + b.length : Nat) : Int)) (by omega) (by omega)
  unfold g_slices_Concat_byte_byte
  rw [run_inl (s := .inl (0, 0)) rfl]
  rw [run_inl (s := .inl ((a.length : Int), 1)) (by simp only [M_slices_Concat_byte_byte, Tr.val_c, Tr.val_r, e0, w0, w2, n0]; rfl)]
  rw [run_inl (s := .inl (((a.length + b.length : Nat) : Int), 2)) (by simp only [M_slices_Concat_byte_byte, Tr.val_c, Tr.val_r, e1, w1, w3, n1]; rfl)]
  rw [run_inl (s := .inr ([], 0)) (by simp only [M_slices_Concat_byte_byte, Tr.val_c, Tr.val_r, gr, opt_some]; rfl)]
  rw [run_inl (s := .inr (a, 1)) (by simp only [M_slices_Concat_byte_byte, Tr.val_c, Tr.val_r, e0, w2, List.nil_append, l0, decide_true, beq_self_eq_true]; rfl)]
  rw [run_inl (s := .inr (a ++ b, 2)) (by simp only [M_slices_Concat_byte_byte, Tr.val_c, Tr.val_r, e1, w3, List.length_append, l1, decide_true, beq_self_eq_true]; rfl)]
  exact run_inr (by simp only [M_slices_Concat_byte_byte, Tr.val_c, Tr.val_r, beq_self_eq_true]; rfl)

/- the cursor -/
theorem shr8 (v : Int) : ∀ i : Nat, i < 8 → IntKind.u8.wrap (shrA .u64 v (8 * (i : Int))) = v / 256 ^ i % 256
  | 0, _ => by rw [u8_mod]; show v.fdiv 1 % 256 = _; rw [Int.fdiv_eq_ediv_of_nonneg _ (by decide)]; rfl
  | 1, _ => by rw [u8_mod]; show v.fdiv 256 % 256 = _; rw [Int.fdiv_eq_ediv_of_nonneg _ (by decide)]; rfl
  | 2, _ => by rw [u8_mod]; show v.fdiv 65536 % 256 = _; rw [Int.fdiv_eq_ediv_of_nonneg _ (by decide)]; rfl
  | 3, _ => by rw [u8_mod]; show v.fdiv 16777216 % 256 = _; rw [Int.fdiv_eq_ediv_of_nonneg _ (by decide)]; rfl
  | 4, _ => by rw [u8_mod]; show v.fdiv 4294967296 % 256 = _; rw [Int.fdiv_eq_ediv_of_nonneg _ (by decide)]; rfl
  | 5, _ => by rw [u8_mod]; show v.fdiv 1099511627776 % 256 = _; rw [Int.fdiv_eq_ediv_of_nonneg _ (by decide)]; rfl
  | 6, _ => by rw [u8_mod]; show v.fdiv 281474976710656 % 256 = _; rw [Int.fdiv_eq_ediv_of_nonneg _ (by decide)]; rfl
  | 7, _ => by rw [u8_mod]; show v.fdiv 72057594037927936 % 256 = _; rw [Int.fdiv_eq_ediv_of_nonneg _ (by decide)]; rfl
  | n + 8, h => by omega

/-- The lowest bytes of a number, the highest first. -/
def bex (v : Int) : Nat → List AV
  | 0 => []
  | i + 1 => .int .u8 (v / 256 ^ i % 256) :: bex v i
@[simp] theorem length_bex (v : Int) (i : Nat) : (bex v i).length = i := by induction i <;> simp [bex, *]

theorem set_last (r : List AV) (x y : AV) (j : Nat) : (List.replicate (j + 1) x ++ r).set j y = List.replicate j x ++ y :: r := by
  induction j with
  | zero => rfl
  | succ j ih => rw [List.replicate_succ (n := j + 1), List.cons_append, List.set_cons_succ, ih]; rfl

theorem Put_eq (x0 : List AV) (v n : Int) (m : Nat) (hx : x0.length < 8796093022208) (hm : m ≤ 8) (hn : (if 8 < (if 0 > n then 0 else n) then 8 else if 0 > n then 0 else n) = (m : Int)) : g_cursor_Put x0 v n = some (x0 ++ bex v m) := by
  unfold g_cursor_Put
  have hr : m * 2 < 70368744177664 := by omega
  have h0 : (0 : Int) ≤ m := by omega
  rw [run_inl (s := ((m : Int), (m : Int), List.replicate m (.int .u8 0), 0))]
  rotate_left
  · simp only [T_cursor_Put, Tr.val_c, Tr.val_r, hn, h0, Int.toNat_natCast, List.length_replicate, hr, decide_true, cond_true, beq_self_eq_true]
  have key : ∀ k i, i + k = m → run (M_cursor_Put x0 v n) (M_cursor_Put x0 v n ((m : Int), (m : Int), List.replicate k (.int .u8 0) ++ bex v i, (i : Int))) = some (x0 ++ bex v m) := by
    intro k
    induction k with
    | zero =>
      intro i hi
      have : i = m := by omega
      subst this
      have hlt : ¬ ((i : Int) < i) := by omega
      have hc := Concat_eq x0 (bex v i) (by simp; omega)
      exact run_inr (by simp only [M_cursor_Put, Tr.val_c, Tr.val_r, hlt, List.replicate_zero, List.nil_append, val_opt, hc, Option.bind_some, decide_false, cond_false, beq_self_eq_true, cond_true])
    | succ k ih =>
      intro i hi
      have q1 : (i : Int) < m := by omega
      have w1 : IntKind.i64.wrap (8 * (i : Int)) = 8 * i := i64_wrap (by omega) (by omega)
      have w2 : IntKind.i64.wrap ((m : Int) - 1) = m - 1 := i64_wrap (by omega) (by omega)
      have w3 : IntKind.i64.wrap ((m : Int) - 1 - i) = (k : Int) := by rw [i64_wrap (by omega) (by omega)]; omega
      have w4 : IntKind.i64.wrap ((i : Int) + 1) = ((i + 1 : Nat) : Int) := by rw [i64_wrap (by omega) (by omega)]; omega
      have q2 : (0 : Int) ≤ 8 * i := by omega
      have q3 : (0 : Int) ≤ k := by omega
      have hl : (List.replicate (k + 1) (AV.int .u8 0) ++ bex v i).length = m := by simp; omega
      have hl2 : (List.replicate k (AV.int .u8 0) ++ AV.int .u8 (v / 256 ^ i % 256) :: bex v i).length = m := by simp; omega
      have q4 : (k : Int) < m := by omega
      have q5 : k < m := by omega
      rw [run_inl (s := ((m : Int), (m : Int), List.replicate k (.int .u8 0) ++ bex v (i + 1), ((i + 1 : Nat) : Int)))]
      · exact ih (i + 1) (by omega)
      · simp only [M_cursor_Put, Tr.val_c, Tr.val_r, q1, w1, w2, w3, w4, q2, q3, q4, q5, hl, Int.toNat_natCast, shr8 v i (by omega), decide_true, cond_true, beq_self_eq_true, set_last, hl2]
        rfl
  have := key m 0 (by omega)
  simpa [bex] using this

theorem take_eq (n : Int) (b : List AV) (k : Nat) (hk : k ≤ b.length) (hb : b.length < 8796093022208) :
    g_cursor_Cursor_take_p0500 n b k = some (if n < 0 then ([], 1, b, (k : Int)) else if n > b.length - k then ([], 3, b, (k : Int)) else ((b.drop k).take n.toNat, 0, b, (k : Int) + n)) := by
  unfold g_cursor_Cursor_take_p0500
  have w0 : IntKind.i64.wrap ((b.length : Int) - k) = b.length - k := i64_wrap (by omega) (by omega)
  by_cases h1 : n < 0
  · simp only [T_cursor_Cursor_take_p0500, Tr.val_c, Tr.val_r, h1, decide_true, cond_true, if_true]
  · by_cases h2 : n > (b.length : Int) - k
    · simp only [T_cursor_Cursor_take_p0500, Tr.val_c, Tr.val_r, h1, h2, w0, decide_true, decide_false, cond_true, cond_false, if_true, if_false]
    · have w1 : IntKind.i64.wrap ((k : Int) + n) = k + n := i64_wrap (by omega) (by omega)
      have w2 : IntKind.i64.wrap ((k : Int) + n - n) = k := by rw [i64_wrap (by omega) (by omega)]; omega
      have q1 : (0 : Int) ≤ k + n := by omega
      have q2 : (k : Int) + n ≤ b.length := by omega
      have q3 : (0 : Int) ≤ k := by omega
      have q4 : (k : Int) ≤ k + n := by omega
      have hd : ((b.take ((k : Int) + n).toNat).drop (k : Int).toNat) = (b.drop k).take n.toNat := by
        rw [List.drop_take]; congr 1; omega
      simp only [T_cursor_Cursor_take_p0500, Tr.val_c, Tr.val_r, h1, h2, w0, w1, w2, q1, q2, q3, q4, hd, decide_true, decide_false, cond_true, cond_false, if_false]

theorem read_eq (n : Int) (b : List AV) (k : Int) : g_cursor_read_ftake_0p500 n b k = g_cursor_Cursor_take_p0500 n b k := by
  conv => lhs; unfold g_cursor_read_ftake_0p500
  simp only [T_cursor_read_ftake_0p500, Tr.val_c, Tr.val_r, val_opt]
  cases g_cursor_Cursor_take_p0500 n b k <;> rfl

/-- The number that bytes are. -/
def numOf (l : List AV) : Int := l.foldl (fun a x => bitsA .or .u64 (shlA .u64 a 8) (IntKind.u64.wrap (getI x))) 0

theorem Number_eq (n : Int) (b : List AV) (k : Nat) (hk : k ≤ b.length) (hb : b.length < 8796093022208) :
    g_cursor_Cursor_Number_p0500 n b k = some (if n < 1 then (0, 1, b, (k : Int)) else if n > 8 then (0, 1, b, (k : Int)) else if n > b.length - k then (0, 3, b, (k : Int)) else (numOf ((b.drop k).take n.toNat), 0, b, (k : Int) + n)) := by
  unfold g_cursor_Cursor_Number_p0500
  by_cases h1 : n < 1
  · rw [run_inr (x := (0, 1, b, (k : Int))) (by simp only [T_cursor_Cursor_Number_p0500, Tr.val_c, Tr.val_r, h1, decide_true, cond_true])]
    simp [h1]
  by_cases h2 : n > 8
  · rw [run_inr (x := (0, 1, b, (k : Int))) (by simp only [T_cursor_Cursor_Number_p0500, Tr.val_c, Tr.val_r, h1, h2, decide_true, decide_false, cond_true, cond_false])]
    simp [h1, h2]
  have loop : ∀ (e : Int) (l : List AV) (b2 : List AV) (at' : Int), l.length < 8796093022208 → ∀ m i v, i + m = l.length → run (M_cursor_Cursor_Number_p0500 n b k) (M_cursor_Cursor_Number_p0500 n b k (e, l, (l.length : Int), b2, at', v, (i : Int))) =
      some ((l.drop i).foldl (fun a x => bitsA .or .u64 (shlA .u64 a 8) (IntKind.u64.wrap (getI x))) v, e, b2, at') := by
    intro e l b2 at' hl m
    induction m with
    | zero =>
      intro i v hi
      have hlt : ¬ ((i : Int) < l.length) := by omega
      rw [List.drop_of_length_le (by omega)]
      exact run_inr (by simp only [M_cursor_Cursor_Number_p0500, Tr.val_c, Tr.val_r, hlt, decide_false, cond_false]; rfl)
    | succ m ih =>
      intro i v hi
      have q1 : (i : Int) < l.length := by omega
      have q2 : (0 : Int) ≤ i := by omega
      have q3 : i < l.length := by omega
      have w : IntKind.i64.wrap ((i : Int) + 1) = ((i + 1 : Nat) : Int) := by rw [i64_wrap (by omega) (by omega)]; omega
      have hg : l.getD i (.int .u8 0) = l[i] := by simp [List.getD_eq_getElem?_getD, q3]
      rw [run_inl (s := (e, l, (l.length : Int), b2, at', bitsA .or .u64 (shlA .u64 v 8) (IntKind.u64.wrap (getI l[i])), ((i + 1 : Nat) : Int))) (by simp only [M_cursor_Cursor_Number_p0500, Tr.val_c, Tr.val_r, q1, q2, w, hg, Int.toNat_natCast, decide_true, cond_true]), ih (i + 1) _ (by omega), List.drop_eq_getElem_cons q3, List.foldl_cons]
  have ht := take_eq n b k hk hb
  have h0 : ¬ n < 0 := by omega
  by_cases h3 : n > (b.length : Int) - k
  · rw [run_inl (s := (3, [], ((([] : List AV).length : Nat) : Int), b, (k : Int), 0, ((0 : Nat) : Int)))]
    · rw [loop 3 [] b k (by simp) 0 0 0 rfl]
      simp [h1, h2, h3]
    · simp only [T_cursor_Cursor_Number_p0500, Tr.val_c, Tr.val_r, val_opt, h1, h2, h0, h3, read_eq, ht, Option.bind_some, if_true, if_false, decide_false, cond_false]
      rfl
  · rw [run_inl (s := (0, (b.drop k).take n.toNat, ((((b.drop k).take n.toNat).length : Nat) : Int), b, (k : Int) + n, 0, ((0 : Nat) : Int)))]
    · rw [loop 0 _ b _ (by simp only [List.length_take, List.length_drop]; omega) ((b.drop k).take n.toNat).length 0 0 (by omega)]
      simp only [h1, h2, h3, if_false, List.drop_zero, numOf]
    · simp only [T_cursor_Cursor_Number_p0500, Tr.val_c, Tr.val_r, val_opt, h1, h2, h0, h3, read_eq, ht, Option.bind_some, if_true, if_false, decide_false, cond_false]
      rfl

theorem New_eq (b : List AV) (hb : b.length < 8796093022208) : g_cursor_New b = some (b, 0) := by
  have : b.length * 2 < 70368744177664 := by omega
  unfold g_cursor_New
  simp only [T_cursor_New, Tr.val_c, Tr.val_r, this, decide_true, cond_true]


theorem Take_eq (n : Int) (b : List AV) (k : Nat) (hk : k ≤ b.length) (hb : b.length < 8796093022208) :
    g_cursor_Cursor_Take_p0500 n b k = some (if n < 0 then ([], 1, b, (k : Int)) else if n > b.length - k then ([], 3, b, (k : Int)) else ((b.drop k).take n.toNat, 0, b, (k : Int) + n)) := by
  have h := take_eq n b k hk hb
  have hl : ∀ m : Nat, ((b.drop k).take m).length * 2 < 70368744177664 := by
    intro m; simp only [List.length_take, List.length_drop]; omega
  unfold g_cursor_Cursor_Take_p0500
  simp only [T_cursor_Cursor_Take_p0500, Tr.val_c, Tr.val_r, val_opt, read_eq, h, Option.bind_some]
  by_cases h1 : n < 0
  · simp [h1]
  · by_cases h2 : n > (b.length : Int) - k
    · simp [h1, h2]
    · simp only [h1, h2, if_false, hl, decide_true, cond_true]


theorem foldl_bex (v : Nat) : ∀ (i a : Nat), i ≤ 8 → a < 256 ^ (8 - i) → (bex (v : Int) i).foldl (fun a x => bitsA .or .u64 (shlA .u64 a 8) (IntKind.u64.wrap (getI x))) (a : Int) = ((a * 256 ^ i + v % 256 ^ i : Nat) : Int)
  | 0, a, _, _ => by
    show (a : Int) = _
    rw [Nat.pow_zero, Nat.mod_one, Nat.mul_one, Nat.add_zero]
  | i + 1, a, hi, ha => by
    have e8 : 8 - i = (8 - (i + 1)) + 1 := by omega
    have hp : 256 ^ (8 - i) = 256 * 256 ^ (8 - (i + 1)) := by rw [e8, Nat.pow_succ, Nat.mul_comm]
    have h7 : 256 ^ (8 - (i + 1)) ≤ 256 ^ 7 := Nat.pow_le_pow_right (by omega) (by omega)
    have hy : v / 256 ^ i % 256 < 256 := Nat.mod_lt _ (by omega)
    have hb := byte_behind (a := a) (y := v / 256 ^ i % 256) (by omega) hy
    have hc : ((v : Int) / 256 ^ i % 256) = ((v / 256 ^ i % 256 : Nat) : Int) := by rw [Int.natCast_emod, Int.natCast_ediv, Int.natCast_pow]; rfl
    rw [bex, List.foldl_cons, getI_int, hc, hb, foldl_bex v i _ (by omega) (by rw [hp]; omega)]
    congr 1
    rw [Nat.pow_succ, Nat.mod_mul, Nat.add_mul, Nat.mul_assoc, Nat.mul_comm 256 (256 ^ i), Nat.mul_comm (v / 256 ^ i % 256)]
    omega

theorem numOf_bex (v n : Nat) (hn : n ≤ 8) : numOf (bex (v : Int) n) = ((v % 256 ^ n : Nat) : Int) := by
  have := foldl_bex v n 0 hn (Nat.pow_pos (by omega))
  unfold numOf
  rw [Nat.zero_mul, Nat.zero_add] at this
  exact this

/- the link -/
theorem next_short (w : List AV) (d : Bool) (h : w.length < 2) : g_link_Link_next_p500 w d = some ([], false, w, d) := by
  have a := New_eq w (by omega)
  have b := Number_eq 2 w 0 (by omega) (by omega)
  rw [if_neg (by decide), if_neg (by decide), if_pos (by omega)] at b
  have b : g_cursor_Cursor_Number_p0500 2 w 0 = some (0, 3, w, 0) := b
  unfold g_link_Link_next_p500
  simp only [T_link_Link_next_p500, Tr.val_c, Tr.val_r, val_opt, a, b, Option.bind_some]
  rfl

theorem next_num (w : List AV) (h : 2 ≤ w.length) (h2 : w.length < 8796093022208) : g_cursor_Cursor_Number_p0500 2 w 0 = some (numOf (w.take 2), 0, w, 2) := by
  have b := Number_eq 2 w 0 (by omega) h2
  rw [if_neg (by decide), if_neg (by decide), if_neg (by omega)] at b
  exact b

theorem next_dead (w : List AV) (d : Bool) (h : 2 ≤ w.length) (h2 : w.length < 8796093022208) (n : Int) (hn : numOf (w.take 2) = n) (hd : n = 0 ∨ n > 4096) : g_link_Link_next_p500 w d = some ([], false, w, true) := by
  have a := New_eq w h2
  have b := next_num w h h2
  unfold g_link_Link_next_p500
  simp only [T_link_Link_next_p500, Tr.val_c, Tr.val_r, val_opt, a, b, hn, Option.bind_some, bne_self_eq_false, cond_false]
  rcases hd with rfl | hd
  · rfl
  · have h0 : (n == 0) = false := by simp; omega
    simp only [h0, hd, decide_true, cond_true, cond_false]

theorem next_wait (w : List AV) (d : Bool) (h : 2 ≤ w.length) (h2 : w.length < 8796093022208) (n : Nat) (hn : numOf (w.take 2) = (n : Int)) (h1 : 1 ≤ n) (h4 : n ≤ 4096) (hw : w.length < 2 + n) : g_link_Link_next_p500 w d = some ([], false, w, d) := by
  have a := New_eq w h2
  have b := next_num w h h2
  have w1 : IntKind.i64.wrap (n : Int) = n := i64_wrap (by omega) (by omega)
  have c := Take_eq (n : Int) w 2 (by omega) h2
  rw [if_neg (by omega), if_pos (by omega)] at c
  have c : g_cursor_Cursor_Take_p0500 (n : Int) w 2 = some ([], 3, w, 2) := c
  have h0 : ((n : Int) == 0) = false := by simp; omega
  have h3 : ¬ ((n : Int) > 4096) := by omega
  unfold g_link_Link_next_p500
  simp only [T_link_Link_next_p500, Tr.val_c, Tr.val_r, val_opt, a, b, hn, Option.bind_some, bne_self_eq_false, cond_false, h0, h3, w1, c, decide_false]
  rfl

theorem next_one (w : List AV) (d : Bool) (h2 : w.length < 8796093022208) (n : Nat) (hn : numOf (w.take 2) = (n : Int)) (h1 : 1 ≤ n) (h4 : n ≤ 4096) (hw : 2 + n ≤ w.length) : g_link_Link_next_p500 w d = some ((w.drop 2).take n, true, w.drop (2 + n), d) := by
  have a := New_eq w h2
  have b := next_num w (by omega) h2
  have w1 : IntKind.i64.wrap (n : Int) = n := i64_wrap (by omega) (by omega)
  have c := Take_eq (n : Int) w 2 (by omega) h2
  rw [if_neg (by omega), if_neg (by omega), Int.toNat_natCast] at c
  have c : g_cursor_Cursor_Take_p0500 (n : Int) w 2 = some ((w.drop 2).take n, 0, w, ((2 + n : Nat) : Int)) := c
  have h0 : ((n : Int) == 0) = false := by simp; omega
  have h3 : ¬ ((n : Int) > 4096) := by omega
  have q1 : (w.length : Int) ≤ w.length := by omega
  have q2 : (0 : Int) ≤ ((2 + n : Nat) : Int) := by omega
  have q3 : ((2 + n : Nat) : Int) ≤ w.length := by omega
  unfold g_link_Link_next_p500
  simp only [T_link_Link_next_p500, Tr.val_c, Tr.val_r, val_opt, a, b, hn, Option.bind_some, bne_self_eq_false, cond_false, cond_true, h0, h3, w1, c, q1, q2, q3, decide_false, decide_true, Int.toNat_natCast, List.take_length]

theorem every_none (w w' : List AV) (d d' : Bool) (h : g_link_Link_next_p500 w d = some ([], false, w', d')) : g_link_every_fnext_p500 w d = some ([], w', d') := by
  unfold g_link_every_fnext_p500
  rw [run_inl (s := ([], false, w', d', [])) (by simp only [T_link_every_fnext_p500, Tr.val_c, Tr.val_r, val_opt, h, Option.bind_some])]
  exact run_inr (by simp only [M_link_every_fnext_p500, Tr.val_c, Tr.val_r, cond_false, cond_true, beq_self_eq_true])

theorem every_one (w w1 w2 b : List AV) (d d1 d2 : Bool) (h : g_link_Link_next_p500 w d = some (b, true, w1, d1)) (h' : g_link_Link_next_p500 w1 d1 = some ([], false, w2, d2)) : g_link_every_fnext_p500 w d = some ([.slice 1 (.int .u8) b .ro], w2, d2) := by
  unfold g_link_every_fnext_p500
  rw [run_inl (s := (b, true, w1, d1, [])) (by simp only [T_link_every_fnext_p500, Tr.val_c, Tr.val_r, val_opt, h, Option.bind_some])]
  rw [run_inl (s := ([], false, w2, d2, [.slice 1 (.int .u8) b .ro])) (by
    simp only [M_link_every_fnext_p500, Tr.val_c, Tr.val_r, val_opt, h', Option.bind_some, cond_true, beq_self_eq_true, List.nil_append]; rfl)]
  exact run_inr (by simp only [M_link_every_fnext_p500, Tr.val_c, Tr.val_r, cond_false, cond_true, beq_self_eq_true])

theorem Feed_eq (x w w' fr : List AV) (d : Bool) (hl : w.length + x.length < 8796093022208) (h : g_link_every_fnext_p500 (w ++ x) false = some (fr, w', d)) : g_link_Link_Feed_p0500 x w false = some (if d = true then ([], 4, w', true) else (fr, 0, w', false)) := by
  have c := Concat_eq w x (by omega)
  unfold g_link_Link_Feed_p0500
  simp only [T_link_Link_Feed_p0500, Tr.val_c, Tr.val_r, val_opt, c, h, Option.bind_some, Bool.not_false, cond_true]
  cases d <;> rfl

theorem Feed_dead (x w : List AV) : g_link_Link_Feed_p0500 x w true = some ([], 4, w, true) := by
  unfold g_link_Link_Feed_p0500
  simp only [T_link_Link_Feed_p0500, Tr.val_c, Tr.val_r, val_opt, Bool.not_true, cond_false, cond_true]

theorem Frame_eq (A : List AV) (h1 : 1 ≤ A.length) (h : A.length ≤ 4096) : g_link_Frame A = some (bex (A.length : Int) 2 ++ A, 0) := by
  have p := Put_eq [] (A.length : Int) 2 2 (by simp) (by omega) (by decide)
  have c := Concat_eq (bex (A.length : Int) 2) A (by simp; omega)
  have w : IntKind.u64.wrap (A.length : Int) = A.length := u64_wrap (by omega) (by omega)
  have q1 : ((A.length : Int) == 0) = false := by simp; intro h; rw [h] at h1; simp at h1
  have q2 : ¬ ((A.length : Int) > 4096) := by omega
  rw [List.nil_append] at p
  unfold g_link_Frame
  simp only [T_link_Frame, Tr.val_c, Tr.val_r, val_opt, q1, q2, w, p, c, Option.bind_some, decide_false, cond_false]

theorem Frame_big (A : List AV) (h1 : 1 ≤ A.length) (h : 4096 < A.length) (hl : A.length < 100000) : g_link_Frame A = some ([], 4) := by
  have q1 : ((A.length : Int) == 0) = false := by simp; intro h; rw [h] at h1; simp at h1
  have q2 : ((A.length : Int) > 4096) := by omega
  unfold g_link_Frame
  simp only [T_link_Frame, Tr.val_c, Tr.val_r, val_opt, q1, q2, decide_true, cond_true, cond_false]

theorem take_hdr (v : Nat) (r : List AV) : (bex (v : Int) 2 ++ r).take 2 = bex (v : Int) 2 := List.take_left' (by simp)

theorem awake06 : g_comptoirlaw06_awake = some true := by
  have hn : numOf (([AV.int .u8 0, .int .u8 1, .int .u8 7] : List AV).take 2) = ((1 : Nat) : Int) := by kernel_rfl
  have a := next_one [.int .u8 0, .int .u8 1, .int .u8 7] false (by simp) 1 hn (by omega) (by omega) (by simp)
  have b := next_short [] false (by simp)
  have e := every_one [.int .u8 0, .int .u8 1, .int .u8 7] [] [] [.int .u8 7] false false false a b
  have f := Feed_eq [.int .u8 0, .int .u8 1, .int .u8 7] [] [] _ false (by simp) e
  have g := Frame_eq [.int .u8 7] (by simp) (by simp)
  rw [if_neg (by decide)] at f
  unfold g_comptoirlaw06_awake
  simp only [T_comptoirlaw06_awake, Tr.val_c, Tr.val_r, val_opt, f, g, Option.bind_some]
  rfl

/- rows of bytes -/
def slb (b : List UInt8) : AV := .slice 1 (.int .u8) (bl b) .ro
@[simp] theorem getXs_slb (b : List UInt8) : getXs (slb b) = bl b := rfl
@[simp] theorem length_bl (b : List UInt8) : (bl b).length = b.length := by simp [bl]
theorem wf_rows : ∀ {xs : List AV}, (∀ y ∈ xs, Wf (.slice 1 (.int .u8)) y) → ∃ L : List (List UInt8), xs = L.map slb
  | [], _ => ⟨[], rfl⟩
  | x :: xs, h => by
    obtain ⟨L, hL⟩ := wf_rows (xs := xs) fun y hy => h y (by simp [hy])
    obtain ⟨b, hb, _⟩ := wf_bytes (h x (by simp))
    exact ⟨b :: L, by rw [hb, hL]; rfl⟩
theorem slb_getD (L : List (List UInt8)) (i : Nat) : (L.map slb).getD i (.slice 1 (.int .u8) [] .ro) = slb (L.getD i []) := by
  rw [List.getD_eq_getElem?_getD, List.getD_eq_getElem?_getD, List.getElem?_map]
  cases L[i]? <;> rfl

theorem Same_self (L : List AV) (hL : L.length < 8796093022208) : g_comptoirhelp_Same_byte_00fBytes_ L L = some true := by
  unfold g_comptoirhelp_Same_byte_00fBytes_
  rw [run_inl (s := (0 : Int)) (by simp only [T_comptoirhelp_Same_byte_00fBytes_, Tr.val_c, Tr.val_r, bne_self_eq_false, cond_false])]
  exact run_until (f := fun i => (i : Int)) (n := L.length) (fun i hi => by
    have q1 : (i : Int) < L.length := by omega
    have q2 : (0 : Int) ≤ i := by omega
    have w : IntKind.i64.wrap ((i : Int) + 1) = ((i + 1 : Nat) : Int) := by rw [i64_wrap (by omega) (by omega)]; omega
    simp only [M_comptoirhelp_Same_byte_00fBytes_, Tr.val_c, Tr.val_r, q1, q2, w, decide_true, cond_true, beq_self_eq_true, Bool.not_true, cond_false]) (by
    have q1 : ¬ ((L.length : Int) < L.length) := by omega
    simp only [M_comptoirhelp_Same_byte_00fBytes_, Tr.val_c, Tr.val_r, q1, decide_false, cond_false])


/- frames in parts -/
def encF (b : List UInt8) : List AV := bex (b.length : Int) 2 ++ bl b
def FrOk (b : List UInt8) : Prop := 1 ≤ b.length ∧ b.length ≤ 4096
theorem encF_len (b : List UInt8) : (encF b).length = 2 + b.length := by simp [encF, bl]
/-- What is told of a row's beginning. -/
def Told (Ms : List (List UInt8)) (w : List AV) (j : Nat) (w' : List AV) : Prop :=
  w = (Ms.take j).flatMap encF ++ w' ∧ (∃ r, w' ++ r = (Ms.drop j).flatMap encF) ∧ ∀ M t, Ms.drop j = M :: t → w'.length < (encF M).length
theorem every_row : ∀ (Ms : List (List UInt8)), (∀ M ∈ Ms, FrOk M) → ∀ (w r : List AV), w ++ r = Ms.flatMap encF → w.length < 1000000 → ∀ (b : List AV) (acc : List AV), acc.length + w.length < 10000000 →
    ∃ j w', j ≤ Ms.length ∧ Told Ms w j w' ∧ (∃ y, g_link_Link_next_p500 w false = some y ∧ ∀ x0 x1, run (M_link_every_fnext_p500 x0 x1) (.r (.inl (y.1, y.2.1, y.2.2.1, y.2.2.2, acc))) = some (acc ++ (Ms.take j).map slb, w', false))
  | [], _, w, r, hw, _, b, acc, _ => by
    have hw0 : w = [] := by
      simp only [List.flatMap_nil, List.append_eq_nil_iff] at hw
      exact hw.1
    subst hw0
    refine ⟨0, [], by simp, ⟨by simp, ⟨[], by simp⟩, fun M t h => by simp at h⟩, _, next_short [] false (by simp), fun x0 x1 => ?_⟩
    refine (run_inl (s := ([], false, [], false, acc)) rfl).trans ?_
    exact run_inr (by simp only [M_link_every_fnext_p500, Tr.val_c, Tr.val_r, cond_false, cond_true, beq_self_eq_true, List.take_nil, List.map_nil, List.append_nil])
  | M :: Ms, hM, w, r, hw, hl, b, acc, ha => by
    obtain ⟨m1, m2⟩ := hM M List.mem_cons_self
    by_cases hs : w.length < (encF M).length
    · -- not whole
      have tell : g_link_Link_next_p500 w false = some ([], false, w, false) := by
        by_cases h2 : w.length < 2
        · exact next_short w false h2
        · have hk : w.take 2 = bex (M.length : Int) 2 := by
            have e : (w ++ r).take 2 = ((M :: Ms).flatMap encF).take 2 := by rw [hw]
            rw [List.take_append_of_le_length (by omega)] at e
            rw [e, List.flatMap_cons, encF, List.append_assoc]
            exact List.take_left' (by simp)
          rw [encF_len] at hs
          exact next_wait w false (by omega) (by omega) M.length (by rw [hk, numOf_bex _ 2 (by omega), Nat.mod_eq_of_lt (by omega)]) m1 m2 hs
      refine ⟨0, w, by simp, ⟨by simp, ⟨r, by simpa using hw⟩, fun M' t h => ?_⟩, _, tell, fun x0 x1 => ?_⟩
      · simp only [List.drop_zero, List.cons.injEq] at h
        rw [← h.1]; exact hs
      · refine (run_inl (s := ([], false, w, false, acc)) rfl).trans ?_
        exact run_inr (by simp only [M_link_every_fnext_p500, Tr.val_c, Tr.val_r, cond_false, cond_true, beq_self_eq_true, List.take_zero, List.map_nil, List.append_nil])
    · -- whole
      obtain ⟨w1, rfl⟩ : ∃ w1, w = encF M ++ w1 := by
        refine ⟨w.drop (encF M).length, ?_⟩
        have e : (w ++ r).take (encF M).length = encF M := by rw [hw, List.flatMap_cons]; exact List.take_left' rfl
        rw [List.take_append_of_le_length (by omega)] at e
        conv => lhs; rw [← List.take_append_drop (encF M).length w, e]
      rw [List.flatMap_cons, List.append_assoc] at hw
      have hw1 := List.append_cancel_left hw
      rw [List.length_append] at hl ha
      obtain ⟨j, w', hj, ⟨t1, t2, t3⟩, y, hy, hrun⟩ := every_row Ms (fun M' h => hM M' (List.mem_cons_of_mem _ h)) w1 r hw1 (by omega) b (acc ++ [slb M]) (by simp only [List.length_append, List.length_cons, List.length_nil]; have := encF_len M; omega)
      have hk : (encF M ++ w1).take 2 = bex (M.length : Int) 2 := by
        rw [encF, List.append_assoc]; exact List.take_left' (by simp)
      have one := next_one (encF M ++ w1) false (by rw [List.length_append]; omega) M.length (by rw [hk, numOf_bex _ 2 (by omega), Nat.mod_eq_of_lt (by omega)]) m1 m2 (by rw [List.length_append, encF_len]; omega)
      have e1 : ((encF M ++ w1).drop 2).take M.length = bl M := by
        rw [encF, List.append_assoc, List.drop_left' (by simp)]; exact List.take_left' (by simp [bl])
      have e2 : (encF M ++ w1).drop (2 + M.length) = w1 := List.drop_left' (by rw [encF_len])
      rw [e1, e2] at one
      refine ⟨j + 1, w', by simp; omega, ⟨?_, ?_, ?_⟩, _, one, fun x0 x1 => ?_⟩
      · rw [List.take_succ_cons, List.flatMap_cons, List.append_assoc, ← t1]
      · rw [List.drop_succ_cons]; exact t2
      · rw [List.drop_succ_cons]; exact t3
      · have hb : ∀ z : AV, (acc ++ [z]).length * 25 < 70368744177664 := fun z => by simp only [List.length_append, List.length_cons, List.length_nil]; omega
        refine (run_inl (s := (bl M, true, w1, false, acc)) rfl).trans ?_
        rw [run_inl (s := (y.1, y.2.1, y.2.2.1, y.2.2.2, acc ++ [slb M])) (by
          simp only [M_link_every_fnext_p500, Tr.val_c, Tr.val_r, val_opt, hy, hb, Option.bind_some, decide_true, cond_true, beq_self_eq_true]; rfl)]
        have h := hrun x0 x1
        rw [run_inl (s := (y.1, y.2.1, y.2.2.1, y.2.2.2, acc ++ [slb M])) rfl] at h
        rw [h]
        simp
theorem Feed_row (Ms : List (List UInt8)) (hM : ∀ M ∈ Ms, FrOk M) (w x r : List AV) (hw : (w ++ x) ++ r = Ms.flatMap encF) (hl : w.length + x.length < 1000000) :
    ∃ j w', j ≤ Ms.length ∧ Told Ms (w ++ x) j w' ∧ g_link_Link_Feed_p0500 x w false = some ((Ms.take j).map slb, 0, w', false) := by
  obtain ⟨j, w', hj, ht, y, hy, hrun⟩ := every_row Ms hM (w ++ x) r hw (by rw [List.length_append]; exact hl) [] [] (by simp only [List.length_nil, List.length_append]; omega)
  have he : g_link_every_fnext_p500 (w ++ x) false = some ((Ms.take j).map slb, w', false) := by
    unfold g_link_every_fnext_p500
    have h := hrun (w ++ x) false
    rw [run_inl (s := (y.1, y.2.1, y.2.2.1, y.2.2.2, [])) rfl] at h
    rw [run_inl (s := (y.1, y.2.1, y.2.2.1, y.2.2.2, [])) (by simp only [T_link_every_fnext_p500, Tr.val_c, Tr.val_r, val_opt, hy, Option.bind_some]), h]
    simp
  have f := Feed_eq x w w' _ false (by omega) he
  exact ⟨j, w', hj, ht, by rw [f]; rfl⟩

def mB (n i : Nat) : List UInt8 := (List.range n).map fun k => UInt8.ofNat (i + k)
theorem mB_len (n i : Nat) : (mB n i).length = n := by simp [mB]
theorem mB_succ (n i : Nat) : mB (n + 1) i = mB n i ++ [UInt8.ofNat (i + n)] := by simp [mB, List.range_succ]
def nS (S : List AV) (i : Nat) : Nat := 1 + (IntKind.u64.wrap (getI (S.getD i (.int .i64 0)))).toNat % 300
def MsL (S : List AV) (c : Nat) : List (List UInt8) := (List.range c).map fun i => mB (nS S i) i
theorem MsL_succ (S : List AV) (c : Nat) : MsL S (c + 1) = MsL S c ++ [mB (nS S c) c] := by simp [MsL, List.range_succ]
theorem nS_bounds (S : List AV) (i : Nat) : 1 ≤ nS S i ∧ nS S i ≤ 300 := by
  have := Nat.mod_lt (IntKind.u64.wrap (getI (S.getD i (.int .i64 0)))).toNat (show 300 > 0 by omega)
  unfold nS; omega
theorem MsL_ok (S : List AV) (c : Nat) : ∀ M ∈ MsL S c, FrOk M := by
  intro M hM
  simp only [MsL, List.mem_map] at hM
  obtain ⟨i, _, rfl⟩ := hM
  have := nS_bounds S i
  unfold FrOk
  rw [mB_len]; omega
theorem flat_len (S : List AV) : ∀ c : Nat, ((MsL S c).flatMap encF).length ≤ 302 * c
  | 0 => by simp [MsL]
  | c + 1 => by
    have := flat_len S c
    have := nS_bounds S c
    rw [MsL_succ, List.flatMap_append, List.length_append]
    simp only [List.flatMap_cons, List.flatMap_nil, List.append_nil, encF_len, mB_len]
    omega
theorem u8_nat' (n : Nat) : IntKind.u8.wrap (n : Int) = ((n % 256 : Nat) : Int) := by
  simp [IntKind.wrap, IntKind.signed, IntKind.bits]
theorem byte_nat (n : Nat) : AV.int .u8 (IntKind.u8.wrap (n : Int)) = byte (UInt8.ofNat n) := by
  rw [u8_nat', byte]
  congr 2
theorem set_mid (A R : List AV) (x y : AV) : (A ++ x :: R).set A.length y = A ++ y :: R := by
  rw [List.set_append_right _ _ (Nat.le_refl _)]; simp

section
variable (S C : List AV)
noncomputable abbrev lpRun (s) := run (M_comptoirlaw06_LinkParts S C) (M_comptoirlaw06_LinkParts S C s)
set_option maxRecDepth 100000 in
theorem lp_inner (n i : Nat) (A W : List AV) (hi : i < 12) (hn : n ≤ 300) : lpRun S C (.inr (.inr (.inr (.inl (((n : Int), List.replicate n (.int .u8 0), 0, (i : Int), A, W)))))) = lpRun S C (.inr (.inr (.inr (.inl (((n : Int), bl (mB n i), (n : Int), (i : Int), A, W)))))) := by
  have := run_count (step := M_comptoirlaw06_LinkParts S C) (f := fun k => (.inr (.inr (.inr (.inl (((n : Int), bl (mB k i) ++ List.replicate (n - k) (AV.int .u8 0), (k : Int), (i : Int), A, W))))))) (n := n) fun k hk => by
    have q1 : (k : Int) < (n : Int) := by omega
    have q2 : (0 : Int) ≤ (k : Int) := by omega
    have lk : (bl (mB k i)).length = k := by simp [bl, mB_len]
    have ll : (bl (mB k i) ++ List.replicate (n - k) (AV.int .u8 0)).length = n := by rw [List.length_append, lk, List.length_replicate]; omega
    have w1 : IntKind.i64.wrap ((i : Int) + (k : Int)) = ((i + k : Nat) : Int) := by rw [i64_wrap (by omega) (by omega)]; omega
    have w2 : IntKind.i64.wrap ((k : Int) + 1) = ((k + 1 : Nat) : Int) := by rw [i64_wrap (by omega) (by omega)]; omega
    have hr : List.replicate (n - k) (AV.int .u8 0) = .int .u8 0 :: List.replicate (n - (k + 1)) (.int .u8 0) := by
      rw [show n - k = (n - (k + 1)) + 1 by omega]; rfl
    have hs : (bl (mB k i) ++ List.replicate (n - k) (AV.int .u8 0)).set k (.int .u8 (IntKind.u8.wrap ((i + k : Nat) : Int))) = bl (mB (k + 1) i) ++ List.replicate (n - (k + 1)) (.int .u8 0) := by
      have := set_mid (bl (mB k i)) (List.replicate (n - (k + 1)) (.int .u8 0)) (.int .u8 0) (.int .u8 (IntKind.u8.wrap ((i + k : Nat) : Int)))
      rw [lk, ← hr] at this
      rw [this, byte_nat, mB_succ]
      simp [bl]
    have ls : (bl (mB (k + 1) i) ++ List.replicate (n - (k + 1)) (AV.int .u8 0)).length = n := by rw [List.length_append, List.length_replicate]; simp only [bl, List.length_map, mB_len]; omega
    simp only [M_comptoirlaw06_LinkParts, Tr.val_c, Tr.val_r, q1, q2, ll, w1, w2, Int.toNat_natCast, hk, hs, ls, decide_true, beq_self_eq_true, cond_true]
  have e0 : bl (mB 0 i) ++ List.replicate (n - 0) (AV.int .u8 0) = List.replicate n (.int .u8 0) := by simp [mB, bl]
  have e1 : bl (mB n i) ++ List.replicate (n - n) (AV.int .u8 0) = bl (mB n i) := by simp
  simp only [e0, e1] at this
  exact this
set_option maxRecDepth 100000 in
theorem lp_fill (c : Nat) (hc : c ≤ 12) (hS : c ≤ S.length) : lpRun S C (.inl ((0, [], []))) = lpRun S C (.inl (((c : Int), (MsL S c).flatMap encF, (MsL S c).map slb))) := by
  induction c with
  | zero => simp [MsL]
  | succ c ih =>
    rw [ih (by omega) (by omega)]
    have q1 : (c : Int) < (S.length : Int) := by omega
    have q2 : (c : Int) < 12 := by omega
    have q3 : (0 : Int) ≤ (c : Int) := by omega
    obtain ⟨n1, n2⟩ := nS_bounds S c
    have wn : IntKind.i64.wrap (1 + IntKind.i64.wrap (Int.tmod (IntKind.u64.wrap (getI (S.getD c (.int .i64 0)))) 300)) = ((nS S c : Nat) : Int) := by
      obtain ⟨u, hu, hl⟩ : ∃ n : Nat, IntKind.u64.wrap (getI (S.getD c (.int .i64 0))) = (n : Int) ∧ n < 18446744073709551616 := by
        obtain ⟨h0, h1⟩ := u64_bounds (getI (S.getD c (.int .i64 0)))
        exact ⟨_, (Int.toNat_of_nonneg h0).symm, by omega⟩
      unfold nS
      rw [hu]
      have e : Int.tmod (u : Int) 300 = ((u % 300 : Nat) : Int) := by rw [Int.tmod_eq_emod_of_nonneg (by omega)]; omega
      have h3 : u % 300 < 300 := Nat.mod_lt _ (by omega)
      have w1 : IntKind.i64.wrap ((u % 300 : Nat) : Int) = ((u % 300 : Nat) : Int) := i64_wrap (by omega) (by omega)
      rw [e, w1, i64_wrap (by omega) (by omega), Int.toNat_natCast]
      omega
    have q4 : (0 : Int) ≤ ((nS S c : Nat) : Int) := by omega
    have q5 : nS S c * 2 < 70368744177664 := by omega
    have lm : (bl (mB (nS S c) c)).length = nS S c := by simp [bl, mB_len]
    have fl := flat_len S c
    have fr := Frame_eq (bl (mB (nS S c) c)) (by omega) (by omega)
    have eF : bex ((bl (mB (nS S c) c)).length : Int) 2 ++ bl (mB (nS S c) c) = encF (mB (nS S c) c) := by rw [lm]; unfold encF; rw [mB_len]
    rw [eF] at fr
    have lE := encF_len (mB (nS S c) c)
    rw [mB_len] at lE
    have b1 : ((MsL S c).flatMap encF ++ encF (mB (nS S c) c)).length * 2 < 70368744177664 := by rw [List.length_append, lE]; omega
    have b2 : ∀ z : AV, ((MsL S c).map slb ++ [z]).length * 25 < 70368744177664 := fun z => by simp [MsL]; omega
    have w2 : IntKind.i64.wrap ((c : Int) + 1) = ((c + 1 : Nat) : Int) := by rw [i64_wrap (by omega) (by omega)]; omega
    have q0 : ¬ (((nS S c : Nat) : Int) < ((nS S c : Nat) : Int)) := by omega
    unfold lpRun
    rw [run_inl (s := (.inr (.inl (((c : Int), (MsL S c).flatMap encF, (MsL S c).map slb))))) (by simp only [M_comptoirlaw06_LinkParts, Tr.val_c, Tr.val_r, q1, q2, decide_true, cond_true])]
    rw [run_inl (s := (.inr (.inr (.inr (.inl ((((nS S c : Nat) : Int), List.replicate (nS S c) (AV.int .u8 0), 0, (c : Int), (MsL S c).flatMap encF, (MsL S c).map slb))))))) (by
      simp only [M_comptoirlaw06_LinkParts, Tr.val_c, Tr.val_r, q1, q3, q4, q5, wn, Int.toNat_natCast, List.length_replicate, decide_true, beq_self_eq_true, cond_true])]
    have inner := lp_inner S C (nS S c) c ((MsL S c).flatMap encF) ((MsL S c).map slb) (by omega) n2
    unfold lpRun at inner
    rw [inner]
    rw [run_inl (s := (.inl ((((c + 1 : Nat) : Int), (MsL S c).flatMap encF ++ encF (mB (nS S c) c), (MsL S c).map slb ++ [slb (mB (nS S c) c)])))) (by
      simp only [M_comptoirlaw06_LinkParts, Tr.val_c, Tr.val_r, val_opt, q0, fr, b1, b2, w2, Option.bind_some, decide_true, decide_false, beq_self_eq_true, Bool.and_self, Bool.true_and, bne_self_eq_false, cond_true, cond_false]; rfl)]
    rw [MsL_succ]
    simp [List.flatMap_append]

/-- What is so between two feeds. -/
structure LpInv (Ms : List (List UInt8)) (A : List AV) (at' j : Nat) (w : List AV) : Prop where
  le : at' ≤ A.length
  jle : j ≤ Ms.length
  tot : w.length ≤ at'
  rest : w ++ A.drop at' = (Ms.drop j).flatMap encF
  part : ∀ M t, Ms.drop j = M :: t → w.length < (encF M).length
theorem LpInv.feed {Ms : List (List UInt8)} (hM : ∀ M ∈ Ms, FrOk M) {A : List AV} (hA : A.length < 100000) {at' j : Nat} {w : List AV} (I : LpInv Ms A at' j w) (n : Nat) (hn : at' + n ≤ A.length) :
    ∃ j' w', LpInv Ms A (at' + n) (j + j') w' ∧ g_link_Link_Feed_p0500 ((A.drop at').take n) w false = some (((Ms.drop j).take j').map slb, 0, w', false) := by
  have e : A.drop at' = (A.drop at').take n ++ A.drop (at' + n) := by
    conv => lhs; rw [← List.take_append_drop n (A.drop at')]
    rw [List.drop_drop]
  have hr := I.rest
  rw [e, ← List.append_assoc] at hr
  have lw := I.tot
  have la := I.le
  have lx : ((A.drop at').take n).length ≤ A.length := by rw [List.length_take, List.length_drop]; omega
  obtain ⟨j', w', h1, ⟨t1, ⟨r', t2⟩, t3⟩, hf⟩ := Feed_row (Ms.drop j) (fun M h => hM M (List.mem_of_mem_drop h)) w ((A.drop at').take n) (A.drop (at' + n)) hr (by omega)
  refine ⟨j', w', ⟨hn, ?_, ?_, ?_, ?_⟩, hf⟩
  · rw [List.length_drop] at h1; have := I.jle; omega
  · have hl := congrArg List.length t1
    simp only [List.length_append] at hl
    have := I.tot
    have lx2 : ((A.drop at').take n).length ≤ n := by rw [List.length_take]; omega
    omega
  · rw [t1, List.append_assoc] at hr
    have hs : (Ms.drop j).flatMap encF = ((Ms.drop j).take j').flatMap encF ++ ((Ms.drop j).drop j').flatMap encF := by rw [← List.flatMap_append, List.take_append_drop]
    rw [hs] at hr
    have := List.append_cancel_left hr
    rw [List.drop_drop] at this
    exact this
  · intro M t h
    refine t3 M t ?_
    rw [List.drop_drop]; exact h
end

section
variable (S C : List AV)
theorem lp_pad (A : List AV) (a n : Nat) (h : a + n ≤ A.length) : List.drop a (List.take (a + n) A) = (A.drop a).take n := by
  rw [List.drop_take]; congr 1; omega
/-- All is fed. -/
theorem lp_end (Ms : List (List UInt8)) (hml : Ms.length < 1000) (A : List AV) (j : Nat) (w : List AV) (I : LpInv Ms A A.length j w) (i : Int) : lpRun S C (.inr (.inr (.inr (.inr (.inr (.inr (.inr (.inr (.inl ((A, (A.length : Int), Ms.map slb, w, false, (Ms.take j).map slb, i))))))))))) = some true := by
  have hr := I.rest
  rw [List.drop_length, List.append_nil] at hr
  have hd : Ms.drop j = [] := by
    cases h : Ms.drop j with
    | nil => rfl
    | cons M t =>
      have := I.part M t h
      rw [hr, h, List.flatMap_cons, List.length_append] at this
      omega
  have ht : Ms.take j = Ms := by
    have := List.take_append_drop j Ms
    rw [hd, List.append_nil] at this
    exact this
  have q0 : ¬ ((A.length : Int) < (A.length : Int)) := by omega
  have s := Same_self (Ms.map slb) (by rw [List.length_map]; omega)
  rw [ht]
  unfold lpRun
  exact run_inr (by simp only [M_comptoirlaw06_LinkParts, Tr.val_c, Tr.val_r, val_opt, q0, s, decide_false, beq_self_eq_true, Option.bind_some, cond_true, cond_false])
set_option maxRecDepth 100000 in
theorem lp_step (Ms : List (List UInt8)) (hM : ∀ M ∈ Ms, FrOk M) (hml : Ms.length < 1000) (A : List AV) (hA : A.length < 100000) (hC : C.length < TOP) (i at' j : Nat) (w : List AV) (I : LpInv Ms A at' j w) (hlt : at' < A.length) (hi : i ≤ 1000)
    (k : ∀ n j', i < 80 → ∀ w', LpInv Ms A (at' + n) (j + j') w' → lpRun S C (.inr (.inr (.inr (.inr (.inr (.inr (.inr (.inr (.inl ((A, ((at' + n : Nat) : Int), Ms.map slb, w', false, (Ms.take (j + j')).map slb, ((i + 1 : Nat) : Int)))))))))))) = some true) :
    lpRun S C (.inr (.inr (.inr (.inr (.inr (.inr (.inr (.inr (.inl ((A, (at' : Int), Ms.map slb, w, false, (Ms.take j).map slb, (i : Int)))))))))))) = some true := by
  have q1 : (at' : Int) < (A.length : Int) := by omega
  have w0 : IntKind.i64.wrap ((A.length : Int) - (at' : Int)) = ((A.length - at' : Nat) : Int) := by rw [i64_wrap (by omega) (by omega)]; omega
  -- feeding so many
  have feed : ∀ n, at' + n ≤ A.length → (n = A.length - at' ∨ i < 80) → lpRun S C (.inr (.inr (.inr (.inr (.inr (.inr (.inr (.inr (.inr (.inr ((A, (at' : Int), (n : Int), Ms.map slb, w, false, (Ms.take j).map slb, (i : Int))))))))))))) = some true := by
    intro n hn hor
    obtain ⟨j', w', I', hf⟩ := I.feed hM hA n hn
    have w1 : IntKind.i64.wrap ((at' : Int) + (n : Int)) = ((at' + n : Nat) : Int) := by rw [i64_wrap (by omega) (by omega)]; omega
    have w2 : IntKind.i64.wrap ((i : Int) + 1) = ((i + 1 : Nat) : Int) := by rw [i64_wrap (by omega) (by omega)]; omega
    have k0 : (0 : Int) ≤ ((at' + n : Nat) : Int) := by omega
    have k1 : ((at' + n : Nat) : Int) ≤ (A.length : Int) := by omega
    have k2 : (0 : Int) ≤ (at' : Int) := by omega
    have k3 : (at' : Int) ≤ ((at' + n : Nat) : Int) := by omega
    have ht : (Ms.take j).map slb ++ ((Ms.drop j).take j').map slb = (Ms.take (j + j')).map slb := by rw [← List.map_append, ← List.take_add]
    have lb : ((Ms.take (j + j')).map slb).length * 25 < 70368744177664 := by rw [List.length_map, List.length_take]; omega
    unfold lpRun
    rw [run_inl (s := (.inr (.inr (.inr (.inr (.inr (.inr (.inr (.inr (.inl ((A, ((at' + n : Nat) : Int), Ms.map slb, w', false, (Ms.take (j + j')).map slb, ((i + 1 : Nat) : Int))))))))))))) (by
      simp only [M_comptoirlaw06_LinkParts, Tr.val_c, Tr.val_r, val_opt, w1, w2, k0, k1, k2, k3, Int.toNat_natCast, lp_pad A at' n hn, hf, ht, lb, decide_true, beq_self_eq_true, bne_self_eq_false, Option.bind_some, cond_true, cond_false])]
    rcases hor with h | h
    · have e : at' + n = A.length := by omega
      rw [e] at I' ⊢
      exact lp_end S C Ms hml A (j + j') w' I' _
    · exact k n j' h w' I'
  have all := feed (A.length - at') (by omega) (.inl rfl)
  unfold lpRun at all feed ⊢
  by_cases hc : (i : Int) < (C.length : Int)
  · by_cases h8 : (i : Int) < 80
    · obtain ⟨u, hu, hl⟩ : ∃ n : Nat, IntKind.u64.wrap (getI (C.getD i (.int .i64 0))) = (n : Int) ∧ n < 18446744073709551616 := by
        obtain ⟨h0, h1⟩ := u64_bounds (getI (C.getD i (.int .i64 0)))
        exact ⟨_, (Int.toNat_of_nonneg h0).symm, by omega⟩
      have e : Int.tmod (u : Int) 200 = ((u % 200 : Nat) : Int) := by rw [Int.tmod_eq_emod_of_nonneg (by omega)]; omega
      have h3 : u % 200 < 200 := Nat.mod_lt _ (by omega)
      generalize u % 200 = v at e h3
      have wv : IntKind.i64.wrap (v : Int) = (v : Int) := i64_wrap (by omega) (by omega)
      have q3 : (0 : Int) ≤ (i : Int) := by omega
      have hmin : (if (v : Int) < ((A.length - at' : Nat) : Int) then (v : Int) else ((A.length - at' : Nat) : Int)) = ((min v (A.length - at') : Nat) : Int) := by split <;> omega
      rw [run_inl (s := (.inr (.inr (.inr (.inr (.inr (.inr (.inr (.inr (.inr (.inl ((A, (at' : Int), ((A.length - at' : Nat) : Int), Ms.map slb, w, false, (Ms.take j).map slb, true, (i : Int)))))))))))))) (by
        simp only [M_comptoirlaw06_LinkParts, Tr.val_c, Tr.val_r, q1, hc, h8, w0, decide_true, cond_true])]
      rw [run_inl (s := (.inr (.inr (.inr (.inr (.inr (.inr (.inr (.inr (.inr (.inr ((A, (at' : Int), ((min v (A.length - at') : Nat) : Int), Ms.map slb, w, false, (Ms.take j).map slb, (i : Int)))))))))))))) (by
        simp only [M_comptoirlaw06_LinkParts, Tr.val_c, Tr.val_r, hc, q3, Int.toNat_natCast, hu, e, wv, hmin, decide_true, cond_true])]
      exact feed _ (by omega) (.inr (by omega))
    · rw [run_inl (s := (.inr (.inr (.inr (.inr (.inr (.inr (.inr (.inr (.inr (.inl ((A, (at' : Int), ((A.length - at' : Nat) : Int), Ms.map slb, w, false, (Ms.take j).map slb, false, (i : Int)))))))))))))) (by
        simp only [M_comptoirlaw06_LinkParts, Tr.val_c, Tr.val_r, q1, hc, h8, w0, decide_true, decide_false, cond_true])]
      rw [run_inl (s := (.inr (.inr (.inr (.inr (.inr (.inr (.inr (.inr (.inr (.inr ((A, (at' : Int), ((A.length - at' : Nat) : Int), Ms.map slb, w, false, (Ms.take j).map slb, (i : Int)))))))))))))) (by
        simp only [M_comptoirlaw06_LinkParts, Tr.val_c, Tr.val_r, cond_false])]
      exact all
  · rw [run_inl (s := (.inr (.inr (.inr (.inr (.inr (.inr (.inr (.inr (.inr (.inl ((A, (at' : Int), ((A.length - at' : Nat) : Int), Ms.map slb, w, false, (Ms.take j).map slb, false, (i : Int)))))))))))))) (by
      simp only [M_comptoirlaw06_LinkParts, Tr.val_c, Tr.val_r, q1, hc, w0, decide_true, decide_false, cond_true, cond_false])]
    rw [run_inl (s := (.inr (.inr (.inr (.inr (.inr (.inr (.inr (.inr (.inr (.inr ((A, (at' : Int), ((A.length - at' : Nat) : Int), Ms.map slb, w, false, (Ms.take j).map slb, (i : Int)))))))))))))) (by
      simp only [M_comptoirlaw06_LinkParts, Tr.val_c, Tr.val_r, cond_false])]
    exact all
set_option maxRecDepth 100000 in
theorem lp_feed (Ms : List (List UInt8)) (hM : ∀ M ∈ Ms, FrOk M) (hml : Ms.length < 1000) (A : List AV) (hA : A.length < 100000) (hC : C.length < TOP) : ∀ (m i at' j : Nat) (w : List AV), 81 ≤ i + m → i ≤ 81 → LpInv Ms A at' j w →
    lpRun S C (.inr (.inr (.inr (.inr (.inr (.inr (.inr (.inr (.inl ((A, (at' : Int), Ms.map slb, w, false, (Ms.take j).map slb, (i : Int)))))))))))) = some true := by
  intro m
  induction m with
  | zero =>
    intro i at' j w hm hi I
    by_cases he : at' = A.length
    · subst he; exact lp_end S C Ms hml A j w I _
    · exact lp_step S C Ms hM hml A hA hC i at' j w I (by have := I.le; omega) (by omega) (fun n _ h80 _ _ => by omega)
  | succ m ih =>
    intro i at' j w hm hi I
    by_cases he : at' = A.length
    · subst he; exact lp_end S C Ms hml A j w I _
    · exact lp_step S C Ms hM hml A hA hC i at' j w I (by have := I.le; omega) (by omega) (fun n j' h80 w' I' => ih (i + 1) (at' + n) (j + j') w' (by omega) (by omega) I')
end

set_option maxRecDepth 100000 in
theorem lparts_eq (S C : List AV) (hC : C.length < TOP) (hS : S.length < TOP) : g_comptoirlaw06_LinkParts S C = some true := by
  have key : ∀ c, c ≤ 12 → c ≤ S.length → (¬ ((c : Int) < (S.length : Int)) ∨ ¬ ((c : Int) < 12)) → lpRun S C (.inl ((0, [], []))) = some true := by
    intro c hc hS hstop
    rw [lp_fill S C c hc hS]
    have hM := MsL_ok S c
    have fl := flat_len S c
    have ml : (MsL S c).length = c := by simp [MsL]
    generalize MsL S c = Ms at *
    generalize hA : Ms.flatMap encF = A at *
    have I0 : LpInv Ms A 0 0 [] := ⟨by omega, by omega, by simp, by simpa using hA.symm, fun M t _ => by rw [encF_len]; simp only [List.length_nil]; omega⟩
    unfold lpRun
    have s0 : run (M_comptoirlaw06_LinkParts S C) (M_comptoirlaw06_LinkParts S C (.inl (((c : Int), A, Ms.map slb)))) = run (M_comptoirlaw06_LinkParts S C) (M_comptoirlaw06_LinkParts S C (.inr (.inr (.inl ((A, Ms.map slb)))))) := by
      rcases hstop with h | h
      · exact run_inl (by simp only [M_comptoirlaw06_LinkParts, Tr.val_c, Tr.val_r, h, decide_false, cond_false])
      · by_cases h' : (c : Int) < (S.length : Int)
        · exact run_inl (by simp only [M_comptoirlaw06_LinkParts, Tr.val_c, Tr.val_r, h, h', decide_true, decide_false, cond_true, cond_false])
        · exact run_inl (by simp only [M_comptoirlaw06_LinkParts, Tr.val_c, Tr.val_r, h', decide_false, cond_false])
    rw [s0, run_inl (s := (.inr (.inr (.inr (.inr (.inl ((false, A, Ms.map slb)))))))) (by simp only [M_comptoirlaw06_LinkParts, Tr.val_c, Tr.val_r, val_opt, awake06, Option.bind_some, Bool.not_true, cond_false])]
    rw [run_inl (s := (.inr (.inr (.inr (.inr (.inr (.inl ((A, Ms.map slb))))))))) (by simp only [M_comptoirlaw06_LinkParts, Tr.val_c, Tr.val_r, cond_false])]
    by_cases hz : A.length = 0
    · -- nothing at all
      have hMs : Ms = [] := by
        cases Ms with
        | nil => rfl
        | cons M t =>
          have := (hM M List.mem_cons_self).1
          rw [← hA, List.flatMap_cons, List.length_append, encF_len] at hz
          omega
      subst hMs
      have q0 : ¬ ((0 : Int) < (A.length : Int)) := by omega
      have s := Same_self [] (by simp)
      exact run_inr (by simp only [M_comptoirlaw06_LinkParts, Tr.val_c, Tr.val_r, val_opt, q0, List.map_nil, s, decide_false, beq_self_eq_true, Option.bind_some, cond_true, cond_false])
    · have q0 : (0 : Int) < (A.length : Int) := by omega
      have w0 : IntKind.i64.wrap ((A.length : Int) - 0) = (A.length : Int) := by rw [i64_wrap (by omega) (by omega)]; omega
      have first : ∀ n : Nat, n ≤ A.length → run (M_comptoirlaw06_LinkParts S C) (M_comptoirlaw06_LinkParts S C (.inr (.inr (.inr (.inr (.inr (.inr (.inr (.inl (((n : Int), A, Ms.map slb))))))))))) = some true := by
        intro n hn
        obtain ⟨j', w', I', hf⟩ := I0.feed hM (by omega) n (by omega)
        simp only [Nat.zero_add, List.drop_zero] at I' hf
        have w1 : IntKind.i64.wrap (0 + (n : Int)) = (n : Int) := by rw [i64_wrap (by omega) (by omega)]; omega
        have k0 : (0 : Int) ≤ (n : Int) := by omega
        have k1 : (n : Int) ≤ (A.length : Int) := by omega
        have lb : ((Ms.take j').map slb).length * 25 < 70368744177664 := by rw [List.length_map, List.length_take]; omega
        rw [run_inl (s := (.inr (.inr (.inr (.inr (.inr (.inr (.inr (.inr (.inl ((A, (n : Int), Ms.map slb, w', false, (Ms.take j').map slb, 1)))))))))))) (by
          simp only [M_comptoirlaw06_LinkParts, Tr.val_c, Tr.val_r, val_opt, w1, k0, k1, Int.toNat_natCast, List.drop_zero, hf, lb, decide_true, beq_self_eq_true, bne_self_eq_false, Option.bind_some, cond_true, cond_false])]
        exact lp_feed S C Ms hM (by omega) A (by omega) hC 80 1 n j' w' (by omega) (by omega) I'
      by_cases hc0 : (0 : Int) < (C.length : Int)
      · obtain ⟨u, hu, hl⟩ : ∃ n : Nat, IntKind.u64.wrap (getI (C.getD 0 (.int .i64 0))) = (n : Int) ∧ n < 18446744073709551616 := by
          obtain ⟨h0, h1⟩ := u64_bounds (getI (C.getD 0 (.int .i64 0)))
          exact ⟨_, (Int.toNat_of_nonneg h0).symm, by omega⟩
        have e : Int.tmod (u : Int) 200 = ((u % 200 : Nat) : Int) := by rw [Int.tmod_eq_emod_of_nonneg (by omega)]; omega
        have h3 : u % 200 < 200 := Nat.mod_lt _ (by omega)
        generalize u % 200 = v at e h3
        have wv : IntKind.i64.wrap (v : Int) = (v : Int) := i64_wrap (by omega) (by omega)
        have hmin : (if (v : Int) < (A.length : Int) then (v : Int) else (A.length : Int)) = ((min v A.length : Nat) : Int) := by split <;> omega
        rw [run_inl (s := (.inr (.inr (.inr (.inr (.inr (.inr (.inl (((A.length : Int), A, Ms.map slb, true)))))))))) (by simp only [M_comptoirlaw06_LinkParts, Tr.val_c, Tr.val_r, q0, hc0, w0, decide_true, cond_true])]
        rw [run_inl (s := (.inr (.inr (.inr (.inr (.inr (.inr (.inr (.inl ((((min v A.length : Nat) : Int), A, Ms.map slb))))))))))) (by
          simp only [M_comptoirlaw06_LinkParts, Tr.val_c, Tr.val_r, hc0, hu, e, wv, hmin, decide_true, cond_true])]
        exact first _ (by omega)
      · rw [run_inl (s := (.inr (.inr (.inr (.inr (.inr (.inr (.inl (((A.length : Int), A, Ms.map slb, false)))))))))) (by simp only [M_comptoirlaw06_LinkParts, Tr.val_c, Tr.val_r, q0, hc0, w0, decide_true, decide_false, cond_true, cond_false])]
        rw [run_inl (s := (.inr (.inr (.inr (.inr (.inr (.inr (.inr (.inl (((A.length : Int), A, Ms.map slb))))))))))) (by simp only [M_comptoirlaw06_LinkParts, Tr.val_c, Tr.val_r, cond_false])]
        exact first A.length (by omega)
  unfold g_comptoirlaw06_LinkParts
  rw [run_inl (s := (.inl ((0, [], [])))) (by simp only [T_comptoirlaw06_LinkParts, Tr.val_r])]
  by_cases h : S.length ≤ 12
  · exact key S.length h (by omega) (.inl (by omega))
  · exact key 12 (by omega) (by omega) (.inr (by omega))

end Go.Proofs.Ytdkaampcgkjikaa
