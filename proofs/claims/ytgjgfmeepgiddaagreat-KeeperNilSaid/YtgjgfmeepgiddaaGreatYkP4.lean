/- What the printed functions come to, plainly. -/
import Derived.Test.YtgjgfmeepgiddaaGreatYkG4
import Derived.Test.YtgjgfmeepgiddaaGreatCxAm
namespace Go.Proofs.YtgjgfmeepgiddaaGreat
open Go.Cx Go.Cx.AV
set_option linter.unusedSimpArgs false
set_option linter.unusedVariables false
theorem Grow_eq (n : Int) (h0 : 0 ≤ n) (h : n < 35184372088832) : g_slices_Grow_byte_byte n = some [] := by
  unfold g_slices_Grow_byte_byte
  have w : IntKind.i64.wrap (n - 0) = n := by rw [Int.sub_zero]; exact i64_wrap (by omega) (by omega)
  have hn0 : ¬ (n < 0) := by omega
  have hT : (T_slices_Grow_byte_byte n).val = some (.inl (.inl ())) := by simp only [T_slices_Grow_byte_byte, Tr.val_c, Tr.val_r, hn0]; rfl
  rw [run_inl hT]
  rw [run_inl (s := .inr ())]
  · exact run_inr rfl
  · simp only [M_slices_Grow_byte_byte, Tr.val_c, Tr.val_r, w, List.length_replicate]
    by_cases hn : n > 0
    · have : n.toNat * 2 < 70368744177664 := by omega
      simp [hn, this]
    · simp [hn]
theorem Concat_eq (a b : List AV) (h : a.length + b.length < 17592186044416) : g_slices_Concat_byte_byte [.slice 1 (.int .u8) a .ro, .slice 1 (.int .u8) b .ro] = some (a ++ b) := by
  have e0 : getXs (List.getD [AV.slice 1 (.int .u8) a .ro, .slice 1 (.int .u8) b .ro] (Int.toNat 0) (.slice 1 (.int .u8) [] .ro)) = a := rfl
  have e1 : getXs (List.getD [AV.slice 1 (.int .u8) a .ro, .slice 1 (.int .u8) b .ro] (Int.toNat 1) (.slice 1 (.int .u8) [] .ro)) = b := rfl
  have w0 : IntKind.i64.wrap (0 + (a.length : Int)) = a.length := by rw [Int.zero_add]; exact i64_wrap (by omega) (by omega)
  have w1 : IntKind.i64.wrap ((a.length : Int) + b.length) = ((a.length + b.length : Nat) : Int) := by rw [i64_wrap (by omega) (by omega)]; omega
  have w2 : IntKind.i64.wrap (0 + 1) = 1 := rfl
  have w3 : IntKind.i64.wrap (1 + 1) = 2 := rfl
  have n0 : ¬ ((a.length : Int) < 0) := by omega
  have n1 : ¬ (((a.length + b.length : Nat) : Int) < 0) := by omega
  have l0 : a.length * 2 < 70368744177664 := by omega
  have l1 : (a.length + b.length) * 2 < 70368744177664 := by omega
  have gr := Grow_eq (((a.length + b.length : Nat) : Int)) (by omega) (by omega)
  unfold g_slices_Concat_byte_byte
  rw [run_inl (s := .inl (0, 0)) rfl]
  rw [run_inl (s := .inl ((a.length : Int), 1)) (by simp only [M_slices_Concat_byte_byte, Tr.val_c, Tr.val_r, e0, w0, w2, n0]; rfl)]
  rw [run_inl (s := .inl (((a.length + b.length : Nat) : Int), 2)) (by simp only [M_slices_Concat_byte_byte, Tr.val_c, Tr.val_r, e1, w1, w3, n1]; rfl)]
  rw [run_inl (s := .inr ([], 0)) (by simp only [M_slices_Concat_byte_byte, Tr.val_c, Tr.val_r, gr, opt_some]; rfl)]
  rw [run_inl (s := .inr (a, 1)) (by simp only [M_slices_Concat_byte_byte, Tr.val_c, Tr.val_r, e0, w2, List.nil_append, l0, decide_true, beq_self_eq_true]; rfl)]
  rw [run_inl (s := .inr (a ++ b, 2)) (by simp only [M_slices_Concat_byte_byte, Tr.val_c, Tr.val_r, e1, w3, List.length_append, l1, decide_true, beq_self_eq_true]; rfl)]
  exact run_inr (by simp only [M_slices_Concat_byte_byte, Tr.val_c, Tr.val_r, beq_self_eq_true]; rfl)
theorem shr8 (v : Int) : ∀ i : Nat, i < 8 → IntKind.u8.wrap (shrA .u64 v (8 * (i : Int))) = v / 256 ^ i % 256
  | 0, _ => by rw [u8_mod]; show v.fdiv 1 % 256 = _; rw [Int.fdiv_eq_ediv_of_nonneg _ (by decide)]; rfl
  | 1, _ => by rw [u8_mod]; show v.fdiv 256 % 256 = _; rw [Int.fdiv_eq_ediv_of_nonneg _ (by decide)]; rfl
  | 2, _ => by rw [u8_mod]; show v.fdiv 65536 % 256 = _; rw [Int.fdiv_eq_ediv_of_nonneg _ (by decide)]; rfl
  | 3, _ => by rw [u8_mod]; show v.fdiv 16777216 % 256 = _; rw [Int.fdiv_eq_ediv_of_nonneg _ (by decide)]; rfl
  | 4, _ => by rw [u8_mod]; show v.fdiv 4294967296 % 256 = _; rw [Int.fdiv_eq_ediv_of_nonneg _ (by decide)]; rfl
  | 5, _ => by rw [u8_mod]; show v.fdiv 1099511627776 % 256 = _; rw [Int.fdiv_eq_ediv_of_nonneg _ (by decide)]; rfl
  | 6, _ => by rw [u8_mod]; show v.fdiv 281474976710656 % 256 = _; rw [Int.fdiv_eq_ediv_of_nonneg _ (by decide)]; rfl
  | 7, _ => by rw [u8_mod]; show v.fdiv 72057594037927936 % 256 = _; rw [Int.fdiv_eq_ediv_of_nonneg _ (by decide)]; rfl
  | n + 8, h => by omega
def bex (v : Int) : Nat → List AV
  | 0 => []
  | i + 1 => .int .u8 (v / 256 ^ i % 256) :: bex v i
@[simp] theorem length_bex (v : Int) (i : Nat) : (bex v i).length = i := by induction i <;> simp [bex, *]
theorem set_last (r : List AV) (x y : AV) (j : Nat) : (List.replicate (j + 1) x ++ r).set j y = List.replicate j x ++ y :: r := by
  induction j with
  | zero => rfl
  | succ j ih => rw [List.replicate_succ (n := j + 1), List.cons_append, List.set_cons_succ, ih]; rfl
theorem Put_eq (x0 : List AV) (v n : Int) (m : Nat) (hx : x0.length < 8796093022208) (hm : m ≤ 8) (hn : (if 8 < (if 0 > n then 0 else n) then 8 else if 0 > n then 0 else n) = (m : Int)) : g_cursor_Put x0 v n = some (x0 ++ bex v m) := by
  unfold g_cursor_Put
  have hr : m * 2 < 70368744177664 := by omega
  have h0 : (0 : Int) ≤ m := by omega
  rw [run_inl (s := ((m : Int), (m : Int), List.replicate m (.int .u8 0), 0))]
  rotate_left
  · simp only [T_cursor_Put, Tr.val_c, Tr.val_r, hn, h0, Int.toNat_natCast, List.length_replicate, hr, decide_true, cond_true, beq_self_eq_true]
  have key : ∀ k i, i + k = m → run (M_cursor_Put x0 v n) (M_cursor_Put x0 v n ((m : Int), (m : Int), List.replicate k (.int .u8 0) ++ bex v i, (i : Int))) = some (x0 ++ bex v m) := by
    intro k
    induction k with
    | zero =>
      intro i hi
      have : i = m := by omega
      subst this
      have hlt : ¬ ((i : Int) < i) := by omega
      have hc := Concat_eq x0 (bex v i) (by simp; omega)
      exact run_inr (by simp only [M_cursor_Put, Tr.val_c, Tr.val_r, hlt, List.replicate_zero, List.nil_append, val_opt, hc, Option.bind_some, decide_false, cond_false, beq_self_eq_true, cond_true])
    | succ k ih =>
      intro i hi
      have q1 : (i : Int) < m := by omega
      have w1 : IntKind.i64.wrap (8 * (i : Int)) = 8 * i := i64_wrap (by omega) (by omega)
      have w2 : IntKind.i64.wrap ((m : Int) - 1) = m - 1 := i64_wrap (by omega) (by omega)
      have w3 : IntKind.i64.wrap ((m : Int) - 1 - i) = (k : Int) := by rw [i64_wrap (by omega) (by omega)]; omega
      have w4 : IntKind.i64.wrap ((i : Int) + 1) = ((i + 1 : Nat) : Int) := by rw [i64_wrap (by omega) (by omega)]; omega
      have q2 : (0 : Int) ≤ 8 * i := by omega
      have q3 : (0 : Int) ≤ k := by omega
      have hl : (List.replicate (k + 1) (AV.int .u8 0) ++ bex v i).length = m := by simp; omega
      have hl2 : (List.replicate k (AV.int .u8 0) ++ AV.int .u8 (v / 256 ^ i % 256) :: bex v i).length = m := by simp; omega
      have q4 : (k : Int) < m := by omega
      have q5 : k < m := by omega
      rw [run_inl (s := ((m : Int), (m : Int), List.replicate k (.int .u8 0) ++ bex v (i + 1), ((i + 1 : Nat) : Int)))]
      · exact ih (i + 1) (by omega)
      · simp only [M_cursor_Put, Tr.val_c, Tr.val_r, q1, w1, w2, w3, w4, q2, q3, q4, q5, hl, Int.toNat_natCast, shr8 v i (by omega), decide_true, cond_true, beq_self_eq_true, set_last, hl2]
        rfl
  have := key m 0 (by omega)
  simpa [bex] using this
theorem take_eq (n : Int) (b : List AV) (k : Nat) (hk : k ≤ b.length) (hb : b.length < 8796093022208) :
    g_cursor_Cursor_take_p0500 n b k = some (if n < 0 then ([], 1, b, (k : Int)) else if n > b.length - k then ([], 3, b, (k : Int)) else ((b.drop k).take n.toNat, 0, b, (k : Int) + n)) := by
  unfold g_cursor_Cursor_take_p0500
  have w0 : IntKind.i64.wrap ((b.length : Int) - k) = b.length - k := i64_wrap (by omega) (by omega)
  by_cases h1 : n < 0
  · simp only [T_cursor_Cursor_take_p0500, Tr.val_c, Tr.val_r, h1, decide_true, cond_true, if_true]
  · by_cases h2 : n > (b.length : Int) - k
    · simp only [T_cursor_Cursor_take_p0500, Tr.val_c, Tr.val_r, h1, h2, w0, decide_true, decide_false, cond_true, cond_false, if_true, if_false]
    · have w1 : IntKind.i64.wrap ((k : Int) + n) = k + n := i64_wrap (by omega) (by omega)
      have w2 : IntKind.i64.wrap ((k : Int) + n - n) = k := by rw [i64_wrap (by omega) (by omega)]; omega
      have q1 : (0 : Int) ≤ k + n := by omega
      have q2 : (k : Int) + n ≤ b.length := by omega
      have q3 : (0 : Int) ≤ k := by omega
      have q4 : (k : Int) ≤ k + n := by omega
      have hd : ((b.take ((k : Int) + n).toNat).drop (k : Int).toNat) = (b.drop k).take n.toNat := by
        rw [List.drop_take]; congr 1; omega
      simp only [T_cursor_Cursor_take_p0500, Tr.val_c, Tr.val_r, h1, h2, w0, w1, w2, q1, q2, q3, q4, hd, decide_true, decide_false, cond_true, cond_false, if_false]
theorem read_eq (n : Int) (b : List AV) (k : Int) : g_cursor_read_ftake_0p500 n b k = g_cursor_Cursor_take_p0500 n b k := by
  conv => lhs; unfold g_cursor_read_ftake_0p500
  simp only [T_cursor_read_ftake_0p500, Tr.val_c, Tr.val_r, val_opt]
  cases g_cursor_Cursor_take_p0500 n b k <;> rfl
def numOf (l : List AV) : Int := l.foldl (fun a x => bitsA .or .u64 (shlA .u64 a 8) (IntKind.u64.wrap (getI x))) 0
theorem Number_eq (n : Int) (b : List AV) (k : Nat) (hk : k ≤ b.length) (hb : b.length < 8796093022208) :
    g_cursor_Cursor_Number_p0500 n b k = some (if n < 1 then (0, 1, b, (k : Int)) else if n > 8 then (0, 1, b, (k : Int)) else if n > b.length - k then (0, 3, b, (k : Int)) else (numOf ((b.drop k).take n.toNat), 0, b, (k : Int) + n)) := by
  unfold g_cursor_Cursor_Number_p0500
  by_cases h1 : n < 1
  · rw [run_inr (x := (0, 1, b, (k : Int))) (by simp only [T_cursor_Cursor_Number_p0500, Tr.val_c, Tr.val_r, h1, decide_true, cond_true])]
    simp [h1]
  by_cases h2 : n > 8
  · rw [run_inr (x := (0, 1, b, (k : Int))) (by simp only [T_cursor_Cursor_Number_p0500, Tr.val_c, Tr.val_r, h1, h2, decide_true, decide_false, cond_true, cond_false])]
    simp [h1, h2]
  have loop : ∀ (e : Int) (l : List AV) (b2 : List AV) (at' : Int), l.length < 8796093022208 → ∀ m i v, i + m = l.length → run (M_cursor_Cursor_Number_p0500 n b k) (M_cursor_Cursor_Number_p0500 n b k (e, l, (l.length : Int), b2, at', v, (i : Int))) =
      some ((l.drop i).foldl (fun a x => bitsA .or .u64 (shlA .u64 a 8) (IntKind.u64.wrap (getI x))) v, e, b2, at') := by
    intro e l b2 at' hl m
    induction m with
    | zero =>
      intro i v hi
      have hlt : ¬ ((i : Int) < l.length) := by omega
      rw [List.drop_of_length_le (by omega)]
      exact run_inr (by simp only [M_cursor_Cursor_Number_p0500, Tr.val_c, Tr.val_r, hlt, decide_false, cond_false]; rfl)
    | succ m ih =>
      intro i v hi
      have q1 : (i : Int) < l.length := by omega
      have q2 : (0 : Int) ≤ i := by omega
      have q3 : i < l.length := by omega
      have w : IntKind.i64.wrap ((i : Int) + 1) = ((i + 1 : Nat) : Int) := by rw [i64_wrap (by omega) (by omega)]; omega
      have hg : l.getD i (.int .u8 0) = l[i] := by simp [List.getD_eq_getElem?_getD, q3]
      rw [run_inl (s := (e, l, (l.length : Int), b2, at', bitsA .or .u64 (shlA .u64 v 8) (IntKind.u64.wrap (getI l[i])), ((i + 1 : Nat) : Int))) (by simp only [M_cursor_Cursor_Number_p0500, Tr.val_c, Tr.val_r, q1, q2, w, hg, Int.toNat_natCast, decide_true, cond_true]), ih (i + 1) _ (by omega), List.drop_eq_getElem_cons q3, List.foldl_cons]
  have ht := take_eq n b k hk hb
  have h0 : ¬ n < 0 := by omega
  by_cases h3 : n > (b.length : Int) - k
  · rw [run_inl (s := (3, [], ((([] : List AV).length : Nat) : Int), b, (k : Int), 0, ((0 : Nat) : Int)))]
    · rw [loop 3 [] b k (by simp) 0 0 0 rfl]
      simp [h1, h2, h3]
    · simp only [T_cursor_Cursor_Number_p0500, Tr.val_c, Tr.val_r, val_opt, h1, h2, h0, h3, read_eq, ht, Option.bind_some, if_true, if_false, decide_false, cond_false]
      rfl
  · rw [run_inl (s := (0, (b.drop k).take n.toNat, ((((b.drop k).take n.toNat).length : Nat) : Int), b, (k : Int) + n, 0, ((0 : Nat) : Int)))]
    · rw [loop 0 _ b _ (by simp only [List.length_take, List.length_drop]; omega) ((b.drop k).take n.toNat).length 0 0 (by omega)]
      simp only [h1, h2, h3, if_false, List.drop_zero, numOf]
    · simp only [T_cursor_Cursor_Number_p0500, Tr.val_c, Tr.val_r, val_opt, h1, h2, h0, h3, read_eq, ht, Option.bind_some, if_true, if_false, decide_false, cond_false]
      rfl
theorem New_eq (b : List AV) (hb : b.length < 8796093022208) : g_cursor_New b = some (b, 0) := by
  have : b.length * 2 < 70368744177664 := by omega
  unfold g_cursor_New
  simp only [T_cursor_New, Tr.val_c, Tr.val_r, this, decide_true, cond_true]
def cb (c : Nat) : Nat := if c % 2 = 1 then (c / 2) ^^^ 3988292384 else c / 2
def cbs : Nat → Nat → Nat
  | 0, c => c
  | k + 1, c => cbs k (cb c)
theorem cb_lt {c : Nat} (h : c < 4294967296) : cb c < 4294967296 := by
  unfold cb
  split
  · exact Nat.xor_lt_two_pow (n := 32) (by omega) (by omega)
  · omega
theorem cbs_lt : ∀ (k : Nat) {c : Nat}, c < 4294967296 → cbs k c < 4294967296
  | 0, _, h => h
  | k + 1, _, h => cbs_lt k (cb_lt h)
def crc1 (c : Nat) (y : AV) : Nat := cbs 8 (c ^^^ (IntKind.u32.wrap (getI y)).toNat)
theorem u32_nat (n : Int) : ((IntKind.u32.wrap n).toNat : Int) = IntKind.u32.wrap n ∧ (IntKind.u32.wrap n).toNat < 4294967296 := by
  rw [u32_mod]; omega
theorem xor_lt32 {a b : Nat} (ha : a < 4294967296) (hb : b < 4294967296) : a ^^^ b < 4294967296 := Nat.xor_lt_two_pow (n := 32) ha hb
theorem crc1_lt {c : Nat} (y : AV) (h : c < 4294967296) : crc1 c y < 4294967296 := cbs_lt 8 (xor_lt32 h (u32_nat _).2)
theorem crcF_lt : ∀ (l : List AV) {c : Nat}, c < 4294967296 → l.foldl crc1 c < 4294967296
  | [], _, h => h
  | y :: l, _, h => crcF_lt l (crc1_lt y h)
def crcN (l : List AV) : Nat := (l.foldl crc1 4294967295) ^^^ 4294967295
theorem crcN_lt (l : List AV) : crcN l < 4294967296 := xor_lt32 (crcF_lt l (by omega)) (by omega)
theorem xor32' {X Y : Nat} (hX : X < 4294967296) (hY : Y < 4294967296) : bitsA .xor .u32 (X : Int) (Y : Int) = ((X ^^^ Y : Nat) : Int) := xor32 hX hY
theorem step_eq (x : Int) (c : Nat) (hc : c < 4294967296) : g_crc_sum_step_p050 x (c : Int) = some ((cbs 8 (c ^^^ (IntKind.u32.wrap x).toNat) : Nat) : Int) := by
  obtain ⟨u1, u2⟩ := u32_nat x
  unfold g_crc_sum_step_p050
  have h0 : bitsA .xor .u32 (c : Int) (IntKind.u32.wrap x) = ((c ^^^ (IntKind.u32.wrap x).toNat : Nat) : Int) := by rw [← xor32' hc u2, u1]
  rw [run_inl (s := (((0 : Nat) : Int), ((c ^^^ (IntKind.u32.wrap x).toNat : Nat) : Int))) (by simp only [T_crc_sum_step_p050, Tr.val_r, h0]; rfl)]
  have key : ∀ k i d : Nat, i + k = 8 → d < 4294967296 → run (M_crc_sum_step_p050 x (c : Int)) (M_crc_sum_step_p050 x (c : Int) ((i : Int), (d : Int))) = some ((cbs k d : Nat) : Int) := by
    intro k
    induction k with
    | zero =>
      intro i d hi hd
      have q : ¬ ((i : Int) < 8) := by omega
      exact run_inr (by simp only [M_crc_sum_step_p050, Tr.val_c, Tr.val_r, q, decide_false, cond_false]; rfl)
    | succ k ih =>
      intro i d hi hd
      have q : (i : Int) < 8 := by omega
      have w : IntKind.i64.wrap ((i : Int) + 1) = ((i + 1 : Nat) : Int) := by rw [i64_wrap (by omega) (by omega)]; omega
      have o := odd32 (X := d) hd
      have hf := half32 d
      by_cases h1 : d % 2 = 1
      · have x1 : bitsA .xor .u32 ((d / 2 : Nat) : Int) 3988292384 = ((d / 2 ^^^ 3988292384 : Nat) : Int) := xor32' (Y := 3988292384) (by omega) (by omega)
        have e : (((d % 2 : Nat) : Int) == 1) = true := by rw [h1]; rfl
        have hb : cb d = d / 2 ^^^ 3988292384 := by unfold cb; rw [if_pos h1]
        rw [run_inl (s := (((i + 1 : Nat) : Int), ((cb d : Nat) : Int))) (by simp only [M_crc_sum_step_p050, Tr.val_c, Tr.val_r, q, w, o, hf, x1, e, hb, decide_true, cond_true])]
        exact ih (i + 1) (cb d) (by omega) (cb_lt hd)
      · have e : (((d % 2 : Nat) : Int) == 1) = false := by
          have : d % 2 = 0 := by omega
          rw [this]; rfl
        have hb : cb d = d / 2 := by unfold cb; rw [if_neg h1]
        rw [run_inl (s := (((i + 1 : Nat) : Int), ((cb d : Nat) : Int))) (by simp only [M_crc_sum_step_p050, Tr.val_c, Tr.val_r, q, w, o, hf, e, hb, decide_true, cond_true, cond_false])]
        exact ih (i + 1) (cb d) (by omega) (cb_lt hd)
  exact key 8 0 _ rfl (xor_lt32 hc u2)
theorem each_eq (A : List AV) (hA : A.length < 8796093022208) : g_crc_each_0fstep_p50 A 4294967295 = some ((A.foldl crc1 4294967295 : Nat) : Int) := by
  unfold g_crc_each_0fstep_p50
  rw [run_inl (s := (((0 : Nat) : Int), ((4294967295 : Nat) : Int))) rfl]
  have key : ∀ k i d : Nat, i + k = A.length → d < 4294967296 → run (M_crc_each_0fstep_p50 A 4294967295) (M_crc_each_0fstep_p50 A 4294967295 ((i : Int), (d : Int))) = some (((A.drop i).foldl crc1 d : Nat) : Int) := by
    intro k
    induction k with
    | zero =>
      intro i d hi hd
      have q : ¬ ((i : Int) < A.length) := by omega
      rw [List.drop_of_length_le (by omega)]
      exact run_inr (by simp only [M_crc_each_0fstep_p50, Tr.val_c, Tr.val_r, q, decide_false, cond_false]; rfl)
    | succ k ih =>
      intro i d hi hd
      have q : (i : Int) < A.length := by omega
      have q2 : (0 : Int) ≤ i := by omega
      have q3 : i < A.length := by omega
      have w : IntKind.i64.wrap ((i : Int) + 1) = ((i + 1 : Nat) : Int) := by rw [i64_wrap (by omega) (by omega)]; omega
      have hg : A.getD i (.int .u8 0) = A[i] := by simp [List.getD_eq_getElem?_getD, q3]
      have hs := step_eq (getI A[i]) d hd
      rw [run_inl (s := (((i + 1 : Nat) : Int), ((crc1 d A[i] : Nat) : Int))) (by simp only [M_crc_each_0fstep_p50, Tr.val_c, Tr.val_r, val_opt, q, q2, w, hg, Int.toNat_natCast, hs, Option.bind_some, decide_true, cond_true]; rfl), ih (i + 1) _ (by omega) (crc1_lt _ hd), List.drop_eq_getElem_cons q3, List.foldl_cons]
  have := key A.length 0 4294967295 (by omega) (by omega)
  rwa [List.drop_zero] at this
theorem Of_eq (A : List AV) (hA : A.length < 8796093022208) : g_crc_Of A = some ((crcN A : Nat) : Int) := by
  have x1 : bitsA .xor .u32 ((A.foldl crc1 4294967295 : Nat) : Int) 4294967295 = ((crcN A : Nat) : Int) := xor32' (Y := 4294967295) (crcF_lt A (by omega)) (by omega)
  unfold g_crc_Of
  simp only [T_crc_Of, Tr.val_r, val_opt, each_eq A hA, Option.bind_some, x1]
theorem u64_crc (A : List AV) : IntKind.u64.wrap ((crcN A : Nat) : Int) = ((crcN A : Nat) : Int) := by
  have := crcN_lt A
  exact u64_wrap (by omega) (by omega)
theorem Seal_eq (A : List AV) (hA : A.length < 8796093022208) : g_crc_Seal A = some (A ++ bex ((crcN A : Nat) : Int) 4) := by
  have p := Put_eq A ((crcN A : Nat) : Int) 4 4 hA (by omega) (by decide)
  unfold g_crc_Seal
  simp only [T_crc_Seal, Tr.val_c, Tr.val_r, val_opt, Of_eq A hA, u64_crc, p, Option.bind_some, beq_self_eq_true, Bool.true_and, cond_true]
def recR (A : List AV) : List AV := (bex (A.length : Int) 4 ++ A) ++ bex ((crcN (bex (A.length : Int) 4 ++ A) : Nat) : Int) 4
theorem Record_eq (A : List AV) (hA : A.length < 1000000) : g_journal_Record A = some (recR A) := by
  have w : IntKind.u64.wrap (A.length : Int) = (A.length : Int) := u64_wrap (by omega) (by omega)
  have p := Put_eq [] (A.length : Int) 4 4 (by simp) (by omega) (by decide)
  rw [List.nil_append] at p
  have c := Concat_eq (bex (A.length : Int) 4) A (by simp; omega)
  have s := Seal_eq (bex (A.length : Int) 4 ++ A) (by simp; omega)
  unfold g_journal_Record
  simp only [T_journal_Record, Tr.val_c, Tr.val_r, val_opt, w, p, c, s, Option.bind_some, beq_self_eq_true, Bool.true_and, cond_true]
  rfl
def CAP : Nat := 1099511627776
theorem number_eq (v : Int) (m : Nat) (hm : m = 4 ∨ m = 8) (A : List AV) (hA : A.length < CAP) : g_pack_writer_number_p0050 v (m : Int) A = some (A ++ bex v m) := by
  unfold CAP at hA
  have p : g_cursor_Put A v (m : Int) = some (A ++ bex v m) := by
    rcases hm with rfl | rfl
    · exact Put_eq A v 4 4 (by omega) (by omega) (by decide)
    · exact Put_eq A v 8 8 (by omega) (by omega) (by decide)
  unfold g_pack_writer_number_p0050
  simp only [T_pack_writer_number_p0050, Tr.val_c, Tr.val_r, val_opt, p, Option.bind_some, beq_self_eq_true, Bool.true_and, cond_true]
theorem number4 (v : Int) (A : List AV) (hA : A.length < CAP) : g_pack_writer_number_p0050 v 4 A = some (A ++ bex v 4) := number_eq v 4 (.inl rfl) A hA
theorem number8 (v : Int) (A : List AV) (hA : A.length < CAP) : g_pack_writer_number_p0050 v 8 A = some (A ++ bex v 8) := number_eq v 8 (.inr rfl) A hA
theorem flat_take (W : AV → List AV) (xs : List AV) (d : AV) {i : Nat} (hi : i < xs.length) : (xs.take (i + 1)).flatMap W = (xs.take i).flatMap W ++ W (xs.getD i d) := by
  rw [List.take_succ_eq_append_getElem hi, List.flatMap_append, List.getD_eq_getElem?_getD, List.getElem?_eq_getElem hi]
  simp
theorem flat_take_len (W : AV → List AV) (xs : List AV) (i : Nat) : ((xs.take i).flatMap W).length ≤ (xs.flatMap W).length := by
  have : xs.flatMap W = (xs.take i).flatMap W ++ (xs.drop i).flatMap W := by rw [← List.flatMap_append, List.take_append_drop]
  rw [this, List.length_append]; omega
theorem flat_take_all (W : AV → List AV) (xs : List AV) : (xs.take xs.length).flatMap W = xs.flatMap W := by rw [List.take_length]
def intW (x : AV) : List AV := bex (IntKind.u64.wrap (getI x)) 8
theorem ints_eq (xs A : List AV) (h : A.length + (xs.flatMap intW).length < CAP) (hx : xs.length < CAP) : g_pack_writer_ints_p050 xs A = some (A ++ xs.flatMap intW) := by
  have hc := h
  unfold CAP at h hx
  unfold g_pack_writer_ints_p050
  rw [run_inl (s := (((0 : Nat) : Int), A ++ (xs.take 0).flatMap intW)) (by simp [T_pack_writer_ints_p050, Tr.val_r])]
  rw [run_count (step := M_pack_writer_ints_p050 xs A) (f := fun i => ((i : Int), A ++ (xs.take i).flatMap intW)) (n := xs.length) (fun i hi => by
    have q : (i : Int) < xs.length := by omega
    have q0 : (0 : Int) ≤ i := by omega
    have w : IntKind.i64.wrap ((i : Int) + 1) = ((i + 1 : Nat) : Int) := by rw [i64_wrap (by omega) (by omega)]; omega
    have l := flat_take_len intW xs i
    have p := number8 (IntKind.u64.wrap (getI (xs.getD i (.int .i64 0)))) (A ++ (xs.take i).flatMap intW) (by rw [List.length_append]; unfold CAP; omega)
    have e : A ++ (xs.take (i + 1)).flatMap intW = A ++ (xs.take i).flatMap intW ++ bex (IntKind.u64.wrap (getI (xs.getD i (.int .i64 0)))) 8 := by
      rw [flat_take intW xs (.int .i64 0) hi, ← List.append_assoc]; rfl
    simp only [M_pack_writer_ints_p050, Tr.val_c, Tr.val_r, val_opt, q, q0, w, p, e, Int.toNat_natCast, Option.bind_some, decide_true, beq_self_eq_true, cond_true])]
  have q : ¬ ((xs.length : Int) < xs.length) := by omega
  exact run_inr (by simp only [M_pack_writer_ints_p050, Tr.val_c, Tr.val_r, q, flat_take_all, decide_false, beq_self_eq_true, cond_true, cond_false])
def ints (l : List AV) : List AV := l.flatMap intW
theorem ints_eq' (xs A : List AV) (h : A.length + (ints xs).length < CAP) (hx : xs.length < 10) : g_pack_writer_ints_p050 xs A = some (A ++ ints xs) := ints_eq xs A h (by unfold CAP; omega)
theorem deedT (x1 x2 x3 x4 x5 x6 x7 x8 x9 x10 x11 : Int) (x12 x13 x14 x15 : List UInt8) (x16 : Int) (x17 x18 x19 x20 : List UInt8) (x21 : Int) (x22 x23 : List UInt8) (x24 : Int) (x25 : List UInt8) (x26 : List AV) (x27 x28 : List UInt8) (x29 x30 : List AV) (x31 x32 : Int) (x33 x34 x35 : List UInt8) (x36 x37 : List AV) (A : List AV) (hA : A.length < 1000000) : g_pack_writer_deed_p050 1 x1 x2 x3 x4 x5 x6 x7 x8 x9 x10 x11 x12 x13 x14 x15 x16 x17 x18 x19 x20 x21 x22 x23 x24 x25 x26 x27 x28 x29 x30 x31 x32 x33 x34 x35 x36 x37 A = some ((A ++ [.int .u8 1]) ++ bex x1 8) := by
  have l1 : (A ++ [AV.int .u8 (IntKind.u8.wrap 1)]).length * 2 < 70368744177664 := by rw [List.length_append, List.length_singleton]; omega
  have n := number8 x1 (A ++ [AV.int .u8 1]) (by rw [List.length_append, List.length_singleton]; unfold CAP; omega)
  have w : IntKind.u8.wrap 1 = 1 := rfl
  rw [w] at l1
  unfold g_pack_writer_deed_p050
  simp only [T_pack_writer_deed_p050, Tr.val_c, Tr.val_r, val_opt, w, l1, n, Option.bind_some, beq_self_eq_true, decide_true, cond_true]
theorem deedN (x1 x2 x3 x4 x5 x6 x7 x8 x9 x10 x11 : Int) (x12 x13 x14 x15 : List UInt8) (x16 : Int) (x17 x18 x19 x20 : List UInt8) (x21 : Int) (x22 x23 : List UInt8) (x24 : Int) (x25 : List UInt8) (x26 : List AV) (x27 x28 : List UInt8) (x29 x30 : List AV) (x31 x32 : Int) (x33 x34 x35 : List UInt8) (x36 x37 : List AV) (A : List AV) (hA : A.length < 1000000) : g_pack_writer_deed_p050 2 x1 x2 x3 x4 x5 x6 x7 x8 x9 x10 x11 x12 x13 x14 x15 x16 x17 x18 x19 x20 x21 x22 x23 x24 x25 x26 x27 x28 x29 x30 x31 x32 x33 x34 x35 x36 x37 A = some ((A ++ [.int .u8 2]) ++ (bex (IntKind.u64.wrap x2) 8 ++ bex (IntKind.u64.wrap x3) 8)) := by
  have w : IntKind.u8.wrap 2 = 2 := rfl
  have l1 : (A ++ [AV.int .u8 2]).length * 2 < 70368744177664 := by rw [List.length_append, List.length_singleton]; omega
  have n := ints_eq' [.int .i64 x2, .int .i64 x3] (A ++ [AV.int .u8 2]) (by simp only [ints, intW, List.flatMap_cons, List.flatMap_nil, List.length_append, length_bex, List.length_singleton, List.length_nil]; unfold CAP; omega) (by simp)
  have e : ints [AV.int .i64 x2, .int .i64 x3] = bex (IntKind.u64.wrap x2) 8 ++ bex (IntKind.u64.wrap x3) 8 := by simp only [ints, intW, List.flatMap_cons, List.flatMap_nil, getI_int, List.append_nil]
  have z : ((2 : Int) == 1) = false := rfl
  rw [e] at n
  unfold g_pack_writer_deed_p050
  simp only [T_pack_writer_deed_p050, Tr.val_c, Tr.val_r, val_opt, w, l1, n, z, Option.bind_some, beq_self_eq_true, decide_true, cond_true, cond_false]
def tD (t : Int) : AV := .agg [.int .i64 1, .int .u64 t, .int .i64 0, .int .i64 0, .int .i64 0, .int .i64 0, .int .i64 0, .int .i64 0, .int .i64 0, .int .u64 0, .int .i64 0, .int .i64 0, .str [], .str [], .str [], .str [], .int .u64 0, .str [], .str [], .str [], .str [], .int .i64 0, .str [], .str [], .int .i64 0, .str [], .slice 2 (.agg [.int .i64, .slice 1 (.int .u8)]) [] .ro, .str [], .str [], .slice 2 (.agg [.str, .str]) [] .ro, .slice 2 (.agg [.int .i64, .slice 1 (.int .u8)]) [] .ro, .int .i64 0, .int .u64 0, .str [], .str [], .str [], .slice 2 (.agg [.str, .str]) [] .ro, .slice 2 (.agg [.int .i64, .slice 1 (.int .u8)]) [] .ro]
def nD (a b : Int) : AV := .agg [.int .i64 2, .int .u64 0, .int .i64 a, .int .i64 b, .int .i64 0, .int .i64 0, .int .i64 0, .int .i64 0, .int .i64 0, .int .u64 0, .int .i64 0, .int .i64 0, .str [], .str [], .str [], .str [], .int .u64 0, .str [], .str [], .str [], .str [], .int .i64 0, .str [], .str [], .int .i64 0, .str [], .slice 2 (.agg [.int .i64, .slice 1 (.int .u8)]) [] .ro, .str [], .str [], .slice 2 (.agg [.str, .str]) [] .ro, .slice 2 (.agg [.int .i64, .slice 1 (.int .u8)]) [] .ro, .int .i64 0, .int .u64 0, .str [], .str [], .str [], .slice 2 (.agg [.str, .str]) [] .ro, .slice 2 (.agg [.int .i64, .slice 1 (.int .u8)]) [] .ro]
theorem Deeds_t (t : Int) : g_pack_Deeds [tD t] = some (([] ++ [.int .u8 1]) ++ bex t 8) := by
  have d := deedT t 0 0 0 0 0 0 0 0 0 0 [] [] [] [] 0 [] [] [] [] 0 [] [] 0 [] [] [] [] [] [] 0 0 [] [] [] [] [] [] (by simp)
  unfold g_pack_Deeds
  rw [run_inl (s := ((0 : Int), ([] : List AV))) rfl]
  rw [run_inl (s := ((1 : Int), ([] ++ [.int .u8 1]) ++ bex t 8)) ((show (M_pack_Deeds [tD t] ((0 : Int), [])).val = (opt (g_pack_writer_deed_p050 1 t 0 0 0 0 0 0 0 0 0 0 [] [] [] [] 0 [] [] [] [] 0 [] [] 0 [] [] [] [] [] [] 0 0 [] [] [] [] [] []) fun y => Tr.r (.inl ((1 : Int), y))).val from rfl).trans (by rw [val_opt, d]; rfl))]
  exact run_inr rfl
theorem Deeds_tn (t a b : Int) : g_pack_Deeds [tD t, nD a b] = some (((([] ++ [.int .u8 1]) ++ bex t 8) ++ [.int .u8 2]) ++ (bex (IntKind.u64.wrap a) 8 ++ bex (IntKind.u64.wrap b) 8)) := by
  have d := deedT t 0 0 0 0 0 0 0 0 0 0 [] [] [] [] 0 [] [] [] [] 0 [] [] 0 [] [] [] [] [] [] 0 0 [] [] [] [] [] [] (by simp)
  have d2 := deedN 0 a b 0 0 0 0 0 0 0 0 [] [] [] [] 0 [] [] [] [] 0 [] [] 0 [] [] [] [] [] [] 0 0 [] [] [] [] [] (([] ++ [.int .u8 1]) ++ bex t 8) (by simp)
  unfold g_pack_Deeds
  rw [run_inl (s := ((0 : Int), ([] : List AV))) rfl]
  rw [run_inl (s := ((1 : Int), ([] ++ [.int .u8 1]) ++ bex t 8)) ((show (M_pack_Deeds [tD t, nD a b] ((0 : Int), [])).val = (opt (g_pack_writer_deed_p050 1 t 0 0 0 0 0 0 0 0 0 0 [] [] [] [] 0 [] [] [] [] 0 [] [] 0 [] [] [] [] [] [] 0 0 [] [] [] [] [] []) fun y => Tr.r (.inl ((1 : Int), y))).val from rfl).trans (by rw [val_opt, d]; rfl))]
  rw [run_inl (s := ((2 : Int), ((([] ++ [.int .u8 1]) ++ bex t 8) ++ [.int .u8 2]) ++ (bex (IntKind.u64.wrap a) 8 ++ bex (IntKind.u64.wrap b) 8))) ((show (M_pack_Deeds [tD t, nD a b] ((1 : Int), ([] ++ [.int .u8 1]) ++ bex t 8)).val = (bif (([] ++ [AV.int .u8 1]) ++ bex t 8).length == (([] ++ [AV.int .u8 1]) ++ bex t 8).length then (opt (g_pack_writer_deed_p050 2 0 a b 0 0 0 0 0 0 0 0 [] [] [] [] 0 [] [] [] [] 0 [] [] 0 [] [] [] [] [] [] 0 0 [] [] [] [] [] (([] ++ [.int .u8 1]) ++ bex t 8)) fun y => Tr.r (.inl ((2 : Int), y))).val else none) from rfl).trans (by rw [val_opt, d2, beq_self_eq_true]; rfl))]
  exact run_inr rfl
theorem may_eq (s0 s1 : List AV) (l : Int) (td tn : Bool) (i : Int) : g_disk_Disk_may_p0 s0 s1 l td tn i = some (if i < 0 then 1 else if i ≥ 2 then 1 else if tn = true then 24 else 0) := by
  unfold g_disk_Disk_may_p0
  simp only [T_disk_Disk_may_p0, Tr.val_c, Tr.val_r]
  by_cases h1 : i < 0
  · simp [h1]
  · by_cases h2 : i ≥ 2
    · simp [h1, h2]
    · cases tn <;> simp [h1, h2]
theorem Slot_own (i : Int) (s0 s1 : List AV) (l : Int) (td tn : Bool) (h0 : s0.length < 8796093022208) (h1 : s1.length < 8796093022208) :
    g_disk_Disk_Slot_p0500000 i s0 s1 l td tn = some (s0, s1, l, td, tn, if i = 0 then s0 else if i = 1 then s1 else []) := by
  have e : g_disk_Disk_slot_p0500000 i s0 s1 l td tn = some (if i = 0 then s0 else if i = 1 then s1 else [], s0, s1, l, td, tn) := by
    unfold g_disk_Disk_slot_p0500000
    simp only [T_disk_Disk_slot_p0500000, Tr.val_c, Tr.val_r]
    by_cases a1 : i < 0
    · simp [a1, show ¬ i = 0 by omega, show ¬ i = 1 by omega]
    · by_cases a2 : i ≥ 2
      · simp [a1, a2, show ¬ i = 0 by omega, show ¬ i = 1 by omega]
      · rcases (show i = 0 ∨ i = 1 by omega) with rfl | rfl <;> simp
  have hl : (if i = 0 then s0 else if i = 1 then s1 else []).length * 2 < 70368744177664 := by
    split
    · omega
    · split
      · omega
      · simp
  have e2 : g_disk_own_fslot_0p500000 i s0 s1 l td tn = some (s0, s1, l, td, tn, if i = 0 then s0 else if i = 1 then s1 else []) := by
    unfold g_disk_own_fslot_0p500000
    simp only [T_disk_own_fslot_0p500000, Tr.val_c, Tr.val_r, val_opt, e, Option.bind_some, hl, decide_true, cond_true, beq_self_eq_true]
  unfold g_disk_Disk_Slot_p0500000
  simp only [T_disk_Disk_Slot_p0500000, Tr.val_c, Tr.val_r, val_opt, e2, Option.bind_some, beq_self_eq_true, cond_true]
theorem App0 (r s0 s1 : List AV) (l : Int) (h : s0.length + r.length ≤ 2000000) : g_disk_Disk_Append_p00500000 0 r s0 s1 l false false = some (0, s0 ++ r, s1, l, false, false) := by
  have w : IntKind.i64.wrap ((s0.length : Int) + r.length) = (s0.length : Int) + r.length := i64_wrap (by omega) (by omega)
  have q : ¬ (s0.length : Int) + r.length > 2000000 := by omega
  have qq : (r.length : Int) ≤ r.length := Int.le_refl _
  have q0 : (0 : Int) ≤ r.length := by omega
  have C := Concat_eq s0 r (by omega)
  have e01 : ¬ ((0 : Int) = 1) := by decide
  have z : ((0 : Int) != 0) = false := rfl
  unfold g_disk_Disk_Append_p00500000
  simp only [T_disk_Disk_Append_p00500000, Tr.val_c, Tr.val_r, val_opt, may_eq, w, q, qq, q0, Int.toNat_natCast, List.take_length, List.drop_zero, C, e01, z, Option.bind_some, beq_self_eq_true, decide_true, decide_false, cond_true, cond_false, show ¬ ((0 : Int) < 0) by decide, show ¬ ((0 : Int) ≥ 2) by decide, if_false, Bool.false_eq_true]
theorem App1 (r s0 s1 : List AV) (l : Int) (h : s1.length + r.length ≤ 2000000) : g_disk_Disk_Append_p00500000 1 r s0 s1 l false false = some (0, s0, s1 ++ r, l, false, false) := by
  have w : IntKind.i64.wrap ((s1.length : Int) + r.length) = (s1.length : Int) + r.length := i64_wrap (by omega) (by omega)
  have q : ¬ (s1.length : Int) + r.length > 2000000 := by omega
  have qq : (r.length : Int) ≤ r.length := Int.le_refl _
  have q0 : (0 : Int) ≤ r.length := by omega
  have C := Concat_eq s1 r (by omega)
  have z : ((0 : Int) != 0) = false := rfl
  unfold g_disk_Disk_Append_p00500000
  simp only [T_disk_Disk_Append_p00500000, Tr.val_c, Tr.val_r, val_opt, may_eq, w, q, qq, q0, Int.toNat_natCast, List.take_length, List.drop_zero, C, z, Option.bind_some, beq_self_eq_true, decide_true, decide_false, cond_true, cond_false, show ¬ ((1 : Int) < 0) by decide, show ¬ ((1 : Int) ≥ 2) by decide, if_false, Bool.false_eq_true]
theorem Era0 (s0 s1 : List AV) (l : Int) (td : Bool) : g_disk_Disk_Erase_p0500000 0 s0 s1 l td false = some (0, [], s1, l, td, false) := by
  unfold g_disk_Disk_Erase_p0500000
  simp only [T_disk_Disk_Erase_p0500000, Tr.val_c, Tr.val_r, val_opt, may_eq, Option.bind_some, show ¬ ((0 : Int) < 0) by decide, show ¬ ((0 : Int) ≥ 2) by decide, show ¬ ((0 : Int) = 1) by decide, if_false, Bool.false_eq_true, beq_self_eq_true, decide_true, decide_false, cond_true, cond_false]
theorem next_nil : g_journal_walk_next_p50 [] = some ([], false, []) := by
  have n := New_eq [] (by simp)
  have m := Number_eq 4 [] 0 (by simp) (by simp)
  have m' : g_cursor_Cursor_Number_p0500 4 [] 0 = some (0, 3, [], 0) := m
  unfold g_journal_walk_next_p50
  simp only [T_journal_walk_next_p50, Tr.val_c, Tr.val_r, val_opt, n, m', Option.bind_some]
  rfl
theorem Scan_nil : g_journal_Scan [] = some ([], 0) := by
  have e : g_journal_every_fnext_p50 [] = some ([], []) := by
    unfold g_journal_every_fnext_p50
    rw [run_inl (s := (([] : List AV), false, ([] : List AV), ([] : List AV))) (by simp only [T_journal_every_fnext_p50, Tr.val_r, val_opt, next_nil, Option.bind_some])]
    exact run_inr rfl
  unfold g_journal_Scan
  simp only [T_journal_Scan, Tr.val_r, val_opt, e, Option.bind_some]
  rfl
theorem read_nil : g_keeper_read [] = some (0, 0, 0, 0, [], [], 0) := by
  unfold g_keeper_read
  simp only [T_keeper_read, Tr.val_c, Tr.val_r, val_opt, Scan_nil, Option.bind_some]
  rfl
theorem Whole_nil (t a b : Int) : g_state_Whole t a b [] [] = some [tD t, nD a b] := by
  unfold g_state_Whole
  rw [run_inl (s := (.inl (()))) rfl, run_inl (s := (.inr (()))) rfl]
  exact run_inr rfl
theorem Apply_nil (t a b : Int) : g_state_Apply t a b [] [] [] = some (t, a, b, [], []) := by
  have e1 : g_state_each_api_Exchange_0fexchange_ [] = some [] := by
    unfold g_state_each_api_Exchange_0fexchange_
    rw [run_inl (s := ()) rfl]
    exact run_inr rfl
  have e2 : g_state_each_api_Parked_0fparked_ [] = some [] := by
    unfold g_state_each_api_Parked_0fparked_
    rw [run_inl (s := ()) rfl]
    exact run_inr rfl
  unfold g_state_Apply
  rw [run_inl (s := ((0 : Int), t, a, b, ([] : List AV), ([] : List AV))) (by simp only [T_state_Apply, Tr.val_r, val_opt, e1, e2, Option.bind_some])]
  exact run_inr rfl
theorem Apply_t (t a b v : Int) : g_state_Apply t a b [] [] [tD v] = some (v, a, b, [], []) := by
  have e1 : g_state_each_api_Exchange_0fexchange_ [] = some [] := by
    unfold g_state_each_api_Exchange_0fexchange_
    rw [run_inl (s := ()) rfl]
    exact run_inr rfl
  have e2 : g_state_each_api_Parked_0fparked_ [] = some [] := by
    unfold g_state_each_api_Parked_0fparked_
    rw [run_inl (s := ()) rfl]
    exact run_inr rfl
  unfold g_state_Apply
  rw [run_inl (s := ((0 : Int), t, a, b, ([] : List AV), ([] : List AV))) (by simp only [T_state_Apply, Tr.val_r, val_opt, e1, e2, Option.bind_some])]
  rw [run_inl (s := ((1 : Int), v, a, b, ([] : List AV), ([] : List AV))) rfl]
  exact run_inr rfl
theorem length_recR (A : List AV) : (recR A).length = A.length + 8 := by
  simp only [recR, List.length_append, length_bex]; omega
theorem anew_0 (t a b e : Int) (he : 0 ≤ e ∧ e < 1000000) (s0 s1 : List AV) (l : Int) : ∃ r : List AV, r.length = 42 ∧ g_keeper_Keeper_anew_p5p0000000 t a b [] [] e 1 s0 s1 l false false = some (0, t, a, b, [], [], e + 1, 0, r, s1, l, false, false) := by
  have w0 : IntKind.i64.wrap (1 - 1) = 0 := rfl
  have w1 : IntKind.u64.wrap (e + 1) = e + 1 := u64_wrap (by omega) (by omega)
  have p := Put_eq [] (e + 1) 8 8 (by simp) (by omega) (by decide)
  rw [List.nil_append] at p
  have d := Deeds_tn t a b
  generalize hD : (((([] ++ [AV.int .u8 1]) ++ bex t 8) ++ [.int .u8 2]) ++ (bex (IntKind.u64.wrap a) 8 ++ bex (IntKind.u64.wrap b) 8)) = D at d
  have lD : D.length = 26 := by rw [← hD]; simp only [List.length_append, length_bex, List.length_singleton, List.length_nil]
  have C := Concat_eq (bex (e + 1) 8) D (by rw [length_bex]; omega)
  have R := Record_eq (bex (e + 1) 8 ++ D) (by rw [List.length_append, length_bex]; omega)
  have lR : (recR (bex (e + 1) 8 ++ D)).length = 42 := by rw [length_recR, List.length_append, length_bex]; omega
  have A := App0 (recR (bex (e + 1) 8 ++ D)) [] s1 l (by rw [lR]; decide)
  rw [List.nil_append] at A
  have z : ((0 : Int) != 0) = false := rfl
  refine ⟨recR (bex (e + 1) 8 ++ D), by omega, ?_⟩
  unfold g_keeper_Keeper_anew_p5p0000000
  simp only [T_keeper_Keeper_anew_p5p0000000, Tr.val_c, Tr.val_r, val_opt, w0, w1, Era0, p, Whole_nil, d, C, R, A, z, Option.bind_some, beq_self_eq_true, cond_true, cond_false, List.nil_append]
theorem Open_new : ∃ r : List AV, r.length = 42 ∧ g_keeper_Open_p500000 [] [] 0 false false = some (r, [], 0, false, false, 0, 1, 1, [], [], 1, 0) := by
  obtain ⟨r, lr, hr⟩ := anew_0 0 1 1 0 (by decide) [] [] 0
  refine ⟨r, lr, ?_⟩
  have S := fun i => Slot_own i [] [] 0 false false (by simp) (by simp)
  have w1 : IntKind.i64.wrap (0 + 1) = 1 := rfl
  have w2 : IntKind.i64.wrap (1 + 1) = 2 := rfl
  unfold g_keeper_Open_p500000
  rw [run_inl (s := (true, (0 : Int), ([] : List AV), ([] : List AV), (0 : Int), false, false, (0 : Int), (1 : Int), (1 : Int), ([] : List AV), ([] : List AV), (0 : Int), (1 : Int))) rfl]
  rw [run_inl (s := (true, (1 : Int), ([] : List AV), ([] : List AV), (0 : Int), false, false, (0 : Int), (1 : Int), (1 : Int), ([] : List AV), ([] : List AV), (0 : Int), (1 : Int))) (by
    simp only [M_keeper_Open_p500000, Tr.val_c, Tr.val_r, val_opt, S, read_nil, w1, Option.bind_some, if_true, Bool.true_and, beq_self_eq_true, show (0 : Int) < 2 by decide, show ¬ ((0 : Int) > 0) by decide, decide_true, decide_false, cond_true, cond_false])]
  rw [run_inl (s := (true, (2 : Int), ([] : List AV), ([] : List AV), (0 : Int), false, false, (0 : Int), (1 : Int), (1 : Int), ([] : List AV), ([] : List AV), (0 : Int), (1 : Int))) (by
    simp only [M_keeper_Open_p500000, Tr.val_c, Tr.val_r, val_opt, S, read_nil, w2, Option.bind_some, if_true, if_false, Bool.true_and, beq_self_eq_true, show (1 : Int) < 2 by decide, show ¬ ((1 : Int) = 0) by decide, show ¬ ((0 : Int) > 0) by decide, decide_true, decide_false, cond_true, cond_false])]
  exact run_inr (by simp only [M_keeper_Open_p500000, Tr.val_c, Tr.val_r, val_opt, hr, Option.bind_some, show ¬ ((2 : Int) < 2) by decide, decide_false, cond_true, cond_false]; rfl)
theorem Commit_t (v t a b e : Int) (s0 s1 : List AV) (l : Int) (h : s0.length ≤ 10000) (h1 : s1.length ≤ 10000) : ∃ r : List AV, r.length = s0.length + 17 ∧
    g_keeper_Keeper_Commit_p05p0000000 [tD v] t a b [] [] e 0 s0 s1 l false false = some (0, v, a, b, [], [], e, 0, r, s1, l, false, false) := by
  have d := Deeds_t v
  generalize hD : (([] ++ [AV.int .u8 1]) ++ bex v 8) = D at d
  have lD : D.length = 9 := by rw [← hD]; simp only [List.length_append, length_bex, List.length_singleton, List.length_nil]
  have R := Record_eq D (by omega)
  have lR : (recR D).length = 17 := by rw [length_recR]; omega
  have A := App0 (recR D) s0 s1 l (by omega)
  have lA : (s0 ++ recR D).length = s0.length + 17 := by rw [List.length_append]; omega
  have S := Slot_own 0 (s0 ++ recR D) s1 l false false (by omega) (by omega)
  rw [if_pos rfl] at S
  have z : ((0 : Int) != 0) = false := rfl
  have zm : ((0 : Int) == -1) = false := rfl
  have q : ¬ (((s0 ++ recR D).length : Nat) : Int) > 20000 := by omega
  refine ⟨s0 ++ recR D, lA, ?_⟩
  unfold g_keeper_Keeper_Commit_p05p0000000
  simp only [T_keeper_Keeper_Commit_p05p0000000, Tr.val_c, Tr.val_r, val_opt, zm, d, R, A, z, Apply_t, S, q, Option.bind_some, decide_false, cond_true, cond_false]
theorem awake25 : g_comptoirlaw25_awake = some true := by
  obtain ⟨r, lr, ho⟩ := Open_new
  obtain ⟨r2, -, hc⟩ := Commit_t 5 0 1 1 1 r [] 0 (by omega) (by simp)
  have hc' : g_keeper_Keeper_Commit_p05p0000000 [.agg [.int .i64 1, .int .u64 5, .int .i64 0, .int .i64 0, .int .i64 0, .int .i64 0, .int .i64 0, .int .i64 0, .int .i64 0, .int .u64 0, .int .i64 0, .int .i64 0, .str [], .str [], .str [], .str [], .int .u64 0, .str [], .str [], .str [], .str [], .int .i64 0, .str [], .str [], .int .i64 0, .str [], .slice 2 (.agg [.int .i64, .slice 1 (.int .u8)]) [] .ro, .str [], .str [], .slice 2 (.agg [.str, .str]) [] .ro, .slice 2 (.agg [.int .i64, .slice 1 (.int .u8)]) [] .ro, .int .i64 0, .int .u64 0, .str [], .str [], .str [], .slice 2 (.agg [.str, .str]) [] .ro, .slice 2 (.agg [.int .i64, .slice 1 (.int .u8)]) [] .ro]] 0 1 1 [] [] 1 0 r [] 0 false false = some (0, 5, 1, 1, [], [], 1, 0, r2, [], 0, false, false) := hc
  unfold g_comptoirlaw25_awake
  simp only [T_comptoirlaw25_awake, g_keeper_Keeper_State_p5p0000000, T_keeper_Keeper_State_p5p0000000, Tr.val_c, Tr.val_r, val_opt, ho, hc', Apply_nil, Option.bind_some, beq_self_eq_true, cond_true]
def deedShL : List Sh := [.int .i64, .int .u64, .int .i64, .int .i64, .int .i64, .int .i64, .int .i64, .int .i64, .int .i64, .int .u64, .int .i64, .int .i64, .str, .str, .str, .str, .int .u64, .str, .str, .str, .str, .int .i64, .str, .str, .int .i64, .str, .slice 2 (.agg [.int .i64, .slice 1 (.int .u8)]), .str, .str, .slice 2 (.agg [.str, .str]), .slice 2 (.agg [.int .i64, .slice 1 (.int .u8)]), .int .i64, .int .u64, .str, .str, .str, .slice 2 (.agg [.str, .str]), .slice 2 (.agg [.int .i64, .slice 1 (.int .u8)])]
def deedSh : Sh := .agg deedShL
theorem wfL_at : ∀ {l : List Sh} {cs : List AV}, WfL l cs → ∀ (i : Nat) (s : Sh), l[i]? = some s → Wf s (cs.getD i .junk)
  | [], [], _, i, s, h => by simp at h
  | s0 :: l, c :: cs, h, 0, s, hs => by simp only [List.getElem?_cons_zero, Option.some.injEq] at hs; subst hs; exact h.1.1
  | s0 :: l, c :: cs, h, i + 1, s, hs => wfL_at (l := l) (cs := cs) h.2 i s hs
  | [], _ :: _, h, _, _, _ => h.elim
  | _ :: _, [], h, _, _, _ => h.elim
theorem small2 (x0 x1 : Int) (x2 x3 x4 x5 : List UInt8) (x6 : Int) (x7 x8 x9 x10 : List UInt8) (x11 : Int) (x12 x13 : List UInt8) (x14 : Int) (x15 : List UInt8) (x16 : List AV) (x17 x18 : List UInt8) (x19 x20 : List AV) (h16 : x16.length < 9223372036854775808) (h19 : x19.length < 9223372036854775808) (h20 : x20.length < 9223372036854775808) : ∀ (k i : Nat) (v : Int), i + k = x20.length → ∃ b, run (M_comptoirplay_Small x0 x1 x2 x3 x4 x5 x6 x7 x8 x9 x10 x11 x12 x13 x14 x15 x16 x17 x18 x19 x20) (M_comptoirplay_Small x0 x1 x2 x3 x4 x5 x6 x7 x8 x9 x10 x11 x12 x13 x14 x15 x16 x17 x18 x19 x20 (.inr (.inr (v, (i : Int))))) = some b
  | 0, i, v, hi => by
    have : i = x20.length := by omega
    subst this
    have q1 : ¬ ((x20.length : Int) < x20.length) := by omega
    exact ⟨_, run_inr (by simp only [M_comptoirplay_Small, Tr.val_c, Tr.val_r, q1, decide_false, cond_false]; rfl)⟩
  | k + 1, i, v, hi => by
    have q1 : (i : Int) < x20.length := by omega
    have q2 : (0 : Int) ≤ i := by omega
    have w1 : IntKind.i64.wrap ((i : Int) + 1) = ((i + 1 : Nat) : Int) := by rw [i64_wrap (by omega) (by omega)]; omega
    have e : ∃ v2, (M_comptoirplay_Small x0 x1 x2 x3 x4 x5 x6 x7 x8 x9 x10 x11 x12 x13 x14 x15 x16 x17 x18 x19 x20 (.inr (.inr (v, (i : Int))))).val = some (.inl (.inr (.inr (v2, ((i + 1 : Nat) : Int))))) := ⟨_, by simp only [M_comptoirplay_Small, Tr.val_c, Tr.val_r, q1, q2, w1, decide_true, cond_true]; rfl⟩
    obtain ⟨v2, e⟩ := e
    rw [run_inl e]
    exact small2 x0 x1 x2 x3 x4 x5 x6 x7 x8 x9 x10 x11 x12 x13 x14 x15 x16 x17 x18 x19 x20 h16 h19 h20 k (i + 1) v2 (by omega)
theorem small1 (x0 x1 : Int) (x2 x3 x4 x5 : List UInt8) (x6 : Int) (x7 x8 x9 x10 : List UInt8) (x11 : Int) (x12 x13 : List UInt8) (x14 : Int) (x15 : List UInt8) (x16 : List AV) (x17 x18 : List UInt8) (x19 x20 : List AV) (h16 : x16.length < 9223372036854775808) (h19 : x19.length < 9223372036854775808) (h20 : x20.length < 9223372036854775808) : ∀ (k i : Nat) (v : Int), i + k = x19.length → ∃ b, run (M_comptoirplay_Small x0 x1 x2 x3 x4 x5 x6 x7 x8 x9 x10 x11 x12 x13 x14 x15 x16 x17 x18 x19 x20) (M_comptoirplay_Small x0 x1 x2 x3 x4 x5 x6 x7 x8 x9 x10 x11 x12 x13 x14 x15 x16 x17 x18 x19 x20 (.inr (.inl (v, (i : Int))))) = some b
  | 0, i, v, hi => by
    have : i = x19.length := by omega
    subst this
    have q1 : ¬ ((x19.length : Int) < x19.length) := by omega
    rw [run_inl (s := (.inr (.inr (v, ((0 : Nat) : Int))))) (by simp only [M_comptoirplay_Small, Tr.val_c, Tr.val_r, q1, decide_false, cond_false]; rfl)]
    exact small2 x0 x1 x2 x3 x4 x5 x6 x7 x8 x9 x10 x11 x12 x13 x14 x15 x16 x17 x18 x19 x20 h16 h19 h20 x20.length 0 v (by omega)
  | k + 1, i, v, hi => by
    have q1 : (i : Int) < x19.length := by omega
    have q2 : (0 : Int) ≤ i := by omega
    have w1 : IntKind.i64.wrap ((i : Int) + 1) = ((i + 1 : Nat) : Int) := by rw [i64_wrap (by omega) (by omega)]; omega
    have e : ∃ v2, (M_comptoirplay_Small x0 x1 x2 x3 x4 x5 x6 x7 x8 x9 x10 x11 x12 x13 x14 x15 x16 x17 x18 x19 x20 (.inr (.inl (v, (i : Int))))).val = some (.inl (.inr (.inl (v2, ((i + 1 : Nat) : Int))))) := ⟨_, by simp only [M_comptoirplay_Small, Tr.val_c, Tr.val_r, q1, q2, w1, decide_true, cond_true]; rfl⟩
    obtain ⟨v2, e⟩ := e
    rw [run_inl e]
    exact small1 x0 x1 x2 x3 x4 x5 x6 x7 x8 x9 x10 x11 x12 x13 x14 x15 x16 x17 x18 x19 x20 h16 h19 h20 k (i + 1) v2 (by omega)
theorem small0 (x0 x1 : Int) (x2 x3 x4 x5 : List UInt8) (x6 : Int) (x7 x8 x9 x10 : List UInt8) (x11 : Int) (x12 x13 : List UInt8) (x14 : Int) (x15 : List UInt8) (x16 : List AV) (x17 x18 : List UInt8) (x19 x20 : List AV) (h16 : x16.length < 9223372036854775808) (h19 : x19.length < 9223372036854775808) (h20 : x20.length < 9223372036854775808) : ∀ (k i : Nat) (v : Int), i + k = x16.length → ∃ b, run (M_comptoirplay_Small x0 x1 x2 x3 x4 x5 x6 x7 x8 x9 x10 x11 x12 x13 x14 x15 x16 x17 x18 x19 x20) (M_comptoirplay_Small x0 x1 x2 x3 x4 x5 x6 x7 x8 x9 x10 x11 x12 x13 x14 x15 x16 x17 x18 x19 x20 (.inl (v, (i : Int)))) = some b
  | 0, i, v, hi => by
    have : i = x16.length := by omega
    subst this
    have q1 : ¬ ((x16.length : Int) < x16.length) := by omega
    rw [run_inl (s := (.inr (.inl (v, ((0 : Nat) : Int))))) (by simp only [M_comptoirplay_Small, Tr.val_c, Tr.val_r, q1, decide_false, cond_false]; rfl)]
    exact small1 x0 x1 x2 x3 x4 x5 x6 x7 x8 x9 x10 x11 x12 x13 x14 x15 x16 x17 x18 x19 x20 h16 h19 h20 x19.length 0 v (by omega)
  | k + 1, i, v, hi => by
    have q1 : (i : Int) < x16.length := by omega
    have q2 : (0 : Int) ≤ i := by omega
    have w1 : IntKind.i64.wrap ((i : Int) + 1) = ((i + 1 : Nat) : Int) := by rw [i64_wrap (by omega) (by omega)]; omega
    have e : ∃ v2, (M_comptoirplay_Small x0 x1 x2 x3 x4 x5 x6 x7 x8 x9 x10 x11 x12 x13 x14 x15 x16 x17 x18 x19 x20 (.inl (v, (i : Int)))).val = some (.inl (.inl (v2, ((i + 1 : Nat) : Int)))) := ⟨_, by simp only [M_comptoirplay_Small, Tr.val_c, Tr.val_r, q1, q2, w1, decide_true, cond_true]; rfl⟩
    obtain ⟨v2, e⟩ := e
    rw [run_inl e]
    exact small0 x0 x1 x2 x3 x4 x5 x6 x7 x8 x9 x10 x11 x12 x13 x14 x15 x16 x17 x18 x19 x20 h16 h19 h20 k (i + 1) v2 (by omega)
theorem Small_some (x0 x1 : Int) (x2 x3 x4 x5 : List UInt8) (x6 : Int) (x7 x8 x9 x10 : List UInt8) (x11 : Int) (x12 x13 : List UInt8) (x14 : Int) (x15 : List UInt8) (x16 : List AV) (x17 x18 : List UInt8) (x19 x20 : List AV) (h16 : x16.length < 9223372036854775808) (h19 : x19.length < 9223372036854775808) (h20 : x20.length < 9223372036854775808) : ∃ b, g_comptoirplay_Small x0 x1 x2 x3 x4 x5 x6 x7 x8 x9 x10 x11 x12 x13 x14 x15 x16 x17 x18 x19 x20 = some b := by
  unfold g_comptoirplay_Small
  obtain ⟨b, hb⟩ := small0 x0 x1 x2 x3 x4 x5 x6 x7 x8 x9 x10 x11 x12 x13 x14 x15 x16 x17 x18 x19 x20 h16 h19 h20 x16.length 0 _ (by omega)
  exact ⟨b, (run_inl (by simp only [T_comptoirplay_Small, Tr.val_r]; rfl)).trans hb⟩
theorem deed_len {y : AV} (h : Wf deedSh y) (k sz : Nat) (s : Sh) (hk : deedShL[k]? = some (.slice sz s)) : (getXs (getF y k)).length < 9223372036854775808 := by
  obtain ⟨cs, rfl, hw⟩ : ∃ cs, y = .agg cs ∧ WfL deedShL cs := h
  obtain ⟨xs, e, hl, -⟩ : ∃ xs, cs.getD k .junk = .slice sz s xs .ro ∧ xs.length < TOP ∧ ∀ y ∈ xs, Wf s y := wfL_at hw k _ hk
  have : getF (.agg cs) k = .slice sz s xs .ro := e
  rw [this]; exact hl
theorem few_some (L : List AV) (hL : ∀ y ∈ L, Wf deedSh y) (hl : L.length < 9223372036854775808) : ∃ b, g_comptoirlaw25_few L = some b := by
  have key : ∀ k i : Nat, i + k = L.length → ∃ b, run (M_comptoirlaw25_few L) (M_comptoirlaw25_few L (i : Int)) = some b := by
    intro k
    induction k with
    | zero =>
      intro i hi
      have : i = L.length := by omega
      subst this
      have q1 : ¬ ((L.length : Int) < L.length) := by omega
      exact ⟨_, run_inr (by simp only [M_comptoirlaw25_few, Tr.val_c, Tr.val_r, q1, decide_false, cond_false]; rfl)⟩
    | succ k ih =>
      intro i hi
      have hlt : i < L.length := by omega
      have q1 : (i : Int) < L.length := by omega
      have q2 : (0 : Int) ≤ i := by omega
      have w1 : IntKind.i64.wrap ((i : Int) + 1) = ((i + 1 : Nat) : Int) := by rw [i64_wrap (by omega) (by omega)]; omega
      have hy := hL L[i] (List.getElem_mem hlt)
      have g : ∀ d : AV, L.getD i d = L[i] := fun d => by simp [List.getD_eq_getElem?_getD, hlt]
      obtain ⟨b1, h1⟩ := Small_some (getI (getF L[i] 10)) (getI (getF L[i] 11)) (getS (getF L[i] 12)) (getS (getF L[i] 13)) (getS (getF L[i] 14)) (getS (getF L[i] 15)) (getI (getF L[i] 16)) (getS (getF L[i] 17)) (getS (getF L[i] 18)) (getS (getF L[i] 19)) (getS (getF L[i] 20)) (getI (getF L[i] 21)) (getS (getF L[i] 22)) (getS (getF L[i] 23)) (getI (getF L[i] 24)) (getS (getF L[i] 25)) (getXs (getF L[i] 26)) (getS (getF L[i] 27)) (getS (getF L[i] 28)) (getXs (getF L[i] 29)) (getXs (getF L[i] 30)) (deed_len hy 26 _ _ rfl) (deed_len hy 29 _ _ rfl) (deed_len hy 30 _ _ rfl)
      obtain ⟨b2, h2⟩ := Small_some 0 0 [] [] [] [] 0 [] (getS (getF L[i] 34)) (getS (getF L[i] 35)) [] 0 [] [] 0 [] [] [] (getS (getF L[i] 33)) (getXs (getF L[i] 36)) (getXs (getF L[i] 37)) (by simp) (deed_len hy 36 _ _ rfl) (deed_len hy 37 _ _ rfl)
      cases b1 with
      | false => exact ⟨_, run_inr (x := false) (by simp only [M_comptoirlaw25_few, Tr.val_c, Tr.val_r, val_opt, q1, q2, Int.toNat_natCast, g, h1, Option.bind_some, Bool.not_false, decide_true, cond_true])⟩
      | true =>
        cases b2 with
        | false => exact ⟨_, run_inr (x := false) (by simp only [M_comptoirlaw25_few, Tr.val_c, Tr.val_r, val_opt, q1, q2, Int.toNat_natCast, g, h1, h2, Option.bind_some, Bool.not_false, Bool.not_true, decide_true, cond_true, cond_false])⟩
        | true =>
          rw [run_inl (s := ((i + 1 : Nat) : Int)) (by simp only [M_comptoirlaw25_few, Tr.val_c, Tr.val_r, val_opt, q1, q2, Int.toNat_natCast, g, h1, h2, w1, Option.bind_some, Bool.not_true, decide_true, cond_true, cond_false])]
          exact ih (i + 1) (by omega)
  unfold g_comptoirlaw25_few
  obtain ⟨b, hb⟩ := key L.length 0 (by omega)
  exact ⟨b, (run_inl (s := ((0 : Nat) : Int)) rfl).trans hb⟩
theorem Open_none : g_keeper_Open_n = some (0, 1, 1, [], [], 0, -1) := by
  have w1 : IntKind.i64.wrap (0 + 1) = 1 := rfl
  have w2 : IntKind.i64.wrap (1 + 1) = 2 := rfl
  unfold g_keeper_Open_n
  rw [run_inl (s := (true, (0 : Int), (0 : Int), (1 : Int), (1 : Int), ([] : List AV), ([] : List AV), (0 : Int), (1 : Int))) rfl]
  rw [run_inl (s := (true, (1 : Int), (0 : Int), (1 : Int), (1 : Int), ([] : List AV), ([] : List AV), (0 : Int), (1 : Int))) (by
    simp only [M_keeper_Open_n, Tr.val_c, Tr.val_r, val_opt, read_nil, w1, Option.bind_some, show (0 : Int) < 2 by decide, show ¬ ((0 : Int) > 0) by decide, decide_true, decide_false, cond_true, cond_false])]
  rw [run_inl (s := (true, (2 : Int), (0 : Int), (1 : Int), (1 : Int), ([] : List AV), ([] : List AV), (0 : Int), (1 : Int))) (by
    simp only [M_keeper_Open_n, Tr.val_c, Tr.val_r, val_opt, read_nil, w2, Option.bind_some, show (1 : Int) < 2 by decide, show ¬ ((0 : Int) > 0) by decide, decide_true, decide_false, cond_true, cond_false])]
  exact run_inr rfl
theorem knil_eq (L : List AV) (hw : ∀ y ∈ L, Wf deedSh y) (hL : L.length < 9223372036854775808) : g_comptoirlaw25_KeeperNil L = some true := by
  obtain ⟨b, hb⟩ := few_some L hw hL
  have z : ((-1 : Int) == -1) = true := rfl
  have c : g_keeper_Keeper_Commit_p05n0000000 L 0 1 1 [] [] 0 (-1) = some (24, 0, 1, 1, [], [], 0, -1) := rfl
  have s : g_comptoirhelp_State 0 1 1 [] [] 0 1 1 [] [] = some true := by
    have e1 : g_comptoirhelp_Same_api_Exchange_00fExchange_ [] [] = some true := by
      unfold g_comptoirhelp_Same_api_Exchange_00fExchange_
      rw [run_inl (s := ()) rfl]
      exact run_inr rfl
    have e2 : g_comptoirhelp_Same_api_Parked_00fParked_ [] [] = some true := by
      unfold g_comptoirhelp_Same_api_Parked_00fParked_
      rw [run_inl (s := ()) rfl]
      exact run_inr rfl
    unfold g_comptoirhelp_State
    simp only [T_comptoirhelp_State, Tr.val_c, Tr.val_r, val_opt, e1, e2, Option.bind_some, beq_self_eq_true, cond_true]
  unfold g_comptoirlaw25_KeeperNil
  cases b <;> simp only [T_comptoirlaw25_KeeperNil, Tr.val_c, Tr.val_r, val_opt, hb, Open_none, awake25, c, s, z, Option.bind_some, beq_self_eq_true, Bool.not_true, Bool.not_false, cond_true, cond_false]
end Go.Proofs.YtgjgfmeepgiddaaGreat
