/- What the printed functions come to, plainly. -/
import Derived.Test.YtaejmfmamhdlhaaYbG5
import Derived.Test.YtaejmfmamhdlhaaCxPl3
namespace Go.Proofs.Ytaejmfmamhdlhaa
open Go.Cx Go.Cx.AV
set_option linter.unusedSimpArgs false
set_option linter.unusedVariables false

/- slices.Concat of two. -/
theorem Grow_eq (n : Int) (h0 : 0 ≤ n) (h : n < 35184372088832) : g_slices_Grow_byte_byte n = some [] := by
  unfold g_slices_Grow_byte_byte
  have w : IntKind.i64.wrap (n - 0) = n := by rw [Int.sub_zero]; exact i64_wrap (by omega) (by omega)
  have hn0 : ¬ (n < 0) := by omega
  have hT : (T_slices_Grow_byte_byte n).val = some (.inl (.inl ())) := by simp only [T_slices_Grow_byte_byte, Tr.val_c, Tr.val_r, hn0]; rfl
  rw [run_inl hT]
  rw [run_inl (s := .inr ())]
  · exact run_inr rfl
  · simp only [M_slices_Grow_byte_byte, Tr.val_c, Tr.val_r, w, List.length_replicate]
    by_cases hn : n > 0
    · have : n.toNat * 2 < 70368744177664 := by omega
      simp [hn, this]
    · simp [hn]

theorem Concat_eq (a b : List AV) (h : a.length + b.length < 17592186044416) : g_slices_Concat_byte_byte [.slice 1 (.int .u8) a .ro, .slice 1 (.int .u8) b .ro] = some (a ++ b) := by
  have e0 : getXs (List.getD [AV.slice 1 (.int .u8) a .ro, .slice 1 (.int .u8) b .ro] (Int.toNat 0) (.slice 1 (.int .u8) [] .ro)) = a := rfl
  have e1 : getXs (List.getD [AV.slice 1 (.int .u8) a .ro, .slice 1 (.int .u8) b .ro] (Int.toNat 1) (.slice 1 (.int .u8) [] .ro)) = b := rfl
  have w0 : IntKind.i64.wrap (0 + (a.length : Int)) = a.length := by rw [Int.zero_add]; exact i64_wrap (by omega) (by omega)
  have w1 : IntKind.i64.wrap ((a.length : Int) + b.length) = ((a.length + b.length : Nat) : Int) := by rw [i64_wrap (by omega) (by omega)]; omega
  have w2 : IntKind.i64.wrap (0 + 1) = 1 := rfl
  have w3 : IntKind.i64.wrap (1 + 1) = 2 := rfl
  have n0 : ¬ ((a.length : Int) < 0) := by omega
  have n1 : ¬ (((a.length + b.length : Nat) : Int) < 0) := by omega
  have l0 : a.length * 2 < 70368744177664 := by omega
  have l1 : (a.length + b.length) * 2 < 70368744177664 := by omega
  have gr := Grow_eq (((a.length + b.length : Nat) : Int)) (by omega) (by omega)
  unfold g_slices_Concat_byte_byte
  rw [run_inl (s := .inl (0, 0)) rfl]
  rw [run_inl (s := .inl ((a.length : Int), 1)) (by simp only [M_slices_Concat_byte_byte, Tr.val_c, Tr.val_r, e0, w0, w2, n0]; rfl)]
  rw [run_inl (s := .inl (((a.length + b.length : Nat) : Int), 2)) (by simp only [M_slices_Concat_byte_byte, Tr.val_c, Tr.val_r, e1, w1, w3, n1]; rfl)]
  rw [run_inl (s := .inr ([], 0)) (by simp only [M_slices_Concat_byte_byte, Tr.val_c, Tr.val_r, gr, opt_some]; rfl)]
  rw [run_inl (s := .inr (a, 1)) (by simp only [M_slices_Concat_byte_byte, Tr.val_c, Tr.val_r, e0, w2, List.nil_append, l0, decide_true, beq_self_eq_true]; rfl)]
  rw [run_inl (s := .inr (a ++ b, 2)) (by simp only [M_slices_Concat_byte_byte, Tr.val_c, Tr.val_r, e1, w3, List.length_append, l1, decide_true, beq_self_eq_true]; rfl)]
  exact run_inr (by simp only [M_slices_Concat_byte_byte, Tr.val_c, Tr.val_r, beq_self_eq_true]; rfl)

/- the cursor -/
theorem shr8 (v : Int) : ∀ i : Nat, i < 8 → IntKind.u8.wrap (shrA .u64 v (8 * (i : Int))) = v / 256 ^ i % 256
  | 0, _ => by rw [u8_mod]; show v.fdiv 1 % 256 = _; rw [Int.fdiv_eq_ediv_of_nonneg _ (by decide)]; rfl
  | 1, _ => by rw [u8_mod]; show v.fdiv 256 % 256 = _; rw [Int.fdiv_eq_ediv_of_nonneg _ (by decide)]; rfl
  | 2, _ => by rw [u8_mod]; show v.fdiv 65536 % 256 = _; rw [Int.fdiv_eq_ediv_of_nonneg _ (by decide)]; rfl
  | 3, _ => by rw [u8_mod]; show v.fdiv 16777216 % 256 = _; rw [Int.fdiv_eq_ediv_of_nonneg _ (by decide)]; rfl
  | 4, _ => by rw [u8_mod]; show v.fdiv 4294967296 % 256 = _; rw [Int.fdiv_eq_ediv_of_nonneg _ (by decide)]; rfl
  | 5, _ => by rw [u8_mod]; show v.fdiv 1099511627776 % 256 = _; rw [Int.fdiv_eq_ediv_of_nonneg _ (by decide)]; rfl
  | 6, _ => by rw [u8_mod]; show v.fdiv 281474976710656 % 256 = _; rw [Int.fdiv_eq_ediv_of_nonneg _ (by decide)]; rfl
  | 7, _ => by rw [u8_mod]; show v.fdiv 72057594037927936 % 256 = _; rw [Int.fdiv_eq_ediv_of_nonneg _ (by decide)]; rfl
  | n + 8, h => by omega

/-- The lowest bytes of a number, the highest first. -/
def bex (v : Int) : Nat → List AV
  | 0 => []
  | i + 1 => .int .u8 (v / 256 ^ i % 256) :: bex v i
@[simp] theorem length_bex (v : Int) (i : Nat) : (bex v i).length = i := by induction i <;> simp [bex, *]

theorem set_last (r : List AV) (x y : AV) (j : Nat) : (List.replicate (j + 1) x ++ r).set j y = List.replicate j x ++ y :: r := by
  induction j with
  | zero => rfl
  | succ j ih => rw [List.replicate_succ (n := j + 1), List.cons_append, List.set_cons_succ, ih]; rfl

theorem Put_eq (x0 : List AV) (v n : Int) (m : Nat) (hx : x0.length < 8796093022208) (hm : m ≤ 8) (hn : (if 8 < (if 0 > n then 0 else n) then 8 else if 0 > n then 0 else n) = (m : Int)) : g_cursor_Put x0 v n = some (x0 ++ bex v m) := by
  unfold g_cursor_Put
  have hr : m * 2 < 70368744177664 := by omega
  have h0 : (0 : Int) ≤ m := by omega
  rw [run_inl (s := ((m : Int), (m : Int), List.replicate m (.int .u8 0), 0))]
  rotate_left
  · simp only [T_cursor_Put, Tr.val_c, Tr.val_r, hn, h0, Int.toNat_natCast, List.length_replicate, hr, decide_true, cond_true, beq_self_eq_true]
  have key : ∀ k i, i + k = m → run (M_cursor_Put x0 v n) (M_cursor_Put x0 v n ((m : Int), (m : Int), List.replicate k (.int .u8 0) ++ bex v i, (i : Int))) = some (x0 ++ bex v m) := by
    intro k
    induction k with
    | zero =>
      intro i hi
      have : i = m := by omega
      subst this
      have hlt : ¬ ((i : Int) < i) := by omega
      have hc := Concat_eq x0 (bex v i) (by simp; omega)
      exact run_inr (by simp only [M_cursor_Put, Tr.val_c, Tr.val_r, hlt, List.replicate_zero, List.nil_append, val_opt, hc, Option.bind_some, decide_false, cond_false, beq_self_eq_true, cond_true])
    | succ k ih =>
      intro i hi
      have q1 : (i : Int) < m := by omega
      have w1 : IntKind.i64.wrap (8 * (i : Int)) = 8 * i := i64_wrap (by omega) (by omega)
      have w2 : IntKind.i64.wrap ((m : Int) - 1) = m - 1 := i64_wrap (by omega) (by omega)
      have w3 : IntKind.i64.wrap ((m : Int) - 1 - i) = (k : Int) := by rw [i64_wrap (by omega) (by omega)]; omega
      have w4 : IntKind.i64.wrap ((i : Int) + 1) = ((i + 1 : Nat) : Int) := by rw [i64_wrap (by omega) (by omega)]; omega
      have q2 : (0 : Int) ≤ 8 * i := by omega
      have q3 : (0 : Int) ≤ k := by omega
      have hl : (List.replicate (k + 1) (AV.int .u8 0) ++ bex v i).length = m := by simp; omega
      have hl2 : (List.replicate k (AV.int .u8 0) ++ AV.int .u8 (v / 256 ^ i % 256) :: bex v i).length = m := by simp; omega
      have q4 : (k : Int) < m := by omega
      have q5 : k < m := by omega
      rw [run_inl (s := ((m : Int), (m : Int), List.replicate k (.int .u8 0) ++ bex v (i + 1), ((i + 1 : Nat) : Int)))]
      · exact ih (i + 1) (by omega)
      · simp only [M_cursor_Put, Tr.val_c, Tr.val_r, q1, w1, w2, w3, w4, q2, q3, q4, q5, hl, Int.toNat_natCast, shr8 v i (by omega), decide_true, cond_true, beq_self_eq_true, set_last, hl2]
        rfl
  have := key m 0 (by omega)
  simpa [bex] using this

theorem take_eq (n : Int) (b : List AV) (k : Nat) (hk : k ≤ b.length) (hb : b.length < 8796093022208) :
    g_cursor_Cursor_take_p0500 n b k = some (if n < 0 then ([], 1, b, (k : Int)) else if n > b.length - k then ([], 3, b, (k : Int)) else ((b.drop k).take n.toNat, 0, b, (k : Int) + n)) := by
  unfold g_cursor_Cursor_take_p0500
  have w0 : IntKind.i64.wrap ((b.length : Int) - k) = b.length - k := i64_wrap (by omega) (by omega)
  by_cases h1 : n < 0
  · simp only [T_cursor_Cursor_take_p0500, Tr.val_c, Tr.val_r, h1, decide_true, cond_true, if_true]
  · by_cases h2 : n > (b.length : Int) - k
    · simp only [T_cursor_Cursor_take_p0500, Tr.val_c, Tr.val_r, h1, h2, w0, decide_true, decide_false, cond_true, cond_false, if_true, if_false]
    · have w1 : IntKind.i64.wrap ((k : Int) + n) = k + n := i64_wrap (by omega) (by omega)
      have w2 : IntKind.i64.wrap ((k : Int) + n - n) = k := by rw [i64_wrap (by omega) (by omega)]; omega
      have q1 : (0 : Int) ≤ k + n := by omega
      have q2 : (k : Int) + n ≤ b.length := by omega
      have q3 : (0 : Int) ≤ k := by omega
      have q4 : (k : Int) ≤ k + n := by omega
      have hd : ((b.take ((k : Int) + n).toNat).drop (k : Int).toNat) = (b.drop k).take n.toNat := by
        rw [List.drop_take]; congr 1; omega
      simp only [T_cursor_Cursor_take_p0500, Tr.val_c, Tr.val_r, h1, h2, w0, w1, w2, q1, q2, q3, q4, hd, decide_true, decide_false, cond_true, cond_false, if_false]

theorem read_eq (n : Int) (b : List AV) (k : Int) : g_cursor_read_ftake_0p500 n b k = g_cursor_Cursor_take_p0500 n b k := by
  conv => lhs; unfold g_cursor_read_ftake_0p500
  simp only [T_cursor_read_ftake_0p500, Tr.val_c, Tr.val_r, val_opt]
  cases g_cursor_Cursor_take_p0500 n b k <;> rfl

/-- The number that bytes are. -/
def numOf (l : List AV) : Int := l.foldl (fun a x => bitsA .or .u64 (shlA .u64 a 8) (IntKind.u64.wrap (getI x))) 0

theorem Number_eq (n : Int) (b : List AV) (k : Nat) (hk : k ≤ b.length) (hb : b.length < 8796093022208) :
    g_cursor_Cursor_Number_p0500 n b k = some (if n < 1 then (0, 1, b, (k : Int)) else if n > 8 then (0, 1, b, (k : Int)) else if n > b.length - k then (0, 3, b, (k : Int)) else (numOf ((b.drop k).take n.toNat), 0, b, (k : Int) + n)) := by
  unfold g_cursor_Cursor_Number_p0500
  by_cases h1 : n < 1
  · rw [run_inr (x := (0, 1, b, (k : Int))) (by simp only [T_cursor_Cursor_Number_p0500, Tr.val_c, Tr.val_r, h1, decide_true, cond_true])]
    simp [h1]
  by_cases h2 : n > 8
  · rw [run_inr (x := (0, 1, b, (k : Int))) (by simp only [T_cursor_Cursor_Number_p0500, Tr.val_c, Tr.val_r, h1, h2, decide_true, decide_false, cond_true, cond_false])]
    simp [h1, h2]
  have loop : ∀ (e : Int) (l : List AV) (b2 : List AV) (at' : Int), l.length < 8796093022208 → ∀ m i v, i + m = l.length → run (M_cursor_Cursor_Number_p0500 n b k) (M_cursor_Cursor_Number_p0500 n b k (e, l, (l.length : Int), b2, at', v, (i : Int))) =
      some ((l.drop i).foldl (fun a x => bitsA .or .u64 (shlA .u64 a 8) (IntKind.u64.wrap (getI x))) v, e, b2, at') := by
    intro e l b2 at' hl m
    induction m with
    | zero =>
      intro i v hi
      have hlt : ¬ ((i : Int) < l.length) := by omega
      rw [List.drop_of_length_le (by omega)]
      exact run_inr (by simp only [M_cursor_Cursor_Number_p0500, Tr.val_c, Tr.val_r, hlt, decide_false, cond_false]; rfl)
    | succ m ih =>
      intro i v hi
      have q1 : (i : Int) < l.length := by omega
      have q2 : (0 : Int) ≤ i := by omega
      have q3 : i < l.length := by omega
      have w : IntKind.i64.wrap ((i : Int) + 1) = ((i + 1 : Nat) : Int) := by rw [i64_wrap (by omega) (by omega)]; omega
      have hg : l.getD i (.int .u8 0) = l[i] := by simp [List.getD_eq_getElem?_getD, q3]
      rw [run_inl (s := (e, l, (l.length : Int), b2, at', bitsA .or .u64 (shlA .u64 v 8) (IntKind.u64.wrap (getI l[i])), ((i + 1 : Nat) : Int))) (by simp only [M_cursor_Cursor_Number_p0500, Tr.val_c, Tr.val_r, q1, q2, w, hg, Int.toNat_natCast, decide_true, cond_true]), ih (i + 1) _ (by omega), List.drop_eq_getElem_cons q3, List.foldl_cons]
  have ht := take_eq n b k hk hb
  have h0 : ¬ n < 0 := by omega
  by_cases h3 : n > (b.length : Int) - k
  · rw [run_inl (s := (3, [], ((([] : List AV).length : Nat) : Int), b, (k : Int), 0, ((0 : Nat) : Int)))]
    · rw [loop 3 [] b k (by simp) 0 0 0 rfl]
      simp [h1, h2, h3]
    · simp only [T_cursor_Cursor_Number_p0500, Tr.val_c, Tr.val_r, val_opt, h1, h2, h0, h3, read_eq, ht, Option.bind_some, if_true, if_false, decide_false, cond_false]
      rfl
  · rw [run_inl (s := (0, (b.drop k).take n.toNat, ((((b.drop k).take n.toNat).length : Nat) : Int), b, (k : Int) + n, 0, ((0 : Nat) : Int)))]
    · rw [loop 0 _ b _ (by simp only [List.length_take, List.length_drop]; omega) ((b.drop k).take n.toNat).length 0 0 (by omega)]
      simp only [h1, h2, h3, if_false, List.drop_zero, numOf]
    · simp only [T_cursor_Cursor_Number_p0500, Tr.val_c, Tr.val_r, val_opt, h1, h2, h0, h3, read_eq, ht, Option.bind_some, if_true, if_false, decide_false, cond_false]
      rfl

theorem New_eq (b : List AV) (hb : b.length < 8796093022208) : g_cursor_New b = some (b, 0) := by
  have : b.length * 2 < 70368744177664 := by omega
  unfold g_cursor_New
  simp only [T_cursor_New, Tr.val_c, Tr.val_r, this, decide_true, cond_true]


theorem Take_eq (n : Int) (b : List AV) (k : Nat) (hk : k ≤ b.length) (hb : b.length < 8796093022208) :
    g_cursor_Cursor_Take_p0500 n b k = some (if n < 0 then ([], 1, b, (k : Int)) else if n > b.length - k then ([], 3, b, (k : Int)) else ((b.drop k).take n.toNat, 0, b, (k : Int) + n)) := by
  have h := take_eq n b k hk hb
  have hl : ∀ m : Nat, ((b.drop k).take m).length * 2 < 70368744177664 := by
    intro m; simp only [List.length_take, List.length_drop]; omega
  unfold g_cursor_Cursor_Take_p0500
  simp only [T_cursor_Cursor_Take_p0500, Tr.val_c, Tr.val_r, val_opt, read_eq, h, Option.bind_some]
  by_cases h1 : n < 0
  · simp [h1]
  · by_cases h2 : n > (b.length : Int) - k
    · simp [h1, h2]
    · simp only [h1, h2, if_false, hl, decide_true, cond_true]


/- sums over bytes -/
def cb (c : Nat) : Nat := if c % 2 = 1 then (c / 2) ^^^ 3988292384 else c / 2
def cbs : Nat → Nat → Nat
  | 0, c => c
  | k + 1, c => cbs k (cb c)
theorem cb_lt {c : Nat} (h : c < 4294967296) : cb c < 4294967296 := by
  unfold cb
  split
  · exact Nat.xor_lt_two_pow (n := 32) (by omega) (by omega)
  · omega
theorem cbs_lt : ∀ (k : Nat) {c : Nat}, c < 4294967296 → cbs k c < 4294967296
  | 0, _, h => h
  | k + 1, _, h => cbs_lt k (cb_lt h)
/-- One byte more. -/
def crc1 (c : Nat) (y : AV) : Nat := cbs 8 (c ^^^ (IntKind.u32.wrap (getI y)).toNat)
theorem u32_nat (n : Int) : ((IntKind.u32.wrap n).toNat : Int) = IntKind.u32.wrap n ∧ (IntKind.u32.wrap n).toNat < 4294967296 := by
  rw [u32_mod]; omega
theorem xor_lt32 {a b : Nat} (ha : a < 4294967296) (hb : b < 4294967296) : a ^^^ b < 4294967296 := Nat.xor_lt_two_pow (n := 32) ha hb
theorem crc1_lt {c : Nat} (y : AV) (h : c < 4294967296) : crc1 c y < 4294967296 := cbs_lt 8 (xor_lt32 h (u32_nat _).2)
theorem crcF_lt : ∀ (l : List AV) {c : Nat}, c < 4294967296 → l.foldl crc1 c < 4294967296
  | [], _, h => h
  | y :: l, _, h => crcF_lt l (crc1_lt y h)
def crcN (l : List AV) : Nat := (l.foldl crc1 4294967295) ^^^ 4294967295
theorem crcN_lt (l : List AV) : crcN l < 4294967296 := xor_lt32 (crcF_lt l (by omega)) (by omega)
theorem xor32' {X Y : Nat} (hX : X < 4294967296) (hY : Y < 4294967296) : bitsA .xor .u32 (X : Int) (Y : Int) = ((X ^^^ Y : Nat) : Int) := xor32 hX hY

theorem step_eq (x : Int) (c : Nat) (hc : c < 4294967296) : g_crc_sum_step_p050 x (c : Int) = some ((cbs 8 (c ^^^ (IntKind.u32.wrap x).toNat) : Nat) : Int) := by
  obtain ⟨u1, u2⟩ := u32_nat x
  unfold g_crc_sum_step_p050
  have h0 : bitsA .xor .u32 (c : Int) (IntKind.u32.wrap x) = ((c ^^^ (IntKind.u32.wrap x).toNat : Nat) : Int) := by rw [← xor32' hc u2, u1]
  rw [run_inl (s := (((0 : Nat) : Int), ((c ^^^ (IntKind.u32.wrap x).toNat : Nat) : Int))) (by simp only [T_crc_sum_step_p050, Tr.val_r, h0]; rfl)]
  have key : ∀ k i d : Nat, i + k = 8 → d < 4294967296 → run (M_crc_sum_step_p050 x (c : Int)) (M_crc_sum_step_p050 x (c : Int) ((i : Int), (d : Int))) = some ((cbs k d : Nat) : Int) := by
    intro k
    induction k with
    | zero =>
      intro i d hi hd
      have q : ¬ ((i : Int) < 8) := by omega
      exact run_inr (by simp only [M_crc_sum_step_p050, Tr.val_c, Tr.val_r, q, decide_false, cond_false]; rfl)
    | succ k ih =>
      intro i d hi hd
      have q : (i : Int) < 8 := by omega
      have w : IntKind.i64.wrap ((i : Int) + 1) = ((i + 1 : Nat) : Int) := by rw [i64_wrap (by omega) (by omega)]; omega
      have o := odd32 (X := d) hd
      have hf := half32 d
      by_cases h1 : d % 2 = 1
      · have x1 : bitsA .xor .u32 ((d / 2 : Nat) : Int) 3988292384 = ((d / 2 ^^^ 3988292384 : Nat) : Int) := xor32' (Y := 3988292384) (by omega) (by omega)
        have e : (((d % 2 : Nat) : Int) == 1) = true := by rw [h1]; rfl
        have hb : cb d = d / 2 ^^^ 3988292384 := by unfold cb; rw [if_pos h1]
        rw [run_inl (s := (((i + 1 : Nat) : Int), ((cb d : Nat) : Int))) (by simp only [M_crc_sum_step_p050, Tr.val_c, Tr.val_r, q, w, o, hf, x1, e, hb, decide_true, cond_true])]
        exact ih (i + 1) (cb d) (by omega) (cb_lt hd)
      · have e : (((d % 2 : Nat) : Int) == 1) = false := by
          have : d % 2 = 0 := by omega
          rw [this]; rfl
        have hb : cb d = d / 2 := by unfold cb; rw [if_neg h1]
        rw [run_inl (s := (((i + 1 : Nat) : Int), ((cb d : Nat) : Int))) (by simp only [M_crc_sum_step_p050, Tr.val_c, Tr.val_r, q, w, o, hf, e, hb, decide_true, cond_true, cond_false])]
        exact ih (i + 1) (cb d) (by omega) (cb_lt hd)
  exact key 8 0 _ rfl (xor_lt32 hc u2)

theorem each_eq (A : List AV) (hA : A.length < 8796093022208) : g_crc_each_0fstep_p50 A 4294967295 = some ((A.foldl crc1 4294967295 : Nat) : Int) := by
  unfold g_crc_each_0fstep_p50
  rw [run_inl (s := (((0 : Nat) : Int), ((4294967295 : Nat) : Int))) rfl]
  have key : ∀ k i d : Nat, i + k = A.length → d < 4294967296 → run (M_crc_each_0fstep_p50 A 4294967295) (M_crc_each_0fstep_p50 A 4294967295 ((i : Int), (d : Int))) = some (((A.drop i).foldl crc1 d : Nat) : Int) := by
    intro k
    induction k with
    | zero =>
      intro i d hi hd
      have q : ¬ ((i : Int) < A.length) := by omega
      rw [List.drop_of_length_le (by omega)]
      exact run_inr (by simp only [M_crc_each_0fstep_p50, Tr.val_c, Tr.val_r, q, decide_false, cond_false]; rfl)
    | succ k ih =>
      intro i d hi hd
      have q : (i : Int) < A.length := by omega
      have q2 : (0 : Int) ≤ i := by omega
      have q3 : i < A.length := by omega
      have w : IntKind.i64.wrap ((i : Int) + 1) = ((i + 1 : Nat) : Int) := by rw [i64_wrap (by omega) (by omega)]; omega
      have hg : A.getD i (.int .u8 0) = A[i] := by simp [List.getD_eq_getElem?_getD, q3]
      have hs := step_eq (getI A[i]) d hd
      rw [run_inl (s := (((i + 1 : Nat) : Int), ((crc1 d A[i] : Nat) : Int))) (by simp only [M_crc_each_0fstep_p50, Tr.val_c, Tr.val_r, val_opt, q, q2, w, hg, Int.toNat_natCast, hs, Option.bind_some, decide_true, cond_true]; rfl), ih (i + 1) _ (by omega) (crc1_lt _ hd), List.drop_eq_getElem_cons q3, List.foldl_cons]
  have := key A.length 0 4294967295 (by omega) (by omega)
  rwa [List.drop_zero] at this

theorem Of_eq (A : List AV) (hA : A.length < 8796093022208) : g_crc_Of A = some ((crcN A : Nat) : Int) := by
  have x1 : bitsA .xor .u32 ((A.foldl crc1 4294967295 : Nat) : Int) 4294967295 = ((crcN A : Nat) : Int) := xor32' (Y := 4294967295) (crcF_lt A (by omega)) (by omega)
  unfold g_crc_Of
  simp only [T_crc_Of, Tr.val_r, val_opt, each_eq A hA, Option.bind_some, x1]

theorem u64_crc (A : List AV) : IntKind.u64.wrap ((crcN A : Nat) : Int) = ((crcN A : Nat) : Int) := by
  have := crcN_lt A
  exact u64_wrap (by omega) (by omega)

theorem Seal_eq (A : List AV) (hA : A.length < 8796093022208) : g_crc_Seal A = some (A ++ bex ((crcN A : Nat) : Int) 4) := by
  have p := Put_eq A ((crcN A : Nat) : Int) 4 4 hA (by omega) (by decide)
  unfold g_crc_Seal
  simp only [T_crc_Seal, Tr.val_r, val_opt, Of_eq A hA, u64_crc, p, Option.bind_some]

/-- What opens. -/
noncomputable def openR (A : List AV) : List AV × Int :=
  if A.length < 4 then ([], 3) else if IntKind.u32.wrap (numOf (A.drop (A.length - 4))) = ((crcN (A.take (A.length - 4)) : Nat) : Int) then (A.take (A.length - 4), 0) else ([], 8)

theorem Open_eq (A : List AV) (hA : A.length < 8796093022208) : g_crc_Open A = some (openR A) := by
  have w0 : IntKind.i64.wrap ((A.length : Int) - 4) = (A.length : Int) - 4 := i64_wrap (by omega) (by omega)
  have nw := New_eq A hA
  unfold g_crc_Open openR
  by_cases h4 : A.length < 4
  · have q : (if (0 : Int) > (A.length : Int) - 4 then (0 : Int) else (A.length : Int) - 4) = 0 := if_pos (by omega)
    have t := Take_eq 0 A 0 (by omega) hA
    rw [if_neg (by omega), if_neg (by omega), show ((0 : Nat) : Int) + 0 = ((0 : Nat) : Int) from rfl] at t
    have n := Number_eq 4 A 0 (by omega) hA
    rw [if_neg (by decide), if_neg (by decide), if_pos (by omega)] at n
    have t' : g_cursor_Cursor_Take_p0500 0 A 0 = _ := t
    have n' : g_cursor_Cursor_Number_p0500 4 A ((0 : Nat) : Int) = _ := n
    rw [if_pos h4]
    simp only [T_crc_Open, Tr.val_c, Tr.val_r, val_opt, w0, q, nw, t', n', Option.bind_some, bne_self_eq_false, cond_false]
    rfl
  · have q : (if (0 : Int) > (A.length : Int) - 4 then (0 : Int) else (A.length : Int) - 4) = ((A.length - 4 : Nat) : Int) := by rw [if_neg (by omega)]; omega
    have t := Take_eq ((A.length - 4 : Nat) : Int) A 0 (by omega) hA
    rw [if_neg (by omega), if_neg (by omega), show ((0 : Nat) : Int) + ((A.length - 4 : Nat) : Int) = ((A.length - 4 : Nat) : Int) by omega, List.drop_zero, Int.toNat_natCast] at t
    have n := Number_eq 4 A (A.length - 4) (by omega) hA
    rw [if_neg (by decide), if_neg (by decide), if_neg (by omega)] at n
    have hd : (A.drop (A.length - 4)).take (4 : Int).toNat = A.drop (A.length - 4) := List.take_of_length_le (by rw [List.length_drop, show (4 : Int).toNat = 4 from rfl]; omega)
    rw [hd] at n
    have t' : g_cursor_Cursor_Take_p0500 ((A.length - 4 : Nat) : Int) A 0 = _ := t
    have o := Of_eq (A.take (A.length - 4)) (by rw [List.length_take]; omega)
    rw [if_neg h4]
    by_cases he : IntKind.u32.wrap (numOf (A.drop (A.length - 4))) = ((crcN (A.take (A.length - 4)) : Nat) : Int)
    · rw [if_pos he]
      simp only [T_crc_Open, Tr.val_c, Tr.val_r, val_opt, w0, q, nw, t', n, o, he, Option.bind_some, bne_self_eq_false, cond_false]
    · have he' : (IntKind.u32.wrap (numOf (A.drop (A.length - 4))) != ((crcN (A.take (A.length - 4)) : Nat) : Int)) = true := by simpa using he
      rw [if_neg he]
      simp only [T_crc_Open, Tr.val_c, Tr.val_r, val_opt, w0, q, nw, t', n, o, he', Option.bind_some, bne_self_eq_false, cond_false, cond_true]

theorem awake05 : g_comptoirlaw05_awake = some true := by
  have s := Seal_eq [.int .u8 7] (by simp)
  have o := Open_eq ([AV.int .u8 7] ++ bex ((crcN [.int .u8 7] : Nat) : Int) 4) (by simp)
  have f := Of_eq [.int .u8 49, .int .u8 50, .int .u8 51, .int .u8 52, .int .u8 53, .int .u8 54, .int .u8 55, .int .u8 56, .int .u8 57] (by simp)
  have e1 : openR ([AV.int .u8 7] ++ bex ((crcN [.int .u8 7] : Nat) : Int) 4) = ([.int .u8 7], 0) := by kernel_rfl
  have e2 : ((crcN [AV.int .u8 49, .int .u8 50, .int .u8 51, .int .u8 52, .int .u8 53, .int .u8 54, .int .u8 55, .int .u8 56, .int .u8 57] : Nat) : Int) = 3421780262 := by kernel_rfl
  rw [e1] at o
  rw [e2] at f
  unfold g_comptoirlaw05_awake
  simp only [T_comptoirlaw05_awake, Tr.val_c, Tr.val_r, val_opt, s, o, f, Option.bind_some, beq_self_eq_true, cond_true]
  rfl

/- sums are linear -/
theorem cb_xor (a b : Nat) : cb (a ^^^ b) = cb a ^^^ cb b := by
  have hd : (a ^^^ b) / 2 = a / 2 ^^^ b / 2 := Nat.xor_div_two
  have hm : (a ^^^ b) % 2 = 1 ↔ ¬ (a % 2 = 1 ↔ b % 2 = 1) := Nat.xor_mod_two_eq_one
  have k : ∀ x y K : Nat, (x ^^^ K) ^^^ (y ^^^ K) = x ^^^ y := fun x y K => by
    rw [Nat.xor_assoc, Nat.xor_comm y K, ← Nat.xor_assoc K K y, Nat.xor_self, Nat.zero_xor]
  unfold cb
  by_cases ha : a % 2 = 1 <;> by_cases hb : b % 2 = 1
  · rw [if_neg (by rw [hm]; simp [ha, hb]), if_pos ha, if_pos hb, hd, k]
  · rw [if_pos (by rw [hm]; simp [ha, hb]), if_pos ha, if_neg hb, hd, Nat.xor_assoc, Nat.xor_assoc, Nat.xor_comm (b / 2)]
  · rw [if_pos (by rw [hm]; simp [ha, hb]), if_neg ha, if_pos hb, hd, Nat.xor_assoc]
  · rw [if_neg (by rw [hm]; simp [ha, hb]), if_neg ha, if_neg hb, hd]
theorem cbs_xor : ∀ (k a b : Nat), cbs k (a ^^^ b) = cbs k a ^^^ cbs k b
  | 0, _, _ => rfl
  | k + 1, a, b => by rw [cbs, cb_xor, cbs_xor k]; rfl
theorem cbs_add : ∀ (j k a : Nat), cbs (j + k) a = cbs k (cbs j a)
  | 0, k, a => by rw [Nat.zero_add]; rfl
  | j + 1, k, a => by rw [show j + 1 + k = (j + k) + 1 by omega, cbs, cbs_add j k]; rfl
theorem cbs_shift : ∀ (k a : Nat), cbs k (2 ^ k * a) = a
  | 0, a => by simp [cbs]
  | k + 1, a => by
    have e : 2 ^ (k + 1) * a = 2 * (2 ^ k * a) := by rw [Nat.pow_succ, Nat.mul_comm (2 ^ k) 2, Nat.mul_assoc]
    have h : cb (2 * (2 ^ k * a)) = 2 ^ k * a := by
      unfold cb
      rw [if_neg (by omega)]; omega
    rw [cbs, e, h, cbs_shift k a]
/-- Eight steps at a number: those at its lowest byte, and the others moved down. -/
theorem cbs_byte (v : Nat) : cbs 8 v = cbs 8 (v % 256) ^^^ v / 256 := by
  have h := Nat.two_pow_add_eq_or_of_lt (i := 8) (b := v % 256) (by omega) (v / 256)
  have e : v = (2 ^ 8 * (v / 256)) ^^^ (v % 256) := by
    have h2 : 2 ^ 8 * (v / 256) ^^^ v % 256 = 2 ^ 8 * (v / 256) ||| v % 256 := by
      apply Nat.eq_of_testBit_eq
      intro i
      rw [Nat.testBit_xor, Nat.testBit_or]
      by_cases hi : i < 8
      · have : (2 ^ 8 * (v / 256)).testBit i = false := by rw [Nat.testBit_two_pow_mul]; simp; omega
        rw [this]; simp
      · have : (v % 256).testBit i = false := Nat.testBit_lt_two_pow (Nat.lt_of_lt_of_le (Nat.mod_lt _ (by omega)) (show 2 ^ 8 ≤ 2 ^ i from Nat.pow_le_pow_right (by omega) (by omega)))
        rw [this]; simp
    rw [h2, ← h]; omega
  conv => lhs; rw [e]
  rw [cbs_xor, cbs_shift, Nat.xor_comm]

theorem cb_inj {a b : Nat} (ha : a < 4294967296) (hb : b < 4294967296) (h : cb a = cb b) : a = b := by
  have t : ∀ x y : Nat, x < 4294967296 → y < 4294967296 → x / 2 ^^^ 3988292384 ≠ y / 2 := by
    intro x y hx hy e
    have e2 := congrArg (fun z => Nat.testBit z 31) e
    simp only [Nat.testBit_xor] at e2
    rw [Nat.testBit_lt_two_pow (x := x / 2) (i := 31) (by omega), Nat.testBit_lt_two_pow (x := y / 2) (i := 31) (by omega)] at e2
    revert e2; decide
  unfold cb at h
  by_cases h1 : a % 2 = 1 <;> by_cases h2 : b % 2 = 1
  · rw [if_pos h1, if_pos h2] at h
    have : a / 2 = b / 2 := by
      have := congrArg (· ^^^ 3988292384) h
      simp only [Nat.xor_assoc, Nat.xor_self, Nat.xor_zero] at this
      exact this
    omega
  · rw [if_pos h1, if_neg h2] at h
    exact absurd h (t a b ha hb)
  · rw [if_neg h1, if_pos h2] at h
    exact absurd h.symm (t b a hb ha)
  · rw [if_neg h1, if_neg h2] at h
    omega
theorem cbs_inj : ∀ (k : Nat) {a b : Nat}, a < 4294967296 → b < 4294967296 → cbs k a = cbs k b → a = b
  | 0, _, _, _, _, h => h
  | k + 1, _, _, ha, hb, h => cb_inj ha hb (cbs_inj k (cb_lt ha) (cb_lt hb) h)
theorem xor_inj {a b K : Nat} (h : a ^^^ K = b ^^^ K) : a = b := by
  have := congrArg (· ^^^ K) h
  simp only [Nat.xor_assoc, Nat.xor_self, Nat.xor_zero] at this
  exact this
theorem crc1_inj {a b : Nat} (y : AV) (ha : a < 4294967296) (hb : b < 4294967296) (h : crc1 a y = crc1 b y) : a = b :=
  xor_inj (cbs_inj 8 (xor_lt32 ha (u32_nat _).2) (xor_lt32 hb (u32_nat _).2) h)
theorem crcF_inj : ∀ (l : List AV) {a b : Nat}, a < 4294967296 → b < 4294967296 → l.foldl crc1 a = l.foldl crc1 b → a = b
  | [], _, _, _, _, h => h
  | y :: l, _, _, ha, hb, h => crc1_inj y ha hb (crcF_inj l (crc1_lt y ha) (crc1_lt y hb) h)
theorem crc1_nat (c n : Nat) (h : n < 4294967296) : crc1 c (.int .u8 (n : Int)) = cbs 8 (c ^^^ n) := by
  unfold crc1
  rw [getI_int, u32_wrap (by omega) (by omega), Int.toNat_natCast]
/-- Four bytes, the lowest first, are as if all came at once. -/
theorem crc4 (s v : Nat) (hv : v < 4294967296) : [AV.int .u8 ((v % 256 : Nat) : Int), .int .u8 ((v / 256 % 256 : Nat) : Int), .int .u8 ((v / 65536 % 256 : Nat) : Int), .int .u8 ((v / 16777216 % 256 : Nat) : Int)].foldl crc1 s = cbs 32 (s ^^^ v) := by
  have b1 := cbs_byte v
  have b2 := cbs_byte (v / 256)
  have b3 := cbs_byte (v / 65536)
  have b4 := cbs_byte (v / 16777216)
  rw [show v / 256 / 256 = v / 65536 by omega] at b2
  rw [show v / 65536 / 256 = v / 16777216 by omega] at b3
  rw [show v / 16777216 / 256 = 0 by omega, Nat.xor_zero] at b4
  simp only [List.foldl_cons, List.foldl_nil]
  rw [crc1_nat _ _ (by omega), crc1_nat _ _ (by omega), crc1_nat _ _ (by omega), crc1_nat _ _ (by omega)]
  rw [show (32 : Nat) = 8 + (8 + (8 + 8)) from rfl, cbs_add, cbs_add, cbs_add, cbs_xor 8 s v, b1, ← Nat.xor_assoc (cbs 8 s), ← cbs_xor 8 s, cbs_xor 8 _ (v / 256), b2, ← Nat.xor_assoc, ← cbs_xor 8, cbs_xor 8 _ (v / 65536), b3, ← Nat.xor_assoc, ← cbs_xor 8, cbs_xor 8 _ (v / 16777216), b4, ← cbs_xor 8]

theorem low_bytes (v : Nat) : [AV.int .u8 (IntKind.u8.wrap (v : Int)), .int .u8 (IntKind.u8.wrap (shrA .u32 (v : Int) 8)), .int .u8 (IntKind.u8.wrap (shrA .u32 (v : Int) 16)), .int .u8 (IntKind.u8.wrap (shrA .u32 (v : Int) 24))] = [AV.int .u8 ((v % 256 : Nat) : Int), .int .u8 ((v / 256 % 256 : Nat) : Int), .int .u8 ((v / 65536 % 256 : Nat) : Int), .int .u8 ((v / 16777216 % 256 : Nat) : Int)] := by
  have e1 : shrA .u32 (v : Int) 8 = ((v / 256 : Nat) : Int) := by show (v : Int).fdiv 256 = _; rw [Int.fdiv_eq_ediv_of_nonneg _ (by decide)]; omega
  have e2 : shrA .u32 (v : Int) 16 = ((v / 65536 : Nat) : Int) := by show (v : Int).fdiv 65536 = _; rw [Int.fdiv_eq_ediv_of_nonneg _ (by decide)]; omega
  have e3 : shrA .u32 (v : Int) 24 = ((v / 16777216 : Nat) : Int) := by show (v : Int).fdiv 16777216 = _; rw [Int.fdiv_eq_ediv_of_nonneg _ (by decide)]; omega
  rw [e1, e2, e3, u8_mod, u8_mod, u8_mod, u8_mod]
  rw [show (v : Int) % 256 = ((v % 256 : Nat) : Int) by omega, show ((v / 256 : Nat) : Int) % 256 = ((v / 256 % 256 : Nat) : Int) by omega, show ((v / 65536 : Nat) : Int) % 256 = ((v / 65536 % 256 : Nat) : Int) by omega, show ((v / 16777216 : Nat) : Int) % 256 = ((v / 16777216 % 256 : Nat) : Int) by omega]

theorem joins_sum (A : List AV) : crcN (A ++ [AV.int .u8 ((crcN A % 256 : Nat) : Int), .int .u8 ((crcN A / 256 % 256 : Nat) : Int), .int .u8 ((crcN A / 65536 % 256 : Nat) : Int), .int .u8 ((crcN A / 16777216 % 256 : Nat) : Int)]) = crcN [.int .u8 0, .int .u8 0, .int .u8 0, .int .u8 0] := by
  have h0 := crc4 4294967295 0 (by omega)
  unfold crcN at h0 ⊢
  rw [List.foldl_append, crc4 _ _ (xor_lt32 (crcF_lt A (by omega)) (by omega)), ← Nat.xor_assoc, Nat.xor_self, Nat.zero_xor]
  rw [Nat.xor_zero] at h0
  rw [← h0]
  rfl

theorem joins_ne (A : List AV) : crcN ([AV.int .u8 0] ++ A) ≠ crcN ([AV.int .u8 0, .int .u8 0] ++ A) := by
  intro h
  unfold crcN at h
  have h := xor_inj h
  rw [List.foldl_append, List.foldl_append] at h
  have h := crcF_inj A (crcF_lt _ (by omega)) (crcF_lt _ (by omega)) h
  have e1 : [AV.int .u8 0].foldl crc1 4294967295 ≠ [AV.int .u8 0, .int .u8 0].foldl crc1 4294967295 := by decide +kernel
  exact e1 h

theorem joins_eq (A : List AV) : g_comptoirlaw05_CrcJoins A = some true := by
  unfold g_comptoirlaw05_CrcJoins
  by_cases hbig : (A.length : Int) > 300
  · simp only [T_comptoirlaw05_CrcJoins, Tr.val_c, Tr.val_r, val_opt, awake05, hbig, Option.bind_some, decide_true, cond_true]
  have hA : A.length < 8796093022208 := by omega
  have l2 : A.length * 2 < 70368744177664 := by omega
  obtain ⟨X, hX⟩ : ∃ X, X = A ++ [AV.int .u8 ((crcN A % 256 : Nat) : Int), .int .u8 ((crcN A / 256 % 256 : Nat) : Int), .int .u8 ((crcN A / 65536 % 256 : Nat) : Int), .int .u8 ((crcN A / 16777216 % 256 : Nat) : Int)] := ⟨_, rfl⟩
  have lX : X.length = A.length + 4 := by rw [hX]; simp
  have kX : X.length * 2 < 70368744177664 := by omega
  have sX : crcN X = crcN [.int .u8 0, .int .u8 0, .int .u8 0, .int .u8 0] := by rw [hX]; exact joins_sum A
  have oX := Of_eq X (by omega)
  rw [sX] at oX
  have o4 := Of_eq [.int .u8 0, .int .u8 0, .int .u8 0, .int .u8 0] (by simp)
  have o0 := Of_eq [] (by simp)
  have z0 : ((crcN [] : Nat) : Int) = 0 := by kernel_rfl
  obtain ⟨Y, hY⟩ : ∃ Y, Y = [AV.int .u8 0] ++ A := ⟨_, rfl⟩
  obtain ⟨Z, hZ⟩ : ∃ Z, Z = [AV.int .u8 0, .int .u8 0] ++ A := ⟨_, rfl⟩
  have lY : Y.length = 1 + A.length := by rw [hY]; simp; omega
  have lZ : Z.length = 2 + A.length := by rw [hZ]; simp; omega
  have kY : Y.length * 2 < 70368744177664 := by omega
  have kZ : Z.length * 2 < 70368744177664 := by omega
  have oY := Of_eq Y (by omega)
  have oZ := Of_eq Z (by omega)
  have ne : (((crcN Y : Nat) : Int) != ((crcN Z : Nat) : Int)) = true := by
    have := joins_ne A
    rw [← hY, ← hZ] at this
    simp only [bne_iff_ne, ne_eq]
    omega
  by_cases h0 : A.length = 0
  · have hn : A = [] := List.eq_nil_of_length_eq_zero h0
    have eY : Y = [AV.int .u8 0] := by rw [hY, hn]; rfl
    have eZ : Z = [AV.int .u8 0, .int .u8 0] := by rw [hZ, hn]; rfl
    rw [eY] at oY ne
    rw [eZ] at oZ ne
    have q0 : (A.length == 0) = true := by simp [h0]
    simp only [T_comptoirlaw05_CrcJoins, Tr.val_c, Tr.val_r, val_opt, awake05, hbig, l2, Of_eq A hA, low_bytes, ← hX, kX, oX, o4, o0, z0, oY, oZ, ne, q0, Option.bind_some, decide_true, decide_false, cond_true, cond_false, beq_self_eq_true]
  · have q0 : (A.length == 0) = false := by simp [h0]
    have q1 : 0 < A.length := by omega
    simp only [T_comptoirlaw05_CrcJoins, Tr.val_c, Tr.val_r, val_opt, awake05, hbig, l2, Of_eq A hA, low_bytes, ← hX, ← hY, ← hZ, kX, kY, kZ, oX, o4, o0, z0, oY, oZ, ne, q0, q1, Option.bind_some, decide_true, decide_false, cond_true, cond_false, beq_self_eq_true]

end Go.Proofs.Ytaejmfmamhdlhaa
