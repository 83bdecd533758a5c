/- What the printed functions come to, plainly. -/
import Derived.Test.YtcnalhganahiiaaGreatDoorYsG5
import Derived.Test.YtcnalhganahiiaaGreatDoorCxAm
namespace Go.Proofs.YtcnalhganahiiaaGreatDoor
open Go.Cx Go.Cx.AV
set_option linter.unusedSimpArgs false
set_option linter.unusedVariables false
theorem digits_pos (v : Nat) : 1 ≤ (Go.Lib.decDigits v).length := by
  rw [Go.Lib.decDigits]; split <;> simp
theorem rep48 (k : Nat) : Go.Lib.repeatL [48] k = List.replicate k 48 := by
  induction k with
  | zero => rfl
  | succ k ih => rw [Go.Lib.repeatL, ih, List.replicate_succ]; rfl
def textS (v : Nat) (w : Int) : List UInt8 × Int :=
  if w < 1 ∨ 20 < w then ([], 1) else if w < (Go.Lib.decDigits v).length then ([], 4) else (List.replicate (w - (Go.Lib.decDigits v).length).toNat 48 ++ Go.Lib.decDigits v, 0)
theorem Text_eq (v : Nat) (hv : v < 18446744073709551616) (w : Int) : g_digits_Text (v : Int) w = some (textS v w) := by
  unfold g_digits_Text textS
  have q0 : (0 : Int) ≤ (v : Int) := by omega
  have q1 : (v : Int) < 18446744073709551616 := by omega
  have d := digits_pos v
  have d2 := nDigits_le v hv
  by_cases h1 : w < 1
  · rw [if_pos (.inl h1)]
    simp only [T_digits_Text, Tr.val_c, Tr.val_r, h1, decide_true, cond_true]
  · by_cases h2 : w > 20
    · rw [if_pos (.inr h2)]
      simp only [T_digits_Text, Tr.val_c, Tr.val_r, h1, h2, decide_true, decide_false, cond_true, cond_false]
    · rw [if_neg (by omega)]
      by_cases h3 : ((Go.Lib.decDigits v).length : Int) > w
      · rw [if_pos (by omega)]
        simp only [T_digits_Text, Tr.val_c, Tr.val_r, h1, h2, q0, q1, Int.toNat_natCast, h3, decide_true, decide_false, cond_true, cond_false]
      · rw [if_neg (by omega)]
        have w1 : IntKind.i64.wrap (w - ((Go.Lib.decDigits v).length : Int)) = w - ((Go.Lib.decDigits v).length : Int) := i64_wrap (by omega) (by omega)
        have q2 : (0 : Int) ≤ w - ((Go.Lib.decDigits v).length : Int) := by omega
        have q3 : w - ((Go.Lib.decDigits v).length : Int) ≤ 1000000000 := by omega
        have q4 : (List.replicate (w - ((Go.Lib.decDigits v).length : Int)).toNat (48 : UInt8)).length + (Go.Lib.decDigits v).length < 70368744177664 := by rw [List.length_replicate]; omega
        simp only [T_digits_Text, Tr.val_c, Tr.val_r, h1, h2, q0, q1, Int.toNat_natCast, h3, w1, q2, q3, rep48, q4, decide_true, decide_false, cond_true, cond_false]
abbrev tens : List UInt8 := [48, 49, 50, 51, 52, 53, 54, 55, 56, 57]
abbrev sixteens : List UInt8 := [48, 49, 50, 51, 52, 53, 54, 55, 56, 57, 65, 66, 67, 68, 69, 70]
def dig (c : UInt8) : Bool := decide (48 ≤ c.toNat) && decide (c.toNat ≤ 57)
def hexd (c : UInt8) : Bool := dig c || (decide (65 ≤ c.toNat) && decide (c.toNat ≤ 70))
theorem has_tens (c : UInt8) : decide (Go.Lib.indexByte tens c ≥ 0) = dig c :=
  all_bytes (p := fun c => decide (Go.Lib.indexByte tens c ≥ 0) = dig c) (by decide +kernel) c
theorem all_tens (s : List UInt8) (hs : s.length < 9223372036854775807) : g_digits_all_0fhas_ s tens = some (s.all dig) := by
  unfold g_digits_all_0fhas_
  rw [run_inl (s := (0 : Int)) rfl]
  have := run_exit (step := M_digits_all_0fhas_ s tens) (f := fun i => (i : Int)) (p := fun i => dig (s.getD i 0)) (n := s.length) (e := false) (z := true) (fun i hi => by
    simp (disch := omega) [M_digits_all_0fhas_, Tr.val_c, Tr.val_r, hi, i64_wrap, has_tens]
    cases dig _ <;> rfl) (by
    simp [M_digits_all_0fhas_, Tr.val_c, Tr.val_r])
  exact this.trans (by rw [range_all s 0 dig]; cases s.all dig <;> rfl)
def right (s : List UInt8) (lo hi : Int) : Bool := decide (lo ≤ s.length) && decide ((s.length : Int) ≤ hi) && s.all dig
theorem Right_eq (s : List UInt8) (lo hi : Int) (hs : s.length < 9223372036854775807) : g_digits_Right s lo hi = some (right s lo hi) := by
  simp only [g_digits_Right, T_digits_Right, Tr.val_c, val_opt, all_tens s hs, Tr.val_r, right, Option.bind_some, cond_true, ge_iff_le]
  by_cases h1 : lo ≤ s.length <;> by_cases h2 : (s.length : Int) ≤ hi <;> simp [h1, h2]
theorem take_one (s : List UInt8) (i : Nat) (h : i < s.length) : s.take (i + 1) = s.take i ++ [s.getD i 0] := by
  rw [List.take_succ_eq_append_getElem h, getD_lt h]
def pairs : List UInt8 → List (UInt8 × UInt8)
  | a :: b :: r => (a, b) :: pairs r
  | _ => []
theorem pairs_take : ∀ (s : List UInt8) (i : Nat), 2 * i + 1 < s.length → (pairs s).take (i + 1) = (pairs s).take i ++ [(s.getD (2 * i) 0, s.getD (2 * i + 1) 0)]
  | a :: b :: r, 0, _ => by simp [pairs]
  | a :: b :: r, i + 1, h => by
    have := pairs_take r i (by simp at h; omega)
    rw [pairs, List.take_succ_cons, this, List.take_succ_cons]
    rw [show 2 * (i + 1) = 2 * i + 1 + 1 by omega]
    simp
  | [a], i, h => by simp at h
  | [], i, h => by simp at h
theorem pairs_len : ∀ (s : List UInt8), (pairs s).length = s.length / 2
  | a :: b :: r => by simp [pairs, pairs_len r]; omega
  | [a] => by simp [pairs]
  | [] => by simp [pairs]
def numG (v : Int) (c : UInt8) : Int := IntKind.u64.wrap (IntKind.u64.wrap (v * 10) + IntKind.u64.wrap (IntKind.u8.wrap ((c.toNat : Int) - 48)))
def numV (s : List UInt8) : Int := s.foldl numG 0
theorem numV_take (s : List UInt8) (i : Nat) (h : i < s.length) : numV (s.take (i + 1)) = numG (numV (s.take i)) (s.getD i 0) := by
  rw [take_one s i h]; simp [numV]
def numS (s : List UInt8) : Int × Int := if right s 1 18 = true then (numV s, 0) else (0, 5)
theorem Number_eq (s : List UInt8) (hs : s.length < 9223372036854775807) : g_digits_Number s = some (numS s) := by
  unfold g_digits_Number numS
  cases hr : right s 1 18 with
  | false => rw [run_inr (x := (0, 5))]; rfl; simp [T_digits_Number, Tr.val_c, Tr.val_r, val_opt, Right_eq s _ _ hs, hr]
  | true =>
    rw [run_inl (s := (0, 0)) (by simp [T_digits_Number, Tr.val_c, Tr.val_r, val_opt, Right_eq s _ _ hs, hr])]
    have := run_until (step := M_digits_Number s) (f := fun i => (numV (s.take i), (i : Int))) (n := s.length) (x := (numV s, 0)) (fun i hi => by
      simp (disch := omega) [M_digits_Number, Tr.val_c, Tr.val_r, hi, i64_wrap, numV_take s i hi, numG]) (by
      simp [M_digits_Number, Tr.val_c, Tr.val_r])
    rw [if_pos rfl]; simpa [numV] using this
def numN (s : List UInt8) : Nat := s.foldl (fun a c => a * 10 + (c.toNat - 48)) 0
theorem numN_snoc (s : List UInt8) (c : UInt8) : numN (s ++ [c]) = numN s * 10 + (c.toNat - 48) := by simp [numN]
theorem dig_range {c : UInt8} (h : dig c = true) : 48 ≤ c.toNat ∧ c.toNat ≤ 57 := by simpa [dig] using h
theorem numV_N : ∀ (n : Nat) (s : List UInt8), s.length = n → n ≤ 18 → s.all dig = true → numV s = (numN s : Int) ∧ numN s < 10 ^ n
  | 0, s, h, _, _ => by obtain rfl := List.length_eq_zero_iff.1 h; exact ⟨rfl, by decide⟩
  | n + 1, s, h, hn, hd => by
    have e : s = s.take n ++ [s.getD n 0] := by rw [← take_one s n (by omega), ← h, List.take_length]
    generalize ht : s.take n = t at e
    have lt : t.length = n := by rw [← ht, List.length_take]; omega
    generalize s.getD n 0 = c at e
    subst e
    rw [List.all_append] at hd
    have hd' := Bool.and_eq_true_iff.1 hd
    obtain ⟨i1, i2⟩ := numV_N n t lt (by omega) hd'.1
    have r := dig_range (by simpa using hd'.2)
    have p : 10 ^ n ≤ 10 ^ 17 := Nat.pow_le_pow_right (by omega) (by omega)
    have p2 : 10 ^ (n + 1) = 10 ^ n * 10 := Nat.pow_succ 10 n
    constructor
    · have : numV (t ++ [c]) = numG (numV t) c := by simp [numV]
      rw [this, numN_snoc, i1]
      unfold numG
      simp only [u8_mod, u64_mod]
      omega
    · rw [numN_snoc]; omega
theorem numN_decDigits (v : Nat) : numN (Go.Lib.decDigits v) = v ∧ (Go.Lib.decDigits v).all dig = true := by
  induction v using Nat.strongRecOn with
  | _ v ih =>
    have dg : ∀ k : Fin 10, dig (UInt8.ofNat (48 + k.val)) = true ∧ (UInt8.ofNat (48 + k.val)).toNat - 48 = k.val := by decide +kernel
    rw [Go.Lib.decDigits]
    by_cases h : v < 10
    · rw [dif_pos h]
      have := dg ⟨v, h⟩
      simp only [numN, List.foldl_cons, List.foldl_nil, List.all_cons, List.all_nil, this.1, this.2]
      exact ⟨by omega, rfl⟩
    · rw [dif_neg h]
      obtain ⟨i1, i2⟩ := ih (v / 10) (by omega)
      have := dg ⟨v % 10, by omega⟩
      have k : (UInt8.ofNat (48 + v % 10)).toNat - 48 = v % 10 := this.2
      rw [numN_snoc, i1, List.all_append, i2, k]
      exact ⟨by omega, by simpa using this.1⟩
theorem numN_zeros (k : Nat) (s : List UInt8) : numN (List.replicate k 48 ++ s) = numN s := by
  induction k with
  | zero => rfl
  | succ k ih => rw [List.replicate_succ, List.cons_append, numN, List.foldl_cons]; exact ih
theorem text_back (v : Nat) (hv : v < 1000000000000000000) (w : Int) (h1 : 1 ≤ w) (h2 : w ≤ 18) (he : (textS v w).2 = 0) : numS (textS v w).1 = ((v : Int), 0) ∧ ((textS v w).1.length : Int) = w := by
  unfold textS at *
  rw [if_neg (by omega)] at *
  by_cases h : w < (Go.Lib.decDigits v).length
  · rw [if_pos h] at he; cases he
  · rw [if_neg h]
    have l : ((List.replicate (w - ((Go.Lib.decDigits v).length : Int)).toNat (48 : UInt8) ++ Go.Lib.decDigits v).length : Int) = w := by rw [List.length_append, List.length_replicate]; omega
    refine ⟨?_, l⟩
    obtain ⟨i1, i2⟩ := numN_decDigits v
    have ad : (List.replicate (w - ((Go.Lib.decDigits v).length : Int)).toNat (48 : UInt8) ++ Go.Lib.decDigits v).all dig = true := by
      rw [List.all_append, i2, Bool.and_true, List.all_eq_true]
      intro c hc; rw [List.eq_of_mem_replicate hc]; rfl
    have rt : right (List.replicate (w - ((Go.Lib.decDigits v).length : Int)).toNat (48 : UInt8) ++ Go.Lib.decDigits v) 1 18 = true := by
      unfold right
      rw [ad, l, decide_eq_true h1, decide_eq_true h2]; rfl
    show numS (List.replicate (w - ((Go.Lib.decDigits v).length : Int)).toNat (48 : UInt8) ++ Go.Lib.decDigits v) = _
    unfold numS
    rw [if_pos rt]
    have := (numV_N _ _ rfl (by omega) ad).1
    rw [this, numN_zeros, i1]
theorem part_eq (s : List UInt8) (a b : Nat) (ha : a ≤ b) (hb : b ≤ s.length) (hs : s.length < 4294967296) : g_simple_part s (a : Int) (b : Int) = some (IntKind.i64.wrap (numS ((s.take b).drop a)).1) := by
  have q1 : (0 : Int) ≤ (b : Int) := by omega
  have q2 : (b : Int) ≤ (s.length : Int) := by omega
  have q3 : (0 : Int) ≤ (a : Int) := by omega
  have q4 : (a : Int) ≤ (b : Int) := by omega
  have l : ((s.take b).drop a).length < 9223372036854775807 := by simp only [List.length_drop, List.length_take]; omega
  simp only [g_simple_part, T_simple_part, Tr.val_c, Tr.val_r, val_opt, q1, q2, q3, q4, Int.toNat_natCast, Number_eq _ l, Option.bind_some, decide_true, cond_true]
abbrev t2026 : List UInt8 := [50, 48, 50, 54, 48, 49, 48, 49, 49, 50, 48, 48, 48, 48]
theorem Time_2026 : g_simple_Time t2026 = some true := by
  have r : g_digits_Right t2026 14 14 = some true := (Right_eq t2026 14 14 (by decide)).trans (by kernel_rfl)
  have p1 : g_simple_part t2026 0 4 = some 2026 := (part_eq t2026 0 4 (by decide) (by decide) (by decide)).trans (by kernel_rfl)
  have p2 : g_simple_part t2026 4 6 = some 1 := (part_eq t2026 4 6 (by decide) (by decide) (by decide)).trans (by kernel_rfl)
  have p3 : g_simple_part t2026 6 8 = some 1 := (part_eq t2026 6 8 (by decide) (by decide) (by decide)).trans (by kernel_rfl)
  have p4 : g_simple_part t2026 8 10 = some 12 := (part_eq t2026 8 10 (by decide) (by decide) (by decide)).trans (by kernel_rfl)
  have p5 : g_simple_part t2026 10 12 = some 0 := (part_eq t2026 10 12 (by decide) (by decide) (by decide)).trans (by kernel_rfl)
  have p6 : g_simple_part t2026 12 14 = some 0 := (part_eq t2026 12 14 (by decide) (by decide) (by decide)).trans (by kernel_rfl)
  have d : g_simple_days 2026 1 = some 31 := by kernel_rfl
  unfold g_simple_Time T_simple_Time
  rw [r, p1, p2, p3, p4, p5, p6]
  simp only [val_opt, Option.bind_some, Tr.val_c, Tr.val_r, d]
  rfl
theorem TimeText_2026 : g_simple_TimeText t2026 = some ([50, 48, 50, 54, 45, 48, 49, 45, 48, 49, 84, 49, 50, 58, 48, 48, 58, 48, 48], 0) := by
  unfold g_simple_TimeText T_simple_TimeText
  rw [Time_2026]
  kernel_rfl
theorem awake10 : g_comptoirlaw10_awake = some true := by
  unfold g_comptoirlaw10_awake T_comptoirlaw10_awake
  rw [TimeText_2026]
  kernel_rfl
theorem trim_zeros : ∀ l : List UInt8, ∃ k, l = List.replicate k 48 ++ Go.Lib.trimLeftS l [48] ∧ (Go.Lib.trimLeftS l [48] = [] ∨ ∃ c t, Go.Lib.trimLeftS l [48] = c :: t ∧ c ≠ 48)
  | [] => ⟨0, rfl, .inl rfl⟩
  | b :: l => by
    obtain ⟨k, e, h⟩ := trim_zeros l
    by_cases hb : b = 48
    · subst hb
      have r : Go.Lib.trimLeftS (48 :: l) [48] = Go.Lib.trimLeftS l [48] := by simp [Go.Lib.trimLeftS, List.dropWhile_cons]
      rw [r]
      exact ⟨k + 1, by rw [List.replicate_succ, List.cons_append, ← e], h⟩
    · have r : Go.Lib.trimLeftS (b :: l) [48] = b :: l := by simp [Go.Lib.trimLeftS, List.dropWhile_cons, hb]
      rw [r]
      exact ⟨0, rfl, .inr ⟨b, l, rfl, hb⟩⟩
def pad18 (v : Nat) : List UInt8 := List.replicate (18 - (Go.Lib.decDigits v).length) 48 ++ Go.Lib.decDigits v
def amtS (v : Nat) : List UInt8 :=
  if (Go.Lib.trimLeftS ((pad18 v).take 16) [48] ++ [46] ++ (pad18 v).drop 16).getD 0 0 = 46 then [48] ++ (Go.Lib.trimLeftS ((pad18 v).take 16) [48] ++ [46] ++ (pad18 v).drop 16)
  else Go.Lib.trimLeftS ((pad18 v).take 16) [48] ++ [46] ++ (pad18 v).drop 16
structure Amt (v : Nat) (s x y : List UInt8) : Prop where
  eq : s = x ++ 46 :: y
  len : y.length = 2
  low : 1 ≤ x.length
  top : x.length ≤ 16
  dx : x.all dig = true
  dy : y.all dig = true
  num : numN (x ++ y) = v
  head : x = [48] ∨ ∃ c t, x = c :: t ∧ c ≠ 48
theorem decDigits_le : ∀ (n v : Nat), v < 10 ^ (n + 1) → (Go.Lib.decDigits v).length ≤ n + 1
  | 0, v, h => by rw [Go.Lib.decDigits, dif_pos (by omega)]; exact Nat.le_refl _
  | n + 1, v, h => by
    rw [Go.Lib.decDigits]
    by_cases h10 : v < 10
    · rw [dif_pos h10]; simp
    · rw [dif_neg h10, List.length_append, List.length_singleton]
      have := decDigits_le n (v / 10) (by rw [Nat.pow_succ] at h; omega)
      omega
theorem decDigits_18 {v : Nat} (hv : v ≤ 999999999999) : (Go.Lib.decDigits v).length ≤ 18 := decDigits_le 17 v (by omega)
theorem pad18_len {v : Nat} (hv : v ≤ 999999999999) : (pad18 v).length = 18 := by
  have := decDigits_18 hv
  simp only [pad18, List.length_append, List.length_replicate]; omega
theorem pad18_dig (v : Nat) : (pad18 v).all dig = true := by
  unfold pad18
  rw [List.all_append, (numN_decDigits v).2, Bool.and_true, List.all_eq_true]
  intro c hc; rw [List.eq_of_mem_replicate hc]; rfl
theorem pad18_num (v : Nat) : numN (pad18 v) = v := by rw [pad18, numN_zeros, (numN_decDigits v).1]
theorem amt_ok {v : Nat} (hv : v ≤ 999999999999) : ∃ x y, Amt v (amtS v) x y := by
  obtain ⟨k, e, h⟩ := trim_zeros ((pad18 v).take 16)
  have lp := pad18_len hv
  have dp := pad18_dig v
  have np := pad18_num v
  generalize ht : Go.Lib.trimLeftS ((pad18 v).take 16) [48] = t at e h
  have ep : pad18 v = List.replicate k 48 ++ (t ++ (pad18 v).drop 16) := by
    rw [← List.append_assoc, ← e, List.take_append_drop]
  have ly : ((pad18 v).drop 16).length = 2 := by rw [List.length_drop, lp]
  have hs : amtS v = if (t ++ [46] ++ (pad18 v).drop 16).getD 0 0 = 46 then [48] ++ (t ++ [46] ++ (pad18 v).drop 16) else t ++ [46] ++ (pad18 v).drop 16 := by unfold amtS; rw [ht]
  generalize hy : (pad18 v).drop 16 = y at ep ly hs
  rw [ep] at lp dp np
  have lt : k + t.length = 16 := by simp only [List.length_append, List.length_replicate] at lp; omega
  rw [List.all_append, List.all_append] at dp
  obtain ⟨-, dp⟩ := Bool.and_eq_true_iff.1 dp
  obtain ⟨dt, dy⟩ := Bool.and_eq_true_iff.1 dp
  rw [numN_zeros] at np
  rcases h with rfl | ⟨c, t', rfl, hc⟩
  · refine ⟨[48], y, ?_, ly, Nat.le_refl 1, by decide, rfl, dy, ?_, .inl rfl⟩
    · rw [hs]; rfl
    · exact (numN_zeros 1 y).trans np
  · refine ⟨c :: t', y, ?_, ly, by simp, by omega, dt, dy, np, .inr ⟨c, t', rfl, hc⟩⟩
    have : c ≠ 46 := by
      intro h; subst h
      rw [List.all_cons] at dt
      exact absurd (Bool.and_eq_true_iff.1 dt).1 (by decide)
    rw [hs, if_neg (by simpa using this)]
    simp
theorem AmountText_eq (v : Nat) (hv : v < 18446744073709551616) : g_simple_AmountText (v : Int) = some (if v ≤ 999999999999 then (amtS v, 0) else ([], 4)) := by
  unfold g_simple_AmountText
  by_cases h : v ≤ 999999999999
  · rw [if_pos h]
    have h' : ¬ (v : Int) > 999999999999 := by omega
    have l18 := decDigits_18 h
    have lp := pad18_len h
    have T : g_digits_Text (v : Int) 18 = some (pad18 v, 0) := by
      rw [Text_eq v hv]
      unfold textS
      rw [if_neg (by omega), if_neg (by omega)]
      unfold pad18
      congr 4
      omega
    obtain ⟨x, y, A⟩ := amt_ok h
    have ls : (amtS v).length = x.length + 1 + 2 := by rw [A.eq, List.length_append, List.length_cons, A.len]
    have lx := A.top
    have e18 : (pad18 v).take 18 = pad18 v := List.take_of_length_le (by omega)
    have lt : (Go.Lib.trimLeftS ((pad18 v).take 16) [48]).length ≤ 16 := by
      refine Nat.le_trans (trimLeftS_le _ _) ?_
      rw [List.length_take]; omega
    have q1 : (16 : Int) ≤ ((18 : Nat) : Int) := by decide
    have q2 : (Go.Lib.trimLeftS ((pad18 v).take 16) [48]).length + 1 < 70368744177664 := by omega
    have q3 : ((18 : Nat) : Int) ≤ ((18 : Nat) : Int) := by omega
    have q4 : (Go.Lib.trimLeftS ((pad18 v).take 16) [48] ++ [46]).length + ((pad18 v).drop 16).length < 70368744177664 := by simp only [List.length_append, List.length_drop, List.length_singleton]; omega
    have ln : (Go.Lib.trimLeftS ((pad18 v).take 16) [48] ++ [46] ++ (pad18 v).drop 16).length = (Go.Lib.trimLeftS ((pad18 v).take 16) [48]).length + 3 := by simp only [List.length_append, List.length_drop, List.length_singleton]; omega
    have q5 : (0 : Int) < ((Go.Lib.trimLeftS ((pad18 v).take 16) [48] ++ [46] ++ (pad18 v).drop 16).length : Int) := by omega
    have q6 : 1 + (Go.Lib.trimLeftS ((pad18 v).take 16) [48] ++ [46] ++ (pad18 v).drop 16).length < 70368744177664 := by omega
    have t16 : Int.toNat 16 = 16 := rfl
    simp only [T_simple_AmountText, Tr.val_c, Tr.val_r, val_opt, h', T, Option.bind_some, lp, q1, t16, List.drop_zero, q2, q3, e18, q4, q5, q6, decide_true, decide_false, cond_true, cond_false]
    by_cases h46 : (Go.Lib.trimLeftS ((pad18 v).take 16) [48] ++ [46] ++ (pad18 v).drop 16).getD 0 0 = 46
    · have b : ((((Go.Lib.trimLeftS ((pad18 v).take 16) [48] ++ [46] ++ (pad18 v).drop 16).getD 0 0).toNat : Int) == 46) = true := by rw [h46]; rfl
      rw [b, cond_true]
      unfold amtS
      rw [if_pos h46]
    · have b : ((((Go.Lib.trimLeftS ((pad18 v).take 16) [48] ++ [46] ++ (pad18 v).drop 16).getD 0 0).toNat : Int) == 46) = false := by
        rw [beq_eq_false_iff_ne]
        intro e
        exact h46 (UInt8.toNat_inj.1 (by rw [show (46 : UInt8).toNat = 46 from rfl]; omega))
      rw [b, cond_false]
      unfold amtS
      rw [if_neg h46]
  · rw [if_neg h]
    have h' : (v : Int) > 999999999999 := by omega
    simp only [T_simple_AmountText, Tr.val_c, Tr.val_r, h', decide_true, cond_true]
def amtOf (s : List UInt8) : Int × Int :=
  if right (s.erase 46) 1 18 = true ∧ numN (s.erase 46) ≤ 999999999999 ∧ amtS (numN (s.erase 46)) = s then ((numN (s.erase 46) : Int), 0) else (0, 14)
theorem right_num {w : List UInt8} (h : right w 1 18 = true) : numV w = (numN w : Int) ∧ numN w < 10 ^ 18 := by
  unfold right at h
  obtain ⟨h1, h2⟩ := Bool.and_eq_true_iff.1 h
  obtain ⟨h3, h4⟩ := Bool.and_eq_true_iff.1 h1
  have h4 := of_decide_eq_true h4
  obtain ⟨a, b⟩ := numV_N w.length w rfl (by omega) h2
  exact ⟨a, Nat.lt_of_lt_of_le b (Nat.pow_le_pow_right (by omega) (by omega))⟩
theorem AmountOf_eq (s : List UInt8) (hs : s.length < 4294967281) : g_simple_AmountOf s = some (amtOf s) := by
  have lw : (s.erase 46).length ≤ s.length := by rw [List.length_erase]; split <;> omega
  have N := Number_eq (s.erase 46) (by omega)
  unfold g_simple_AmountOf amtOf
  by_cases hr : right (s.erase 46) 1 18 = true
  · obtain ⟨n1, n2⟩ := right_num hr
    have Ns : numS (s.erase 46) = ((numN (s.erase 46) : Int), 0) := by unfold numS; rw [if_pos hr, n1]
    rw [Ns] at N
    have A := AmountText_eq (numN (s.erase 46)) (Nat.lt_trans n2 (by decide))
    by_cases hm : numN (s.erase 46) ≤ 999999999999
    · rw [if_pos hm] at A
      by_cases he : amtS (numN (s.erase 46)) = s
      · rw [if_pos ⟨hr, hm, he⟩]
        simp only [T_simple_AmountOf, g_simple_back_00fAmountOf1_, T_simple_back_00fAmountOf1_, g_simple_AmountOf_1, T_simple_AmountOf_1, g_simple_cents_text, T_simple_cents_text, Tr.val_c, Tr.val_r, val_opt, hs, N, A, he, Option.bind_some, decide_true, cond_true, bne_self_eq_false, cond_false, beq_self_eq_true, Bool.not_true]
      · rw [if_neg (fun h => he h.2.2)]
        have b : (amtS (numN (s.erase 46)) == s) = false := by simpa using he
        have b2 : ((14 : Int) != 0) = true := by decide
        simp only [T_simple_AmountOf, g_simple_back_00fAmountOf1_, T_simple_back_00fAmountOf1_, g_simple_AmountOf_1, T_simple_AmountOf_1, g_simple_cents_text, T_simple_cents_text, Tr.val_c, Tr.val_r, val_opt, hs, N, A, b, b2, Option.bind_some, decide_true, cond_true, bne_self_eq_false, cond_false, Bool.not_false]
    · rw [if_neg hm] at A
      rw [if_neg (fun h => hm h.2.1)]
      have b2 : ((14 : Int) != 0) = true := by decide
      have b3 : ((4 : Int) != 0) = true := by decide
      simp only [T_simple_AmountOf, g_simple_back_00fAmountOf1_, T_simple_back_00fAmountOf1_, g_simple_AmountOf_1, T_simple_AmountOf_1, g_simple_cents_text, T_simple_cents_text, Tr.val_c, Tr.val_r, val_opt, hs, N, A, b2, b3, Option.bind_some, decide_true, cond_true, bne_self_eq_false, cond_false]
  · have Ns : numS (s.erase 46) = (0, 5) := by unfold numS; rw [if_neg hr]
    rw [Ns] at N
    rw [if_neg (fun h => hr h.1)]
    have b2 : ((14 : Int) != 0) = true := by decide
    have b3 : ((5 : Int) != 0) = true := by decide
    simp only [T_simple_AmountOf, g_simple_back_00fAmountOf1_, T_simple_back_00fAmountOf1_, g_simple_AmountOf_1, T_simple_AmountOf_1, g_simple_cents_text, T_simple_cents_text, Tr.val_c, Tr.val_r, val_opt, hs, N, b2, b3, Option.bind_some, decide_true, cond_true, cond_false]
theorem no46 {x : List UInt8} (h : x.all dig = true) : (46 : UInt8) ∉ x := fun hm => absurd (List.all_eq_true.1 h _ hm) (by decide)
theorem Amt.erase {v : Nat} {s x y : List UInt8} (A : Amt v s x y) : s.erase 46 = x ++ y := by
  rw [A.eq, List.erase_append_right _ (no46 A.dx)]
  simp
theorem amtOf_back {v : Nat} (hv : v ≤ 999999999999) : amtOf (amtS v) = ((v : Int), 0) := by
  obtain ⟨x, y, A⟩ := amt_ok hv
  unfold amtOf
  have h1 := A.low; have h2 := A.top; have h3 := A.len
  have r : right (x ++ y) 1 18 = true := by
    unfold right
    rw [List.all_append, A.dx, A.dy, List.length_append, h3, decide_eq_true (by omega), decide_eq_true (by omega)]
    rfl
  rw [A.erase, A.num, if_pos ⟨r, hv, rfl⟩]
theorem amtOf_not {s : List UInt8} (h : ∀ n x y, Amt n s x y → False) : amtOf s = (0, 14) := by
  unfold amtOf
  rw [if_neg]
  rintro ⟨-, h2, h3⟩
  obtain ⟨x, y, A⟩ := amt_ok h2
  rw [h3] at A
  exact h _ x y A
theorem amt_lead {v n : Nat} {s x y x' y' : List UInt8} (A : Amt v s x y) (B : Amt n ([48] ++ s) x' y') : False := by
  have e := B.eq
  rw [A.eq] at e
  have l : (x'.length : Nat) = x.length + 1 := by
    have := congrArg List.length e
    simp only [List.length_append, List.length_cons, List.length_nil, A.len, B.len] at this
    omega
  have hx := A.low
  match x', B.head with
  | _, .inl rfl => simp only [List.length_singleton] at l; omega
  | _, .inr ⟨c, t, rfl, hc⟩ =>
    simp only [List.cons_append, List.nil_append, List.cons.injEq] at e
    exact hc e.1.symm
theorem amt_behind {v n : Nat} {s x y x' y' : List UInt8} (A : Amt v s x y) (B : Amt n (s ++ [48]) x' y') : False := by
  have e := B.eq
  rw [A.eq] at e
  have l : x'.length = x.length + 1 := by
    have := congrArg List.length e
    simp only [List.length_append, List.length_cons, List.length_nil, A.len, B.len] at this
    omega
  have g := congrArg (fun z : List UInt8 => z.getD (x.length + 1) 0) e
  obtain ⟨y0, y1, rfl⟩ : ∃ a b, y = [a, b] := by
    match y, A.len with
    | [a, b], _ => exact ⟨a, b, rfl⟩
  have e1 : (x ++ 46 :: [y0, y1] ++ [48]).getD (x.length + 1) 0 = y0 := by
    rw [List.append_assoc]
    simp [List.getD_eq_getElem?_getD]
  have e2 : (x' ++ 46 :: y').getD (x.length + 1) 0 = 46 := by
    rw [← l]
    simp [List.getD_eq_getElem?_getD]
  have g' : y0 = 46 := e1.symm.trans (g.trans e2)
  exact no46 A.dy (by simp [g'])
theorem amt_minus {n : Nat} {s x' y' : List UInt8} (B : Amt n ([45] ++ s) x' y') : False := by
  have e := B.eq
  have d := B.dx
  match x', B.low with
  | c :: t, _ =>
    simp only [List.cons_append, List.nil_append, List.cons.injEq] at e
    rw [List.all_cons, ← e.1] at d
    exact absurd (Bool.and_eq_true_iff.1 d).1 (by decide)
theorem amt_dot {n : Nat} {s x' y' : List UInt8} (h : s.all dig = true) (B : Amt n s x' y') : False :=
  no46 h (by rw [B.eq]; simp)
theorem samounts_eq (v : Nat) (hv : v < 18446744073709551616) : g_comptoirlaw10_SimpleAmounts (v : Int) = some true := by
  have T := AmountText_eq v hv
  unfold g_comptoirlaw10_SimpleAmounts
  by_cases h : v ≤ 999999999999
  · rw [if_pos h] at T
    have h' : ¬ (v : Int) > 999999999999 := by omega
    obtain ⟨x, y, A⟩ := amt_ok h
    have ls : (amtS v).length = x.length + 3 := by rw [A.eq, List.length_append, List.length_cons, A.len]
    have lx := A.top
    have ld := decDigits_18 h
    have a1 := AmountOf_eq (amtS v) (by omega)
    rw [amtOf_back h] at a1
    have a2 := AmountOf_eq ([48] ++ amtS v) (by simp only [List.length_append, List.length_singleton]; omega)
    rw [amtOf_not fun n x' y' B => amt_lead A B] at a2
    have a3 := AmountOf_eq (amtS v ++ [48]) (by simp only [List.length_append, List.length_singleton]; omega)
    rw [amtOf_not fun n x' y' B => amt_behind A B] at a3
    have a4 := AmountOf_eq ([45] ++ amtS v) (by simp only [List.length_append, List.length_singleton]; omega)
    rw [amtOf_not fun n x' y' B => amt_minus B] at a4
    have a5 := AmountOf_eq (Go.Lib.decDigits v) (by omega)
    rw [amtOf_not fun n x' y' B => amt_dot (numN_decDigits v).2 B] at a5
    have q1 : 1 + (amtS v).length < 70368744177664 := by omega
    have q2 : (amtS v).length + 1 < 70368744177664 := by omega
    have q3 : (0 : Int) ≤ (v : Int) := by omega
    have q4 : (v : Int) < 18446744073709551616 := by omega
    simp only [T_comptoirlaw10_SimpleAmounts, Tr.val_c, Tr.val_r, val_opt, T, h', a1, a2, a3, a4, a5, q1, q2, q3, q4, awake10, Int.toNat_natCast, Option.bind_some, decide_true, decide_false, beq_self_eq_true, cond_true, cond_false]
  · rw [if_neg h] at T
    have h' : (v : Int) > 999999999999 := by omega
    simp only [T_comptoirlaw10_SimpleAmounts, Tr.val_c, Tr.val_r, val_opt, T, h', awake10, Option.bind_some, decide_true, beq_self_eq_true, cond_true]
end Go.Proofs.YtcnalhganahiiaaGreatDoor
