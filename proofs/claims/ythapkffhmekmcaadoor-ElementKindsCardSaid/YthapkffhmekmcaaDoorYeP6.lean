/- What the printed functions come to, plainly. -/
import Derived.Test.YthapkffhmekmcaaDoorYeG6
import Derived.Test.YthapkffhmekmcaaDoorCxAm
namespace Go.Proofs.YthapkffhmekmcaaDoor
open Go.Cx Go.Cx.AV
set_option linter.unusedSimpArgs false
set_option linter.unusedVariables false

/- numbers as digits -/
theorem digits_pos (v : Nat) : 1 ≤ (Go.Lib.decDigits v).length := by
  rw [Go.Lib.decDigits]; split <;> simp
theorem rep48 (k : Nat) : Go.Lib.repeatL [48] k = List.replicate k 48 := by
  induction k with
  | zero => rfl
  | succ k ih => rw [Go.Lib.repeatL, ih, List.replicate_succ]; rfl
/-- A number in so many digits. -/
def textS (v : Nat) (w : Int) : List UInt8 × Int :=
  if w < 1 ∨ 20 < w then ([], 1) else if w < (Go.Lib.decDigits v).length then ([], 4) else (List.replicate (w - (Go.Lib.decDigits v).length).toNat 48 ++ Go.Lib.decDigits v, 0)
theorem Text_eq (v : Nat) (hv : v < 18446744073709551616) (w : Int) : g_digits_Text (v : Int) w = some (textS v w) := by
  unfold g_digits_Text textS
  have q0 : (0 : Int) ≤ (v : Int) := by omega
  have q1 : (v : Int) < 18446744073709551616 := by omega
  have d := digits_pos v
  have d2 := nDigits_le v hv
  by_cases h1 : w < 1
  · rw [if_pos (.inl h1)]
    simp only [T_digits_Text, Tr.val_c, Tr.val_r, h1, decide_true, cond_true]
  · by_cases h2 : w > 20
    · rw [if_pos (.inr h2)]
      simp only [T_digits_Text, Tr.val_c, Tr.val_r, h1, h2, decide_true, decide_false, cond_true, cond_false]
    · rw [if_neg (by omega)]
      by_cases h3 : ((Go.Lib.decDigits v).length : Int) > w
      · rw [if_pos (by omega)]
        simp only [T_digits_Text, Tr.val_c, Tr.val_r, h1, h2, q0, q1, Int.toNat_natCast, h3, decide_true, decide_false, cond_true, cond_false]
      · rw [if_neg (by omega)]
        have w1 : IntKind.i64.wrap (w - ((Go.Lib.decDigits v).length : Int)) = w - ((Go.Lib.decDigits v).length : Int) := i64_wrap (by omega) (by omega)
        have q2 : (0 : Int) ≤ w - ((Go.Lib.decDigits v).length : Int) := by omega
        have q3 : w - ((Go.Lib.decDigits v).length : Int) ≤ 1000000000 := by omega
        have q4 : (List.replicate (w - ((Go.Lib.decDigits v).length : Int)).toNat (48 : UInt8)).length + (Go.Lib.decDigits v).length < 70368744177664 := by rw [List.length_replicate]; omega
        simp only [T_digits_Text, Tr.val_c, Tr.val_r, h1, h2, q0, q1, Int.toNat_natCast, h3, w1, q2, q3, rep48, q4, decide_true, decide_false, cond_true, cond_false]

/- signs -/
abbrev tens : List UInt8 := [48, 49, 50, 51, 52, 53, 54, 55, 56, 57]
abbrev sixteens : List UInt8 := [48, 49, 50, 51, 52, 53, 54, 55, 56, 57, 65, 66, 67, 68, 69, 70]
def dig (c : UInt8) : Bool := decide (48 ≤ c.toNat) && decide (c.toNat ≤ 57)
def hexd (c : UInt8) : Bool := dig c || (decide (65 ≤ c.toNat) && decide (c.toNat ≤ 70))
theorem has_tens (c : UInt8) : decide (Go.Lib.indexByte tens c ≥ 0) = dig c :=
  all_bytes (p := fun c => decide (Go.Lib.indexByte tens c ≥ 0) = dig c) (by decide +kernel) c
theorem all_tens (s : List UInt8) (hs : s.length < 9223372036854775807) : g_digits_all_0fhas_ s tens = some (s.all dig) := by
  unfold g_digits_all_0fhas_
  rw [run_inl (s := (0 : Int)) rfl]
  have := run_exit (step := M_digits_all_0fhas_ s tens) (f := fun i => (i : Int)) (p := fun i => dig (s.getD i 0)) (n := s.length) (e := false) (z := true) (fun i hi => by
    simp (disch := omega) [M_digits_all_0fhas_, Tr.val_c, Tr.val_r, hi, i64_wrap, has_tens]
    cases dig _ <;> rfl) (by
    simp [M_digits_all_0fhas_, Tr.val_c, Tr.val_r])
  exact this.trans (by rw [range_all s 0 dig]; cases s.all dig <;> rfl)
def right (s : List UInt8) (lo hi : Int) : Bool := decide (lo ≤ s.length) && decide ((s.length : Int) ≤ hi) && s.all dig
theorem Right_eq (s : List UInt8) (lo hi : Int) (hs : s.length < 9223372036854775807) : g_digits_Right s lo hi = some (right s lo hi) := by
  simp only [g_digits_Right, T_digits_Right, Tr.val_c, val_opt, all_tens s hs, Tr.val_r, right, Option.bind_some, cond_true, ge_iff_le]
  by_cases h1 : lo ≤ s.length <;> by_cases h2 : (s.length : Int) ≤ hi <;> simp [h1, h2]
/- lists by their heads -/
theorem take_one (s : List UInt8) (i : Nat) (h : i < s.length) : s.take (i + 1) = s.take i ++ [s.getD i 0] := by
  rw [List.take_succ_eq_append_getElem h, getD_lt h]
def pairs : List UInt8 → List (UInt8 × UInt8)
  | a :: b :: r => (a, b) :: pairs r
  | _ => []
theorem pairs_take : ∀ (s : List UInt8) (i : Nat), 2 * i + 1 < s.length → (pairs s).take (i + 1) = (pairs s).take i ++ [(s.getD (2 * i) 0, s.getD (2 * i + 1) 0)]
  | a :: b :: r, 0, _ => by simp [pairs]
  | a :: b :: r, i + 1, h => by
    have := pairs_take r i (by simp at h; omega)
    rw [pairs, List.take_succ_cons, this, List.take_succ_cons]
    rw [show 2 * (i + 1) = 2 * i + 1 + 1 by omega]
    simp
  | [a], i, h => by simp at h
  | [], i, h => by simp at h
theorem pairs_len : ∀ (s : List UInt8), (pairs s).length = s.length / 2
  | a :: b :: r => by simp [pairs, pairs_len r]; omega
  | [a] => by simp [pairs]
  | [] => by simp [pairs]

/- the number of digits -/
def numG (v : Int) (c : UInt8) : Int := IntKind.u64.wrap (IntKind.u64.wrap (v * 10) + IntKind.u64.wrap (IntKind.u8.wrap ((c.toNat : Int) - 48)))
def numV (s : List UInt8) : Int := s.foldl numG 0
theorem numV_take (s : List UInt8) (i : Nat) (h : i < s.length) : numV (s.take (i + 1)) = numG (numV (s.take i)) (s.getD i 0) := by
  rw [take_one s i h]; simp [numV]
def numS (s : List UInt8) : Int × Int := if right s 1 18 = true then (numV s, 0) else (0, 5)
theorem Number_eq (s : List UInt8) (hs : s.length < 9223372036854775807) : g_digits_Number s = some (numS s) := by
  unfold g_digits_Number numS
  cases hr : right s 1 18 with
  | false => rw [run_inr (x := (0, 5))]; rfl; simp [T_digits_Number, Tr.val_c, Tr.val_r, val_opt, Right_eq s _ _ hs, hr]
  | true =>
    rw [run_inl (s := (0, 0)) (by simp [T_digits_Number, Tr.val_c, Tr.val_r, val_opt, Right_eq s _ _ hs, hr])]
    have := run_until (step := M_digits_Number s) (f := fun i => (numV (s.take i), (i : Int))) (n := s.length) (x := (numV s, 0)) (fun i hi => by
      simp (disch := omega) [M_digits_Number, Tr.val_c, Tr.val_r, hi, i64_wrap, numV_take s i hi, numG]) (by
      simp [M_digits_Number, Tr.val_c, Tr.val_r])
    rw [if_pos rfl]; simpa [numV] using this

/- what is told is read -/
def numN (s : List UInt8) : Nat := s.foldl (fun a c => a * 10 + (c.toNat - 48)) 0
theorem numN_snoc (s : List UInt8) (c : UInt8) : numN (s ++ [c]) = numN s * 10 + (c.toNat - 48) := by simp [numN]
theorem dig_range {c : UInt8} (h : dig c = true) : 48 ≤ c.toNat ∧ c.toNat ≤ 57 := by simpa [dig] using h
theorem numV_N : ∀ (n : Nat) (s : List UInt8), s.length = n → n ≤ 18 → s.all dig = true → numV s = (numN s : Int) ∧ numN s < 10 ^ n
  | 0, s, h, _, _ => by obtain rfl := List.length_eq_zero_iff.1 h; exact ⟨rfl, by decide⟩
  | n + 1, s, h, hn, hd => by
    have e : s = s.take n ++ [s.getD n 0] := by rw [← take_one s n (by omega), ← h, List.take_length]
    generalize ht : s.take n = t at e
    have lt : t.length = n := by rw [← ht, List.length_take]; omega
    generalize s.getD n 0 = c at e
    subst e
    rw [List.all_append] at hd
    have hd' := Bool.and_eq_true_iff.1 hd
    obtain ⟨i1, i2⟩ := numV_N n t lt (by omega) hd'.1
    have r := dig_range (by simpa using hd'.2)
    have p : 10 ^ n ≤ 10 ^ 17 := Nat.pow_le_pow_right (by omega) (by omega)
    have p2 : 10 ^ (n + 1) = 10 ^ n * 10 := Nat.pow_succ 10 n
    constructor
    · have : numV (t ++ [c]) = numG (numV t) c := by simp [numV]
      rw [this, numN_snoc, i1]
      unfold numG
      simp only [u8_mod, u64_mod]
      omega
    · rw [numN_snoc]; omega
theorem numN_decDigits (v : Nat) : numN (Go.Lib.decDigits v) = v ∧ (Go.Lib.decDigits v).all dig = true := by
  induction v using Nat.strongRecOn with
  | _ v ih =>
    have dg : ∀ k : Fin 10, dig (UInt8.ofNat (48 + k.val)) = true ∧ (UInt8.ofNat (48 + k.val)).toNat - 48 = k.val := by decide +kernel
    rw [Go.Lib.decDigits]
    by_cases h : v < 10
    · rw [dif_pos h]
      have := dg ⟨v, h⟩
      simp only [numN, List.foldl_cons, List.foldl_nil, List.all_cons, List.all_nil, this.1, this.2]
      exact ⟨by omega, rfl⟩
    · rw [dif_neg h]
      obtain ⟨i1, i2⟩ := ih (v / 10) (by omega)
      have := dg ⟨v % 10, by omega⟩
      have k : (UInt8.ofNat (48 + v % 10)).toNat - 48 = v % 10 := this.2
      rw [numN_snoc, i1, List.all_append, i2, k]
      exact ⟨by omega, by simpa using this.1⟩
theorem numN_zeros (k : Nat) (s : List UInt8) : numN (List.replicate k 48 ++ s) = numN s := by
  induction k with
  | zero => rfl
  | succ k ih => rw [List.replicate_succ, List.cons_append, numN, List.foldl_cons]; exact ih
theorem text_back (v : Nat) (hv : v < 1000000000000000000) (w : Int) (h1 : 1 ≤ w) (h2 : w ≤ 18) (he : (textS v w).2 = 0) : numS (textS v w).1 = ((v : Int), 0) ∧ ((textS v w).1.length : Int) = w := by
  unfold textS at *
  rw [if_neg (by omega)] at *
  by_cases h : w < (Go.Lib.decDigits v).length
  · rw [if_pos h] at he; cases he
  · rw [if_neg h]
    have l : ((List.replicate (w - ((Go.Lib.decDigits v).length : Int)).toNat (48 : UInt8) ++ Go.Lib.decDigits v).length : Int) = w := by rw [List.length_append, List.length_replicate]; omega
    refine ⟨?_, l⟩
    obtain ⟨i1, i2⟩ := numN_decDigits v
    have ad : (List.replicate (w - ((Go.Lib.decDigits v).length : Int)).toNat (48 : UInt8) ++ Go.Lib.decDigits v).all dig = true := by
      rw [List.all_append, i2, Bool.and_true, List.all_eq_true]
      intro c hc; rw [List.eq_of_mem_replicate hc]; rfl
    have rt : right (List.replicate (w - ((Go.Lib.decDigits v).length : Int)).toNat (48 : UInt8) ++ Go.Lib.decDigits v) 1 18 = true := by
      unfold right
      rw [ad, l, decide_eq_true h1, decide_eq_true h2]; rfl
    show numS (List.replicate (w - ((Go.Lib.decDigits v).length : Int)).toNat (48 : UInt8) ++ Go.Lib.decDigits v) = _
    unfold numS
    rw [if_pos rt]
    have := (numV_N _ _ rfl (by omega) ad).1
    rw [this, numN_zeros, i1]

/- the table of formats -/
def fmtsL : List (Int × Int × Int × Int) := [(2, 1, 2, 19), (4, 1, 0, 12), (11, 1, 0, 6), (12, 1, 0, 14), (22, 1, 0, 3), (25, 1, 0, 4), (32, 1, 2, 11), (37, 2, 0, 12), (38, 2, 0, 6), (39, 1, 0, 3), (41, 3, 0, 8), (42, 3, 0, 15), (43, 3, 2, 40), (48, 3, 3, 8), (49, 1, 0, 3), (55, 4, 3, 255), (56, 1, 0, 20), (60, 3, 3, 100), (61, 3, 3, 100), (62, 3, 3, 100), (63, 3, 3, 100), (102, 3, 2, 28), (103, 3, 2, 28), (120, 4, 4, 999)]
def fmtF (no : Int) : Int × Int × Int × Int × Bool := match fmtsL.find? (fun x => x.1 == no) with
  | some x => (x.1, x.2.1, x.2.2.1, x.2.2.2, true)
  | none => (0, 0, 0, 0, false)
abbrev numsL : List Int := [2, 4, 11, 12, 22, 25, 32, 37, 38, 39, 41, 42, 43, 48, 49, 55, 56, 60, 61, 62, 63, 102, 103, 120]
theorem fmtF_none {no : Int} (h : no ∉ numsL) : fmtF no = (0, 0, 0, 0, false) := by
  have : fmtsL.find? (fun x => x.1 == no) = none := by
    rw [List.find?_eq_none]
    intro x hx
    have : x.1 ∈ numsL := (show ∀ x ∈ fmtsL, x.1 ∈ numsL by decide) x hx
    intro e
    exact h (by rwa [← beq_iff_eq.1 e])
  rw [fmtF, this]
theorem Of_eq (no : Int) : g_element_Of no = some (fmtF no) := by
  by_cases h : no ∈ numsL
  · simp only [numsL, List.mem_cons, List.not_mem_nil, or_false] at h
    rcases h with rfl | rfl | rfl | rfl | rfl | rfl | rfl | rfl | rfl | rfl | rfl | rfl | rfl | rfl | rfl | rfl | rfl | rfl | rfl | rfl | rfl | rfl | rfl | rfl <;> rfl
  · rw [fmtF_none h]
    simp only [numsL, List.mem_cons, List.not_mem_nil, or_false, not_or] at h
    obtain ⟨h2, h4, h11, h12, h22, h25, h32, h37, h38, h39, h41, h42, h43, h48, h49, h55, h56, h60, h61, h62, h63, h102, h103, h120⟩ := h
    have e2 : (no == 2) = false := by simpa using h2
    have e4 : (no == 4) = false := by simpa using h4
    have e11 : (no == 11) = false := by simpa using h11
    have e12 : (no == 12) = false := by simpa using h12
    have e22 : (no == 22) = false := by simpa using h22
    have e25 : (no == 25) = false := by simpa using h25
    have e32 : (no == 32) = false := by simpa using h32
    have e37 : (no == 37) = false := by simpa using h37
    have e38 : (no == 38) = false := by simpa using h38
    have e39 : (no == 39) = false := by simpa using h39
    have e41 : (no == 41) = false := by simpa using h41
    have e42 : (no == 42) = false := by simpa using h42
    have e43 : (no == 43) = false := by simpa using h43
    have e48 : (no == 48) = false := by simpa using h48
    have e49 : (no == 49) = false := by simpa using h49
    have e55 : (no == 55) = false := by simpa using h55
    have e56 : (no == 56) = false := by simpa using h56
    have e60 : (no == 60) = false := by simpa using h60
    have e61 : (no == 61) = false := by simpa using h61
    have e62 : (no == 62) = false := by simpa using h62
    have e63 : (no == 63) = false := by simpa using h63
    have e102 : (no == 102) = false := by simpa using h102
    have e103 : (no == 103) = false := by simpa using h103
    have e120 : (no == 120) = false := by simpa using h120
    simp only [g_element_Of, T_element_Of, Tr.val_c, Tr.val_r, e2, e4, e11, e12, e22, e25, e32, e37, e38, e39, e41, e42, e43, e48, e49, e55, e56, e60, e61, e62, e63, e102, e103, e120, cond_false]

/- what may stand in texts -/
def inSpan (a b : Int) (c : UInt8) : Bool := decide ((c.toNat : Int) ≥ a) && decide ((c.toNat : Int) ≤ b)
theorem span_eq (a b : Int) (c : UInt8) : g_text_span_has a b (c.toNat : Int) = some (inSpan a b c) := by
  unfold g_text_span_has T_text_span_has inSpan
  by_cases h : (c.toNat : Int) ≥ a <;> simp only [Tr.val_c, Tr.val_r, h, decide_true, decide_false, cond_true, cond_false, Bool.true_and, Bool.false_and]
theorem drop_all {p : UInt8 → Bool} {s : List UInt8} {i : Nat} (h : i < s.length) : (s.drop i).all p = (p (s.getD i 0) && (s.drop (i + 1)).all p) := by
  rw [List.drop_eq_getElem_cons h, List.all_cons, getD_lt h]
theorem all1_eq (s : List UInt8) (hs : s.length < 9223372036854775807) (a b : Int) : g_text_all_0l1 s a b = some (s.all (inSpan a b)) := by
  unfold g_text_all_0l1
  rw [run_inl (s := (.inl ((0 : Int)))) rfl]
  have key : ∀ k i : Nat, i + k = s.length → run (M_text_all_0l1 s a b) (M_text_all_0l1 s a b (.inl ((i : Int)))) = some ((s.drop i).all (inSpan a b)) := by
    intro k
    induction k with
    | zero =>
      intro i hi
      have q : ¬ ((i : Int) < s.length) := by omega
      have e : s.drop i = [] := List.drop_eq_nil_of_le (by omega)
      rw [e]
      exact run_inr (by simp only [M_text_all_0l1, Tr.val_c, Tr.val_r, q, decide_false, cond_false]; rfl)
    | succ k ih =>
      intro i hi
      have q : (i : Int) < s.length := by omega
      have q2 : (0 : Int) ≤ i := by omega
      have w1 : IntKind.i64.wrap ((i : Int) + 1) = ((i + 1 : Nat) : Int) := by rw [i64_wrap (by omega) (by omega)]; rfl
      rw [drop_all (by omega)]
      rw [run_inl (s := (.inr (.inl ((i : Int))))) (by simp only [M_text_all_0l1, Tr.val_c, Tr.val_r, q, decide_true, cond_true])]
      rw [run_inl (s := (.inr (.inr ((inSpan a b (s.getD i 0), (i : Int)))))) (by simp only [M_text_all_0l1, Tr.val_c, Tr.val_r, val_opt, q, q2, Int.toNat_natCast, span_eq, Option.bind_some, decide_true, cond_true])]
      cases h : inSpan a b (s.getD i 0) with
      | false => exact run_inr (by simp only [M_text_all_0l1, Tr.val_c, Tr.val_r, Bool.not_false, cond_true, Bool.false_and])
      | true =>
        rw [run_inl (s := (.inl (((i + 1 : Nat) : Int)))) (by simp only [M_text_all_0l1, Tr.val_c, Tr.val_r, Bool.not_true, cond_false, w1])]
        rw [Bool.true_and]
        exact ih (i + 1) (by omega)
  exact key s.length 0 (by omega)
theorem all3_eq (s : List UInt8) (hs : s.length < 9223372036854775807) (a b a2 b2 a3 b3 : Int) : g_text_all_0l3 s a b a2 b2 a3 b3 = some (s.all fun c => inSpan a b c || inSpan a2 b2 c || inSpan a3 b3 c) := by
  unfold g_text_all_0l3
  rw [run_inl (s := (.inl ((0 : Int)))) rfl]
  have key : ∀ k i : Nat, i + k = s.length → run (M_text_all_0l3 s a b a2 b2 a3 b3) (M_text_all_0l3 s a b a2 b2 a3 b3 (.inl ((i : Int)))) = some ((s.drop i).all fun c => inSpan a b c || inSpan a2 b2 c || inSpan a3 b3 c) := by
    intro k
    induction k with
    | zero =>
      intro i hi
      have q : ¬ ((i : Int) < s.length) := by omega
      have e : s.drop i = [] := List.drop_eq_nil_of_le (by omega)
      rw [e]
      exact run_inr (by simp only [M_text_all_0l3, Tr.val_c, Tr.val_r, q, decide_false, cond_false]; rfl)
    | succ k ih =>
      intro i hi
      have q : (i : Int) < s.length := by omega
      have q2 : (0 : Int) ≤ i := by omega
      have w1 : IntKind.i64.wrap ((i : Int) + 1) = ((i + 1 : Nat) : Int) := by rw [i64_wrap (by omega) (by omega)]; rfl
      rw [drop_all (p := fun c => inSpan a b c || inSpan a2 b2 c || inSpan a3 b3 c) (by omega)]
      rw [run_inl (s := (.inr (.inl ((i : Int))))) (by simp only [M_text_all_0l3, Tr.val_c, Tr.val_r, q, decide_true, cond_true])]
      rw [run_inl (s := (.inr (.inr (.inl ((inSpan a b (s.getD i 0), (i : Int))))))) (by simp only [M_text_all_0l3, Tr.val_c, Tr.val_r, val_opt, q, q2, Int.toNat_natCast, span_eq, Option.bind_some, decide_true, cond_true])]
      rw [run_inl (s := (.inr (.inr (.inr (.inl ((inSpan a b (s.getD i 0) || inSpan a2 b2 (s.getD i 0), (i : Int)))))))) (by
        cases inSpan a b (s.getD i 0) <;> simp only [M_text_all_0l3, Tr.val_c, Tr.val_r, val_opt, q, q2, Int.toNat_natCast, span_eq, Option.bind_some, decide_true, cond_true, cond_false, Bool.true_or, Bool.false_or])]
      rw [run_inl (s := (.inr (.inr (.inr (.inr ((inSpan a b (s.getD i 0) || inSpan a2 b2 (s.getD i 0) || inSpan a3 b3 (s.getD i 0), (i : Int)))))))) (by
        cases inSpan a b (s.getD i 0) || inSpan a2 b2 (s.getD i 0) <;> simp only [M_text_all_0l3, Tr.val_c, Tr.val_r, val_opt, q, q2, Int.toNat_natCast, span_eq, Option.bind_some, decide_true, cond_true, cond_false, Bool.true_or, Bool.false_or])]
      cases h : inSpan a b (s.getD i 0) || inSpan a2 b2 (s.getD i 0) || inSpan a3 b3 (s.getD i 0) with
      | false => exact run_inr (by simp only [M_text_all_0l3, Tr.val_c, Tr.val_r, Bool.not_false, cond_true, Bool.false_and])
      | true =>
        rw [run_inl (s := (.inl (((i + 1 : Nat) : Int)))) (by simp only [M_text_all_0l3, Tr.val_c, Tr.val_r, Bool.not_true, cond_false, w1])]
        rw [Bool.true_and]
        exact ih (i + 1) (by omega)
  exact key s.length 0 (by omega)
def alnum (c : UInt8) : Bool := inSpan 48 57 c || inSpan 65 90 c || inSpan 97 122 c
def vis (c : UInt8) : Bool := inSpan 32 126 c
def alnB (s : List UInt8) (lo hi : Int) : Bool := decide (lo ≤ s.length) && decide ((s.length : Int) ≤ hi) && s.all alnum
def ansB (s : List UInt8) (hi : Int) : Bool := decide ((1 : Int) ≤ s.length) && decide ((s.length : Int) ≤ hi) && s.all vis
theorem Aln_eq (s : List UInt8) (lo hi : Int) (hs : s.length < 9223372036854775807) : g_text_Aln s lo hi = some (alnB s lo hi) := by
  simp only [g_text_Aln, T_text_Aln, Tr.val_c, val_opt, all3_eq s hs, Tr.val_r, alnB, Option.bind_some, cond_true, ge_iff_le]
  by_cases h1 : lo ≤ s.length <;> by_cases h2 : (s.length : Int) ≤ hi <;> simp [h1, h2] <;> rfl
theorem Ans_eq (s : List UInt8) (hi : Int) (hs : s.length < 9223372036854775807) : g_text_Ans s hi = some (ansB s hi) := by
  simp only [g_text_Ans, T_text_Ans, Tr.val_c, val_opt, all1_eq s hs, Tr.val_r, ansB, Option.bind_some, cond_true, ge_iff_le]
  by_cases h1 : (1 : Int) ≤ s.length <;> by_cases h2 : (s.length : Int) ≤ hi <;> simp [h1, h2] <;> rfl

/- an element's check -/
def okRow (x : Int × Int × Int × Int) : Bool := decide (1 ≤ x.2.1) && decide (x.2.1 ≤ 4) && decide (0 ≤ x.2.2.1) && decide (x.2.2.1 ≤ 4) && decide (1 ≤ x.2.2.2) && decide (x.2.2.2 ≤ 999) && (decide (x.2.2.1 = 0) || decide (x.2.2.2 < 10 ^ x.2.2.1.toNat)) && decide (x.2.2.1 ≠ 1)
theorem fmtF_cases (no : Int) : fmtF no = (0, 0, 0, 0, false) ∨ ∃ k d m, fmtF no = (no, k, d, m, true) ∧ 1 ≤ k ∧ k ≤ 4 ∧ 0 ≤ d ∧ d ≤ 4 ∧ 1 ≤ m ∧ m ≤ 999 ∧ (d = 0 ∨ m < 10 ^ d.toNat) ∧ d ≠ 1 := by
  cases h : fmtsL.find? (fun x => x.1 == no) with
  | none => left; rw [fmtF, h]
  | some x =>
    right
    have e := List.find?_some h
    have hm := List.mem_of_find?_eq_some h
    have e1 : x.1 = no := by simpa using e
    have ok : okRow x = true := (show ∀ x ∈ fmtsL, okRow x = true by decide) x hm
    simp only [okRow, Bool.and_eq_true, Bool.or_eq_true, decide_eq_true_eq] at ok
    refine ⟨x.2.1, x.2.2.1, x.2.2.2, by rw [fmtF, h, ← e1], ?_⟩
    omega
def kindB (k : Int) (s : List UInt8) : Bool := if k = 1 then s.all dig else if k = 2 then s.all alnum else if k = 3 then s.all vis else true
def longB (d m n : Int) : Bool := decide (n = m) || (decide (d > 0) && decide (n ≥ 1) && decide (n ≤ m))
theorem long_eq (a k d m n : Int) : g_element_long a k d m n = some (longB d m n) := by
  unfold g_element_long T_element_long longB
  by_cases h : n = m
  · simp only [Tr.val_c, Tr.val_r, h, beq_self_eq_true, decide_true, cond_true, Bool.true_or]
  · have h' : (n == m) = false := by simpa using h
    by_cases h2 : d > 0 <;> by_cases h3 : n ≥ 1 <;> simp only [Tr.val_c, Tr.val_r, h, h', h2, h3, decide_true, decide_false, cond_true, cond_false, Bool.false_or, Bool.true_and, Bool.false_and]
theorem longB_le {d m n : Int} (hm : 1 ≤ m) (h : longB d m n = true) : 1 ≤ n ∧ n ≤ m := by
  simp only [longB, Bool.or_eq_true, Bool.and_eq_true, decide_eq_true_eq] at h; omega
def rightS (k : Int) (s : List UInt8) : Int := if kindB k s = true then 0 else 14
theorem k_beq {k : Int} {n : Int} (h : k ≠ n) : (k == n) = false := by simpa using h
theorem eright_eq (a k d m : Int) (s : List UInt8) (h0 : 1 ≤ (s.length : Int)) (h : (s.length : Int) ≤ m) (hs : s.length < 9223372036854775807) : g_element_right a k d m (bl s) = some (rightS k s) := by
  unfold g_element_right rightS kindB
  have l0 : (0 : Int) ≤ s.length := by omega
  by_cases h1 : k = 1
  · subst h1
    have e : right s 0 m = s.all dig := by rw [right, decide_eq_true l0, decide_eq_true h]; rfl
    have t : (T_element_data_numbers s m).val = some (s.all dig) := by simp only [T_element_data_numbers, val_opt, Right_eq s 0 m hs, e, Option.bind_some, Tr.val_r]
    simp only [T_element_right, Tr.val_c, Tr.val_r, val_opt, bytesOf_bl', g_element_data_numbers, t, beq_self_eq_true, cond_true, Option.bind_some, if_true]
    cases s.all dig <;> rfl
  · by_cases h2 : k = 2
    · subst h2
      have e : alnB s 0 m = s.all alnum := by rw [alnB, decide_eq_true l0, decide_eq_true h]; rfl
      have t : (T_element_data_letters s m).val = some (s.all alnum) := by simp only [T_element_data_letters, val_opt, Aln_eq s 0 m hs, e, Option.bind_some, Tr.val_r]
      simp only [T_element_right, Tr.val_c, Tr.val_r, val_opt, bytesOf_bl', g_element_data_letters, t, k_beq h1, h1, beq_self_eq_true, cond_true, cond_false, Option.bind_some, if_true, if_false]
      cases s.all alnum <;> rfl
    · by_cases h3 : k = 3
      · subst h3
        have e : ansB s m = s.all vis := by rw [ansB, decide_eq_true h0, decide_eq_true h]; rfl
        have t : (T_element_data_signs s m).val = some (s.all vis) := by simp only [T_element_data_signs, val_opt, Ans_eq s m hs, e, Option.bind_some, Tr.val_r]
        simp only [T_element_right, Tr.val_c, Tr.val_r, val_opt, bytesOf_bl', g_element_data_signs, t, k_beq h1, k_beq h2, h1, h2, beq_self_eq_true, cond_true, cond_false, Option.bind_some, if_true, if_false]
        cases s.all vis <;> rfl
      · simp only [T_element_right, Tr.val_c, Tr.val_r, k_beq h1, k_beq h2, k_beq h3, h1, h2, h3, cond_false, if_false, if_true]
def checkS (no : Int) (s : List UInt8) : Int := bif !(fmtF no).2.2.2.2 then 16 else bif !longB (fmtF no).2.2.1 (fmtF no).2.2.2.1 s.length then 17 else rightS (fmtF no).2.1 s
theorem Check_eq (no : Int) (s : List UInt8) : g_element_Check no (bl s) = some (checkS no s) := by
  unfold g_element_Check checkS
  rcases fmtF_cases no with e | ⟨k, d, m, e, k1, k2, d1, d2, m1, m2, dm, dn⟩
  · simp only [T_element_Check, val_opt, Tr.val_c, Tr.val_r, Of_eq, e, Option.bind_some, Bool.not_false, cond_true]
  · simp only [T_element_Check, val_opt, Tr.val_c, Tr.val_r, Of_eq, e, Option.bind_some, Bool.not_true, cond_false, bl_length, long_eq]
    cases hl : longB d m s.length with
    | false => simp only [Bool.not_false, cond_true]
    | true =>
      have b := longB_le m1 hl
      simp only [Bool.not_true, cond_false, eright_eq no k d m s b.1 b.2 (by omega), Option.bind_some]

/- an element is read -/
theorem numS_bounds {s : List UInt8} (h : (numS s).2 = 0) : 0 ≤ (numS s).1 ∧ (numS s).1 < 1000000000000000000 := by
  unfold numS at *
  cases hr : right s 1 18 with
  | false => rw [hr] at h; simp at h
  | true =>
    rw [if_pos rfl]
    have hlen : s.length ≤ 18 := by simp [right] at hr; omega
    have hd : s.all dig = true := by simp [right] at hr; simpa using hr.2
    obtain ⟨a, b⟩ := numV_N _ s rfl hlen hd
    have p : 10 ^ s.length ≤ 10 ^ 18 := Nat.pow_le_pow_right (by omega) hlen
    show 0 ≤ numV s ∧ numV s < _
    rw [a]; omega
def sizeS (d m : Int) (b : List UInt8) : Int × Int :=
  if d = 0 then (m, 0) else if (b.length : Int) < d then (0, 3) else if (numS (b.take d.toNat)).2 ≠ 0 then (0, (numS (b.take d.toNat)).2) else if longB d m (numS (b.take d.toNat)).1 = true then ((numS (b.take d.toNat)).1, 0) else (0, 17)
theorem size_eq (a k d m : Int) (b : List UInt8) (hb : b.length < 9223372036854775807) (d1 : 0 ≤ d) : g_element_size a k d m (bl b) = some (sizeS d m b) := by
  unfold g_element_size sizeS
  by_cases h0 : d = 0
  · subst h0
    rw [if_pos rfl]
    simp only [T_element_size, Tr.val_c, Tr.val_r, beq_self_eq_true, cond_true]
  · rw [if_neg h0]
    have z : (d == 0) = false := k_beq h0
    by_cases h1 : (b.length : Int) < d
    · rw [if_pos h1]
      simp only [T_element_size, Tr.val_c, Tr.val_r, z, bl_length, h1, decide_true, cond_true, cond_false]
    · rw [if_neg h1]
      have h2 : d ≤ b.length := by omega
      have hl : (b.take d.toNat).length < 9223372036854775807 := by rw [List.length_take]; omega
      have e := Number_eq (b.take d.toNat) hl
      by_cases h3 : (numS (b.take d.toNat)).2 = 0
      · rw [if_neg (by simpa using h3)]
        have z2 : ((numS (b.take d.toNat)).2 != 0) = false := by simp [h3]
        have bd := numS_bounds h3
        have w : IntKind.i64.wrap (numS (b.take d.toNat)).1 = (numS (b.take d.toNat)).1 := i64_wrap (by omega) (by omega)
        simp only [T_element_size, Tr.val_c, Tr.val_r, val_opt, z, bl_length, h1, d1, h2, bl_take, List.drop_zero, bytesOf_bl', e, z2, w, long_eq, Option.bind_some, decide_true, decide_false, cond_true, cond_false]
        cases longB d m (numS (b.take d.toNat)).1 <;> rfl
      · rw [if_pos h3]
        have z2 : ((numS (b.take d.toNat)).2 != 0) = true := by simpa using h3
        simp only [T_element_size, Tr.val_c, Tr.val_r, val_opt, z, bl_length, h1, d1, h2, bl_take, List.drop_zero, bytesOf_bl', e, z2, Option.bind_some, decide_true, decide_false, cond_true, cond_false]
def readS (no : Int) (b : List UInt8) : List UInt8 × Int × Int :=
  bif !(fmtF no).2.2.2.2 then ([], 0, 16) else
  if (sizeS (fmtF no).2.2.1 (fmtF no).2.2.2.1 b).2 ≠ 0 then ([], 0, (sizeS (fmtF no).2.2.1 (fmtF no).2.2.2.1 b).2) else
  if (b.length : Int) < (fmtF no).2.2.1 + (sizeS (fmtF no).2.2.1 (fmtF no).2.2.2.1 b).1 then ([], 0, 3) else
  if kindB (fmtF no).2.1 ((b.take ((fmtF no).2.2.1 + (sizeS (fmtF no).2.2.1 (fmtF no).2.2.2.1 b).1).toNat).drop (fmtF no).2.2.1.toNat) = true
  then ((b.take ((fmtF no).2.2.1 + (sizeS (fmtF no).2.2.1 (fmtF no).2.2.2.1 b).1).toNat).drop (fmtF no).2.2.1.toNat, (fmtF no).2.2.1 + (sizeS (fmtF no).2.2.1 (fmtF no).2.2.2.1 b).1, 0) else ([], 0, 14)
def blR (x : List UInt8 × Int × Int) : List AV × Int × Int := (bl x.1, x.2.1, x.2.2)
theorem sizeS_le {d m : Int} {b : List UInt8} (hm : 1 ≤ m) (h : (sizeS d m b).2 = 0) : 1 ≤ (sizeS d m b).1 ∧ (sizeS d m b).1 ≤ m ∧ (d = 0 ∨ d ≤ b.length) := by
  unfold sizeS at *
  split at h
  · rename_i h0; rw [if_pos h0]; exact ⟨hm, Int.le_refl _, .inl h0⟩
  · rename_i h0
    rw [if_neg h0]
    split at h
    · simp at h
    · rename_i h1
      rw [if_neg h1]
      split at h
      · rename_i h2; exact absurd h h2
      · rename_i h2
        rw [if_neg h2]
        split at h
        · rename_i h3
          rw [if_pos h3]
          have := longB_le hm h3
          exact ⟨this.1, this.2, .inr (by omega)⟩
        · simp at h
theorem Read_eq (no : Int) (b : List UInt8) (hb : b.length < 1000000) : g_element_Read no (bl b) = some (blR (readS no b)) := by
  unfold g_element_Read readS
  rcases fmtF_cases no with e | ⟨k, d, m, e, k1, k2, d1, d2, m1, m2, dm, dn⟩
  · simp only [T_element_Read, val_opt, Tr.val_c, Tr.val_r, Of_eq, e, Option.bind_some, Bool.not_false, cond_true]; rfl
  · simp only [T_element_Read, val_opt, Tr.val_c, Tr.val_r, Of_eq, e, size_eq no k d m b (by omega) d1, Option.bind_some, Bool.not_true, cond_false, bl_length]
    generalize hs : sizeS d m b = sz
    by_cases h0 : sz.2 = 0
    · rw [if_neg (by simpa using h0)]
      have z : (sz.2 != 0) = false := by simp [h0]
      have le := sizeS_le m1 (by rw [hs]; exact h0)
      rw [hs] at le
      have w : IntKind.i64.wrap (d + sz.1) = d + sz.1 := i64_wrap (by omega) (by omega)
      simp only [z, w, cond_false]
      by_cases h1 : (b.length : Int) < d + sz.1
      · rw [if_pos h1]; simp only [h1, decide_true, cond_true]; rfl
      · rw [if_neg h1]
        have q1 : (0 : Int) ≤ d + sz.1 := by omega
        have q2 : d + sz.1 ≤ b.length := by omega
        have q3 : d ≤ d + sz.1 := by omega
        generalize hx : (b.take (d + sz.1).toNat).drop d.toNat = x
        have lx : (x.length : Int) = sz.1 := by rw [← hx, List.length_drop, List.length_take]; omega
        have ll : x.length * 2 < 70368744177664 := by omega
        simp only [h1, q1, q2, d1, q3, bl_take, bl_drop, hx, bl_length, ll, eright_eq no k d m x (by omega) (by omega) (by omega), rightS, beq_self_eq_true, Option.bind_some, decide_true, decide_false, cond_true, cond_false]
        cases kindB k x <;> rfl
    · rw [if_pos h0]
      have z : (sz.2 != 0) = true := by simpa using h0
      simp only [z, cond_true]; rfl
def writeS (no : Int) (s : List UInt8) : List UInt8 × Int :=
  if checkS no s ≠ 0 then ([], checkS no s) else if (fmtF no).2.2.1 > 0 then ((textS s.length (fmtF no).2.2.1).1 ++ s, 0) else (s, 0)
theorem map_byte (s : List UInt8) : List.map byte s = bl s := rfl
theorem Write_eq (no : Int) (s : List UInt8) (hs : s.length < 1000000) : g_element_Write no (bl s) = some (bl (writeS no s).1, (writeS no s).2) := by
  unfold g_element_Write writeS
  by_cases h0 : checkS no s = 0
  · rw [if_neg (by simpa using h0)]
    have z : (checkS no s != 0) = false := by simp [h0]
    have w : IntKind.u64.wrap (s.length : Int) = (s.length : Int) := u64_wrap (by omega) (by omega)
    by_cases hd : (fmtF no).2.2.1 > 0
    · rw [if_pos hd]
      have lt : (textS s.length (fmtF no).2.2.1).1.length ≤ 20 := by
        unfold textS
        split
        · simp
        · split
          · simp
          · rw [List.length_append, List.length_replicate]; omega
      have l1 : (bl (textS s.length (fmtF no).2.2.1).1 ++ bl s).length * 2 < 70368744177664 := by rw [List.length_append, bl_length, bl_length]; omega
      simp only [T_element_Write, Tr.val_c, Tr.val_r, val_opt, Check_eq, Of_eq, z, w, hd, bl_length, Text_eq s.length (by omega), map_byte, l1, beq_self_eq_true, Option.bind_some, decide_true, cond_true, cond_false, bl_append]
    · rw [if_neg hd]
      have l1 : s.length * 2 < 70368744177664 := by omega
      simp only [T_element_Write, Tr.val_c, Tr.val_r, val_opt, Check_eq, Of_eq, z, hd, bl_length, l1, beq_self_eq_true, Option.bind_some, decide_true, decide_false, cond_true, cond_false]
  · rw [if_pos h0]
    have z : (checkS no s != 0) = true := by simpa using h0
    simp only [T_element_Write, Tr.val_c, Tr.val_r, val_opt, Check_eq, z, Option.bind_some, cond_true]; rfl

theorem ew12 : writeS 2 [49, 50] = ([48, 50, 49, 50], 0) := by
  have d : Go.Lib.decDigits 2 = [50] := by rw [Go.Lib.decDigits]; rfl
  have t : textS 2 2 = ([48, 50], 0) := by unfold textS; rw [d]; rfl
  unfold writeS
  rw [if_neg (by decide), if_pos (by decide)]
  have e : (fmtF 2).2.2.1 = 2 := by decide
  rw [e]
  show ((textS 2 2).1 ++ [49, 50], 0) = _
  rw [t]; rfl
theorem er12 : readS 2 [48, 50, 49, 50, 122] = ([49, 50], 4, 0) := by decide +kernel
theorem awake16 : g_comptoirlaw16_awake = some true := by
  unfold g_comptoirlaw16_awake
  have a := Write_eq 2 [49, 50] (by simp)
  have b := Read_eq 2 [48, 50, 49, 50, 122] (by simp)
  rw [ew12] at a
  rw [er12] at b
  have a' : g_element_Write 2 [AV.int .u8 49, AV.int .u8 50] = some (bl [48, 50, 49, 50], 0) := a
  have b' : g_element_Read 2 [AV.int .u8 48, AV.int .u8 50, AV.int .u8 49, AV.int .u8 50, AV.int .u8 122] = some (bl [49, 50], 4, 0) := b
  simp only [T_comptoirlaw16_awake, Tr.val_c, Tr.val_r, val_opt, a', b', Option.bind_some, bytesOf_bl', beq_self_eq_true, cond_true]

theorem set_rep (n i : Nat) (h : i < n) (a b : AV) : (List.replicate i b ++ List.replicate (n - i) a).set i b = List.replicate (i + 1) b ++ List.replicate (n - (i + 1)) a := by
  rw [List.set_append_right _ _ (by simp), List.length_replicate, Nat.sub_self]
  obtain ⟨k, hk⟩ : ∃ k, n - i = k + 1 := ⟨n - i - 1, by omega⟩
  rw [hk, List.replicate_succ, List.set_cons_zero, show n - (i + 1) = k by omega, List.replicate_succ', List.append_assoc]
  rfl

theorem all_rep {p : UInt8 → Bool} {n : Nat} {c : UInt8} (h : 0 < n) : (List.replicate n c).all p = p c := by
  cases hp : p c with
  | true => rw [List.all_eq_true]; intro x hx; rw [List.eq_of_mem_replicate hx]; exact hp
  | false =>
    rw [List.all_eq_false]
    exact ⟨c, by rw [List.mem_replicate]; exact ⟨by omega, rfl⟩, by simp [hp]⟩
theorem ask_eq (no : Int) (n : Nat) (hn : n < 1000) (c : UInt8) : g_comptoirlaw16_ElementKinds_1_00p no (n : Int) (c.toNat : Int) = some (checkS no (List.replicate n c) == 0) := by
  unfold g_comptoirlaw16_ElementKinds_1_00p
  have q0 : (0 : Int) ≤ (n : Int) := by omega
  have rl : n * 2 < 70368744177664 := by omega
  rw [run_inl (s := ((n : Int), 0, List.replicate n (AV.int .u8 0))) (by
    simp only [T_comptoirlaw16_ElementKinds_1_00p, Tr.val_c, Tr.val_r, q0, rl, Int.toNat_natCast, List.length_replicate, beq_self_eq_true, decide_true, cond_true])]
  have L : ∀ i, i ≤ n → (List.replicate i (AV.int .u8 (c.toNat : Int)) ++ List.replicate (n - i) (AV.int .u8 0)).length = n := by intro i hi; simp; omega
  have loop := run_count (step := M_comptoirlaw16_ElementKinds_1_00p no (n : Int) (c.toNat : Int)) (f := fun i => ((n : Int), (i : Int), List.replicate i (AV.int .u8 (c.toNat : Int)) ++ List.replicate (n - i) (AV.int .u8 0))) (n := n) (fun i hi => by
    have q1 : (i : Int) < (n : Int) := by omega
    have q2 : (0 : Int) ≤ (i : Int) := by omega
    have w1 : IntKind.i64.wrap ((i : Int) + 1) = ((i + 1 : Nat) : Int) := by rw [i64_wrap (by omega) (by omega)]; rfl
    simp only [M_comptoirlaw16_ElementKinds_1_00p, Tr.val_c, Tr.val_r, q1, q2, Int.toNat_natCast, L i (by omega), hi, set_rep n i hi, L (i + 1) (by omega), w1, beq_self_eq_true, decide_true, cond_true])
  refine loop.trans (run_inr ?_)
  have q1 : ¬ ((n : Int) < (n : Int)) := by omega
  have e : List.replicate n (AV.int .u8 (c.toNat : Int)) ++ List.replicate (n - n) (AV.int .u8 0) = bl (List.replicate n c) := by
    rw [Nat.sub_self]; simp [bl, byte]
  simp only [M_comptoirlaw16_ElementKinds_1_00p, Tr.val_c, Tr.val_r, val_opt, q1, e, Check_eq, Option.bind_some, beq_self_eq_true, decide_false, cond_true, cond_false]
theorem rightS_zero (k : Int) (s : List UInt8) : (rightS k s == 0) = kindB k s := by
  unfold rightS; cases kindB k s <;> rfl
theorem kinds_row {no k d m : Int} {n : Nat} {c : UInt8} (f : fmtF no = (no, k, d, m, true)) (l : longB d m n = true) : (checkS no (List.replicate n c) == 0) = kindB k (List.replicate n c) := by
  unfold checkS
  rw [f, List.length_replicate]
  simp only [Bool.not_true, cond_false, l, rightS_zero]
def letterB (c : UInt8) : Bool := inSpan 65 90 c || inSpan 97 122 c
theorem dig_span (c : UInt8) : dig c = inSpan 48 57 c := by
  unfold dig inSpan
  have a : decide (48 ≤ c.toNat) = decide ((c.toNat : Int) ≥ 48) := by apply decide_eq_decide.2; omega
  have b : decide (c.toNat ≤ 57) = decide ((c.toNat : Int) ≤ 57) := by apply decide_eq_decide.2; omega
  rw [a, b]
theorem ekinds_eq (c : UInt8) : g_comptoirlaw16_ElementKinds (c.toNat : Int) = some true := by
  unfold g_comptoirlaw16_ElementKinds
  have t : (T_comptoirlaw16_ElementKinds (c.toNat : Int)).val = some (.inl (.inl (dig c))) := by
    rw [dig_span]; unfold inSpan
    by_cases h : (c.toNat : Int) ≥ 48 <;> simp only [T_comptoirlaw16_ElementKinds, Tr.val_c, Tr.val_r, h, decide_true, decide_false, cond_true, cond_false, Bool.true_and, Bool.false_and]
  rw [run_inl t]
  have t2 : (M_comptoirlaw16_ElementKinds (c.toNat : Int) (.inl (dig c))).val = some (.inl (.inr ((dig c, letterB c)))) := by
    unfold letterB inSpan
    by_cases h : (c.toNat : Int) ≥ 65 <;> by_cases h2 : (c.toNat : Int) ≤ 90 <;> by_cases h3 : (c.toNat : Int) ≥ 97 <;>
      simp only [M_comptoirlaw16_ElementKinds, Tr.val_c, Tr.val_r, h, h2, h3, decide_true, decide_false, cond_true, cond_false, Bool.true_and, Bool.false_and, Bool.true_or, Bool.false_or]
  rw [run_inl t2]
  have k1 : kindB 1 (List.replicate 12 c) = dig c := by unfold kindB; rw [if_pos rfl]; exact all_rep (by decide)
  have k2 : kindB 2 (List.replicate 12 c) = (dig c || letterB c) := by
    unfold kindB; rw [if_neg (by decide), if_pos rfl, all_rep (by decide), dig_span, alnum, letterB, Bool.or_assoc]
  have k3 : kindB 3 (List.replicate 3 c) = vis c := by unfold kindB; rw [if_neg (by decide), if_neg (by decide), if_pos rfl]; exact all_rep (by decide)
  have k4 : ∀ n, kindB 4 (List.replicate n c) = true := by intro n; unfold kindB; rw [if_neg (by decide), if_neg (by decide), if_neg (by decide)]
  have a1 : g_comptoirlaw16_ElementKinds_1_00p 2 12 (c.toNat : Int) = some (dig c) := by
    have := ask_eq 2 12 (by decide) c
    rw [kinds_row (k := 1) (d := 2) (m := 19) (by decide) (by decide), k1] at this; exact this
  have a2 : g_comptoirlaw16_ElementKinds_1_00p 37 12 (c.toNat : Int) = some (dig c || letterB c) := by
    have := ask_eq 37 12 (by decide) c
    rw [kinds_row (k := 2) (d := 0) (m := 12) (by decide) (by decide), k2] at this; exact this
  have a3 : g_comptoirlaw16_ElementKinds_1_00p 43 3 (c.toNat : Int) = some (vis c) := by
    have := ask_eq 43 3 (by decide) c
    rw [kinds_row (k := 3) (d := 2) (m := 40) (by decide) (by decide), k3] at this; exact this
  have a4 : g_comptoirlaw16_ElementKinds_1_00p 120 5 (c.toNat : Int) = some true := by
    have := ask_eq 120 5 (by decide) c
    rw [kinds_row (k := 4) (d := 4) (m := 999) (by decide) (by decide), k4] at this; exact this
  have a5 : g_comptoirlaw16_ElementKinds_1_00p 55 1 (c.toNat : Int) = some true := by
    have := ask_eq 55 1 (by decide) c
    rw [kinds_row (k := 4) (d := 3) (m := 255) (by decide) (by decide), k4] at this; exact this
  have bb : ∀ b : Bool, (b == b) = true := by decide
  refine run_inr ?_
  have v1 : (c.toNat : Int) ≥ 32 → vis c = decide ((c.toNat : Int) ≤ 126) := by intro h; simp only [vis, inSpan, h, decide_true, Bool.true_and]
  have v2 : ¬ (c.toNat : Int) ≥ 32 → vis c = false := by intro h; simp only [vis, inSpan, h, decide_false, Bool.false_and]
  by_cases h : (c.toNat : Int) ≥ 32
  · rw [v1 h] at a3
    cases hd : dig c <;> rw [hd] at a1 a2 <;>
      simp only [M_comptoirlaw16_ElementKinds, Tr.val_c, Tr.val_r, val_opt, awake16, a1, a2, a3, a4, a5, h, bb, Option.bind_some, decide_true, cond_true, cond_false, Bool.true_or, Bool.false_or]
  · rw [v2 h] at a3
    cases hd : dig c <;> rw [hd] at a1 a2 <;>
      simp only [M_comptoirlaw16_ElementKinds, Tr.val_c, Tr.val_r, val_opt, awake16, a1, a2, a3, a4, a5, h, bb, Option.bind_some, decide_false, cond_true, cond_false, Bool.true_or, Bool.false_or]

end Go.Proofs.YthapkffhmekmcaaDoor
