/- What the printed functions come to, plainly. -/
import Derived.Test.YtbgklljidmoahaaDoorYdG3
import Derived.Test.YtbgklljidmoahaaDoorCxAm
namespace Go.Proofs.YtbgklljidmoahaaDoor
open Go.Cx Go.Cx.AV
set_option linter.unusedSimpArgs false
set_option linter.unusedVariables false

theorem Bcd_123 : g_digits_Bcd [49, 50, 51] = some ([.int .u8 1, .int .u8 35], 0) := by
  have r : g_digits_Right [49, 50, 51] 0 100 = some true := by
    have a : g_digits_all_0fhas_ [49, 50, 51] [48, 49, 50, 51, 52, 53, 54, 55, 56, 57] = some true := run_some.2 ⟨10, by kernel_rfl⟩
    unfold g_digits_Right T_digits_Right; rw [a]; rfl
  unfold g_digits_Bcd T_digits_Bcd
  rw [r]
  exact run_some.2 ⟨10, by kernel_rfl⟩
theorem Hex_171 : g_digits_Hex [.int .u8 171] = some [65, 66] := run_some.2 ⟨10, by kernel_rfl⟩
theorem Right_5 : g_digits_Right [53] 1 1 = some true := by
  have a : g_digits_all_0fhas_ [53] [48, 49, 50, 51, 52, 53, 54, 55, 56, 57] = some true := run_some.2 ⟨10, by kernel_rfl⟩
  unfold g_digits_Right T_digits_Right; rw [a]; rfl
theorem awake02 : g_comptoirlaw02_awake = some true := by
  unfold g_comptoirlaw02_awake
  have e : bytesOf [AV.int .u8 1, .int .u8 35] = [1, 35] := by decide
  simp only [T_comptoirlaw02_awake, Tr.val_c, Tr.val_r, val_opt, Bcd_123, Hex_171, Right_5, e, Option.bind_some, beq_self_eq_true, cond_true]

/- numbers as digits -/
theorem digits_pos (v : Nat) : 1 ≤ (Go.Lib.decDigits v).length := by
  rw [Go.Lib.decDigits]; split <;> simp
theorem rep48 (k : Nat) : Go.Lib.repeatL [48] k = List.replicate k 48 := by
  induction k with
  | zero => rfl
  | succ k ih => rw [Go.Lib.repeatL, ih, List.replicate_succ]; rfl
/-- A number in so many digits. -/
def textS (v : Nat) (w : Int) : List UInt8 × Int :=
  if w < 1 ∨ 20 < w then ([], 1) else if w < (Go.Lib.decDigits v).length then ([], 4) else (List.replicate (w - (Go.Lib.decDigits v).length).toNat 48 ++ Go.Lib.decDigits v, 0)
theorem Text_eq (v : Nat) (hv : v < 18446744073709551616) (w : Int) : g_digits_Text (v : Int) w = some (textS v w) := by
  unfold g_digits_Text textS
  have q0 : (0 : Int) ≤ (v : Int) := by omega
  have q1 : (v : Int) < 18446744073709551616 := by omega
  have d := digits_pos v
  have d2 := nDigits_le v hv
  by_cases h1 : w < 1
  · rw [if_pos (.inl h1)]
    simp only [T_digits_Text, Tr.val_c, Tr.val_r, h1, decide_true, cond_true]
  · by_cases h2 : w > 20
    · rw [if_pos (.inr h2)]
      simp only [T_digits_Text, Tr.val_c, Tr.val_r, h1, h2, decide_true, decide_false, cond_true, cond_false]
    · rw [if_neg (by omega)]
      by_cases h3 : ((Go.Lib.decDigits v).length : Int) > w
      · rw [if_pos (by omega)]
        simp only [T_digits_Text, Tr.val_c, Tr.val_r, h1, h2, q0, q1, Int.toNat_natCast, h3, decide_true, decide_false, cond_true, cond_false]
      · rw [if_neg (by omega)]
        have w1 : IntKind.i64.wrap (w - ((Go.Lib.decDigits v).length : Int)) = w - ((Go.Lib.decDigits v).length : Int) := i64_wrap (by omega) (by omega)
        have q2 : (0 : Int) ≤ w - ((Go.Lib.decDigits v).length : Int) := by omega
        have q3 : w - ((Go.Lib.decDigits v).length : Int) ≤ 1000000000 := by omega
        have q4 : (List.replicate (w - ((Go.Lib.decDigits v).length : Int)).toNat (48 : UInt8)).length + (Go.Lib.decDigits v).length < 70368744177664 := by rw [List.length_replicate]; omega
        simp only [T_digits_Text, Tr.val_c, Tr.val_r, h1, h2, q0, q1, Int.toNat_natCast, h3, w1, q2, q3, rep48, q4, decide_true, decide_false, cond_true, cond_false]

theorem dwide_eq (v : Nat) (hv : v < 18446744073709551616) (x1 : Int) : g_comptoirlaw02_DigitsWide (v : Int) x1 = some true := by
  obtain ⟨a0, a1⟩ := u64_bounds x1
  obtain ⟨W, hW, hW1⟩ : ∃ W : Nat, IntKind.i64.wrap (1 + IntKind.i64.wrap (Int.tmod (IntKind.u64.wrap x1) 20)) = (W : Int) ∧ 1 ≤ W ∧ W ≤ 20 := by
    have m1 := Int.emod_nonneg (IntKind.u64.wrap x1) (b := 20) (by omega)
    have m2 := Int.emod_lt_of_pos (IntKind.u64.wrap x1) (b := 20) (by omega)
    refine ⟨(1 + IntKind.u64.wrap x1 % 20).toNat, ?_, by omega, by omega⟩
    have i1 : IntKind.i64.wrap (IntKind.u64.wrap x1 % 20) = IntKind.u64.wrap x1 % 20 := i64_wrap (by omega) (by omega)
    rw [tmod_eq a0, i1, i64_wrap (by omega) (by omega)]; omega
  obtain ⟨D, hD⟩ : ∃ D, D = Go.Lib.decDigits v := ⟨_, rfl⟩
  have d := digits_pos v
  have d2 := nDigits_le v hv
  have T := Text_eq v hv (W : Int)
  rw [← hD] at d d2
  have q0 : (0 : Int) ≤ (v : Int) := by omega
  have q1 : (v : Int) < 18446744073709551616 := by omega
  unfold g_comptoirlaw02_DigitsWide
  by_cases h : W < D.length
  · have t : textS v (W : Int) = ([], 4) := by unfold textS; rw [if_neg (by omega), ← hD, if_pos (by omega)]
    rw [t] at T
    have q2 : ((D.length : Nat) : Int) > (W : Int) := by omega
    exact run_inr (by simp only [T_comptoirlaw02_DigitsWide, Tr.val_c, Tr.val_r, val_opt, q0, q1, Int.toNat_natCast, hW, T, ← hD, q2, awake02, Option.bind_some, decide_true, beq_self_eq_true, cond_true])
  · have t : textS v (W : Int) = (List.replicate (W - D.length) 48 ++ D, 0) := by
      unfold textS
      rw [if_neg (by omega), ← hD, if_neg (by omega)]
      congr 3; omega
    rw [t] at T
    have q2 : ¬ ((D.length : Nat) : Int) > (W : Int) := by omega
    have ls : (List.replicate (W - D.length) (48 : UInt8) ++ D).length = W := by simp; omega
    rw [run_inl (s := ((W : Int), List.replicate (W - D.length) 48 ++ D, 0, ((0 : Nat) : Int))) (by simp only [T_comptoirlaw02_DigitsWide, Tr.val_c, Tr.val_r, val_opt, q0, q1, Int.toNat_natCast, hW, T, ← hD, q2, Option.bind_some, decide_true, decide_false, cond_true, cond_false]; rfl)]
    have w1 : IntKind.i64.wrap ((W : Int) - ((D.length : Nat) : Int)) = ((W - D.length : Nat) : Int) := by rw [i64_wrap (by omega) (by omega)]; omega
    refine run_until (step := M_comptoirlaw02_DigitsWide (v : Int) x1) (f := fun i => ((W : Int), List.replicate (W - D.length) 48 ++ D, 0, (i : Int))) (n := W - D.length) (fun i hi => ?_) ?_
    · have q3 : (i : Int) < ((W - D.length : Nat) : Int) := by omega
      have q4 : (0 : Int) ≤ (i : Int) := by omega
      have q5 : (i : Int) < (W : Int) := by omega
      have w2 : IntKind.i64.wrap ((i : Int) + 1) = ((i + 1 : Nat) : Int) := by rw [i64_wrap (by omega) (by omega)]; omega
      have g : (List.replicate (W - D.length) (48 : UInt8) ++ D).getD i 0 = 48 := by
        rw [List.getD_eq_getElem?_getD, List.getElem?_append_left (by simpa using hi)]
        simp [hi]
      have ne : (((48 : UInt8).toNat : Int) != 48) = false := by decide
      simp only [M_comptoirlaw02_DigitsWide, Tr.val_c, Tr.val_r, Int.toNat_natCast, ls, ← hD, w1, q3, q4, q5, w2, g, ne, decide_true, cond_true, cond_false]
    · have q3 : ¬ (((W - D.length : Nat) : Int) < ((W - D.length : Nat) : Int)) := by omega
      have q4 : (W : Int) ≤ (W : Int) := by omega
      have q5 : (0 : Int) ≤ ((W - D.length : Nat) : Int) := by omega
      have q6 : ((W - D.length : Nat) : Int) ≤ (W : Int) := by omega
      have e : List.drop (W - D.length) (List.take W (List.replicate (W - D.length) (48 : UInt8) ++ D)) = D := by
        rw [List.take_of_length_le (by rw [ls]; exact Nat.le_refl _)]
        have := List.drop_left (l₁ := List.replicate (W - D.length) (48 : UInt8)) (l₂ := D)
        rwa [List.length_replicate] at this
      simp only [M_comptoirlaw02_DigitsWide, Tr.val_c, Tr.val_r, val_opt, Int.toNat_natCast, ls, ← hD, w1, q3, q4, q5, q6, e, awake02, Option.bind_some, decide_true, decide_false, beq_self_eq_true, cond_true, cond_false]

end Go.Proofs.YtbgklljidmoahaaDoor
