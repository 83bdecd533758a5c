/- What the printed functions come to, plainly. -/
import Derived.Test.YtbgklljidmoahaaDoorYdG4
import Derived.Test.YtbgklljidmoahaaDoorCxAm
namespace Go.Proofs.YtbgklljidmoahaaDoor
open Go.Cx Go.Cx.AV
set_option linter.unusedSimpArgs false
set_option linter.unusedVariables false

theorem Bcd_123 : g_digits_Bcd [49, 50, 51] = some ([.int .u8 1, .int .u8 35], 0) := by
  have r : g_digits_Right [49, 50, 51] 0 100 = some true := by
    have a : g_digits_all_0fhas_ [49, 50, 51] [48, 49, 50, 51, 52, 53, 54, 55, 56, 57] = some true := run_some.2 ⟨10, by kernel_rfl⟩
    unfold g_digits_Right T_digits_Right; rw [a]; rfl
  unfold g_digits_Bcd T_digits_Bcd
  rw [r]
  exact run_some.2 ⟨10, by kernel_rfl⟩
theorem Hex_171 : g_digits_Hex [.int .u8 171] = some [65, 66] := run_some.2 ⟨10, by kernel_rfl⟩
theorem Right_5 : g_digits_Right [53] 1 1 = some true := by
  have a : g_digits_all_0fhas_ [53] [48, 49, 50, 51, 52, 53, 54, 55, 56, 57] = some true := run_some.2 ⟨10, by kernel_rfl⟩
  unfold g_digits_Right T_digits_Right; rw [a]; rfl
theorem awake02 : g_comptoirlaw02_awake = some true := by
  unfold g_comptoirlaw02_awake
  have e : bytesOf [AV.int .u8 1, .int .u8 35] = [1, 35] := by decide
  simp only [T_comptoirlaw02_awake, Tr.val_c, Tr.val_r, val_opt, Bcd_123, Hex_171, Right_5, e, Option.bind_some, beq_self_eq_true, cond_true]

/- numbers as digits -/
theorem digits_pos (v : Nat) : 1 ≤ (Go.Lib.decDigits v).length := by
  rw [Go.Lib.decDigits]; split <;> simp
theorem rep48 (k : Nat) : Go.Lib.repeatL [48] k = List.replicate k 48 := by
  induction k with
  | zero => rfl
  | succ k ih => rw [Go.Lib.repeatL, ih, List.replicate_succ]; rfl
/-- A number in so many digits. -/
def textS (v : Nat) (w : Int) : List UInt8 × Int :=
  if w < 1 ∨ 20 < w then ([], 1) else if w < (Go.Lib.decDigits v).length then ([], 4) else (List.replicate (w - (Go.Lib.decDigits v).length).toNat 48 ++ Go.Lib.decDigits v, 0)
theorem Text_eq (v : Nat) (hv : v < 18446744073709551616) (w : Int) : g_digits_Text (v : Int) w = some (textS v w) := by
  unfold g_digits_Text textS
  have q0 : (0 : Int) ≤ (v : Int) := by omega
  have q1 : (v : Int) < 18446744073709551616 := by omega
  have d := digits_pos v
  have d2 := nDigits_le v hv
  by_cases h1 : w < 1
  · rw [if_pos (.inl h1)]
    simp only [T_digits_Text, Tr.val_c, Tr.val_r, h1, decide_true, cond_true]
  · by_cases h2 : w > 20
    · rw [if_pos (.inr h2)]
      simp only [T_digits_Text, Tr.val_c, Tr.val_r, h1, h2, decide_true, decide_false, cond_true, cond_false]
    · rw [if_neg (by omega)]
      by_cases h3 : ((Go.Lib.decDigits v).length : Int) > w
      · rw [if_pos (by omega)]
        simp only [T_digits_Text, Tr.val_c, Tr.val_r, h1, h2, q0, q1, Int.toNat_natCast, h3, decide_true, decide_false, cond_true, cond_false]
      · rw [if_neg (by omega)]
        have w1 : IntKind.i64.wrap (w - ((Go.Lib.decDigits v).length : Int)) = w - ((Go.Lib.decDigits v).length : Int) := i64_wrap (by omega) (by omega)
        have q2 : (0 : Int) ≤ w - ((Go.Lib.decDigits v).length : Int) := by omega
        have q3 : w - ((Go.Lib.decDigits v).length : Int) ≤ 1000000000 := by omega
        have q4 : (List.replicate (w - ((Go.Lib.decDigits v).length : Int)).toNat (48 : UInt8)).length + (Go.Lib.decDigits v).length < 70368744177664 := by rw [List.length_replicate]; omega
        simp only [T_digits_Text, Tr.val_c, Tr.val_r, h1, h2, q0, q1, Int.toNat_natCast, h3, w1, q2, q3, rep48, q4, decide_true, decide_false, cond_true, cond_false]

/- signs -/
abbrev tens : List UInt8 := [48, 49, 50, 51, 52, 53, 54, 55, 56, 57]
abbrev sixteens : List UInt8 := [48, 49, 50, 51, 52, 53, 54, 55, 56, 57, 65, 66, 67, 68, 69, 70]
def dig (c : UInt8) : Bool := decide (48 ≤ c.toNat) && decide (c.toNat ≤ 57)
def hexd (c : UInt8) : Bool := dig c || (decide (65 ≤ c.toNat) && decide (c.toNat ≤ 70))
theorem has_tens (c : UInt8) : decide (Go.Lib.indexByte tens c ≥ 0) = dig c :=
  all_bytes (p := fun c => decide (Go.Lib.indexByte tens c ≥ 0) = dig c) (by decide +kernel) c
theorem all_tens (s : List UInt8) (hs : s.length < 9223372036854775807) : g_digits_all_0fhas_ s tens = some (s.all dig) := by
  unfold g_digits_all_0fhas_
  rw [run_inl (s := (0 : Int)) rfl]
  have := run_exit (step := M_digits_all_0fhas_ s tens) (f := fun i => (i : Int)) (p := fun i => dig (s.getD i 0)) (n := s.length) (e := false) (z := true) (fun i hi => by
    simp (disch := omega) [M_digits_all_0fhas_, Tr.val_c, Tr.val_r, hi, i64_wrap, has_tens]
    cases dig _ <;> rfl) (by
    simp [M_digits_all_0fhas_, Tr.val_c, Tr.val_r])
  exact this.trans (by rw [range_all s 0 dig]; cases s.all dig <;> rfl)
def right (s : List UInt8) (lo hi : Int) : Bool := decide (lo ≤ s.length) && decide ((s.length : Int) ≤ hi) && s.all dig
theorem Right_eq (s : List UInt8) (lo hi : Int) (hs : s.length < 9223372036854775807) : g_digits_Right s lo hi = some (right s lo hi) := by
  simp only [g_digits_Right, T_digits_Right, Tr.val_c, val_opt, all_tens s hs, Tr.val_r, right, Option.bind_some, cond_true, ge_iff_le]
  by_cases h1 : lo ≤ s.length <;> by_cases h2 : (s.length : Int) ≤ hi <;> simp [h1, h2]
/- lists by their heads -/
theorem take_one (s : List UInt8) (i : Nat) (h : i < s.length) : s.take (i + 1) = s.take i ++ [s.getD i 0] := by
  rw [List.take_succ_eq_append_getElem h, getD_lt h]
def pairs : List UInt8 → List (UInt8 × UInt8)
  | a :: b :: r => (a, b) :: pairs r
  | _ => []
theorem pairs_take : ∀ (s : List UInt8) (i : Nat), 2 * i + 1 < s.length → (pairs s).take (i + 1) = (pairs s).take i ++ [(s.getD (2 * i) 0, s.getD (2 * i + 1) 0)]
  | a :: b :: r, 0, _ => by simp [pairs]
  | a :: b :: r, i + 1, h => by
    have := pairs_take r i (by simp at h; omega)
    rw [pairs, List.take_succ_cons, this, List.take_succ_cons]
    rw [show 2 * (i + 1) = 2 * i + 1 + 1 by omega]
    simp
  | [a], i, h => by simp at h
  | [], i, h => by simp at h
theorem pairs_len : ∀ (s : List UInt8), (pairs s).length = s.length / 2
  | a :: b :: r => by simp [pairs, pairs_len r]; omega
  | [a] => by simp [pairs]
  | [] => by simp [pairs]

/- the number of digits -/
def numG (v : Int) (c : UInt8) : Int := IntKind.u64.wrap (IntKind.u64.wrap (v * 10) + IntKind.u64.wrap (IntKind.u8.wrap ((c.toNat : Int) - 48)))
def numV (s : List UInt8) : Int := s.foldl numG 0
theorem numV_take (s : List UInt8) (i : Nat) (h : i < s.length) : numV (s.take (i + 1)) = numG (numV (s.take i)) (s.getD i 0) := by
  rw [take_one s i h]; simp [numV]
def numS (s : List UInt8) : Int × Int := if right s 1 18 = true then (numV s, 0) else (0, 5)
theorem Number_eq (s : List UInt8) (hs : s.length < 9223372036854775807) : g_digits_Number s = some (numS s) := by
  unfold g_digits_Number numS
  cases hr : right s 1 18 with
  | false => rw [run_inr (x := (0, 5))]; rfl; simp [T_digits_Number, Tr.val_c, Tr.val_r, val_opt, Right_eq s _ _ hs, hr]
  | true =>
    rw [run_inl (s := (0, 0)) (by simp [T_digits_Number, Tr.val_c, Tr.val_r, val_opt, Right_eq s _ _ hs, hr])]
    have := run_until (step := M_digits_Number s) (f := fun i => (numV (s.take i), (i : Int))) (n := s.length) (x := (numV s, 0)) (fun i hi => by
      simp (disch := omega) [M_digits_Number, Tr.val_c, Tr.val_r, hi, i64_wrap, numV_take s i hi, numG]) (by
      simp [M_digits_Number, Tr.val_c, Tr.val_r])
    rw [if_pos rfl]; simpa [numV] using this

/- the reference's digits -/
theorem refRight_eq (s : List UInt8) (lo hi : Int) (hs : s.length < 9223372036854775807) : g_comptoirref01_Right s lo hi = some (right s lo hi) := by
  unfold g_comptoirref01_Right
  rw [run_inl (s := (0 : Int)) rfl]
  have := run_exit (step := M_comptoirref01_Right s lo hi) (f := fun i => (i : Int)) (p := fun i => dig (s.getD i 0)) (n := s.length) (e := false) (z := decide (lo ≤ s.length) && decide ((s.length : Int) ≤ hi)) (fun i hi' => by
    have q1 : (i : Int) < s.length := by omega
    have q2 : (0 : Int) ≤ i := by omega
    have w1 : IntKind.i64.wrap ((i : Int) + 1) = ((i + 1 : Nat) : Int) := by rw [i64_wrap (by omega) (by omega)]; rfl
    by_cases a1 : (s.getD i 0).toNat < 48
    · have a2 : ((s.getD i 0).toNat : Int) < 48 := by omega
      have d : dig (s.getD i 0) = false := by simp only [dig, Bool.and_eq_false_iff, decide_eq_false_iff_not]; omega
      simp only [M_comptoirref01_Right, Tr.val_c, Tr.val_r, q1, q2, Int.toNat_natCast, a2, decide_true, cond_true, d, Bool.false_eq_true, if_false]
    · have a2 : ¬ ((s.getD i 0).toNat : Int) < 48 := by omega
      by_cases a3 : (s.getD i 0).toNat > 57
      · have a4 : ((s.getD i 0).toNat : Int) > 57 := by omega
        have d : dig (s.getD i 0) = false := by simp only [dig, Bool.and_eq_false_iff, decide_eq_false_iff_not]; omega
        simp only [M_comptoirref01_Right, Tr.val_c, Tr.val_r, q1, q2, Int.toNat_natCast, a2, a4, decide_true, decide_false, cond_true, cond_false, d, Bool.false_eq_true, if_false]
      · have a4 : ¬ ((s.getD i 0).toNat : Int) > 57 := by omega
        have d : dig (s.getD i 0) = true := by simp only [dig, Bool.and_eq_true, decide_eq_true_eq]; omega
        simp only [M_comptoirref01_Right, Tr.val_c, Tr.val_r, q1, q2, Int.toNat_natCast, a2, a4, w1, decide_true, decide_false, cond_true, cond_false, d, if_true]) (by
    have q1 : ¬ ((s.length : Int) < s.length) := by omega
    by_cases h1 : lo ≤ s.length
    · simp only [M_comptoirref01_Right, Tr.val_c, Tr.val_r, q1, h1, ge_iff_le, decide_true, decide_false, cond_true, cond_false, Bool.true_and]
    · simp only [M_comptoirref01_Right, Tr.val_c, Tr.val_r, q1, h1, ge_iff_le, decide_true, decide_false, cond_true, cond_false, Bool.false_and])
  refine this.trans ?_
  rw [range_all s 0 dig, right]
  cases s.all dig <;> simp
theorem refNumber_eq (s : List UInt8) (hs : s.length < 9223372036854775807) : g_comptoirref01_Number s = some (numS s) := by
  rw [← Number_eq s hs]
  show run (M_comptoirref01_Number s) (T_comptoirref01_Number s) = run (M_digits_Number s) (T_digits_Number s)
  have e : T_comptoirref01_Number s = T_digits_Number s := by unfold T_comptoirref01_Number T_digits_Number; rw [refRight_eq s _ _ hs, Right_eq s _ _ hs]
  rw [e]; rfl
theorem refDigits_eq (v : Nat) (hv : v < 18446744073709551616) (w : Int) : g_comptoirref01_Digits (v : Int) w = some (textS v w) := by
  unfold g_comptoirref01_Digits textS
  have q0 : (0 : Int) ≤ (v : Int) := by omega
  have q1 : (v : Int) < 18446744073709551616 := by omega
  have d := digits_pos v
  have d2 := nDigits_le v hv
  by_cases h1 : w < 1
  · rw [if_pos (.inl h1)]
    exact run_inr (by simp only [T_comptoirref01_Digits, Tr.val_c, Tr.val_r, h1, decide_true, cond_true])
  · by_cases h2 : w > 20
    · rw [if_pos (.inr h2)]
      exact run_inr (by simp only [T_comptoirref01_Digits, Tr.val_c, Tr.val_r, h1, h2, decide_true, decide_false, cond_true, cond_false])
    · rw [if_neg (by omega)]
      by_cases h3 : ((Go.Lib.decDigits v).length : Int) > w
      · rw [if_pos (by omega)]
        exact run_inr (by simp only [T_comptoirref01_Digits, Tr.val_c, Tr.val_r, h1, h2, q0, q1, Int.toNat_natCast, h3, decide_true, decide_false, cond_true, cond_false])
      · rw [if_neg (by omega)]
        rw [run_inl (s := Go.Lib.decDigits v) (by simp only [T_comptoirref01_Digits, Tr.val_c, Tr.val_r, h1, h2, q0, q1, Int.toNat_natCast, h3, decide_true, decide_false, cond_true, cond_false])]
        generalize Go.Lib.decDigits v = D at *
        have := run_until (step := M_comptoirref01_Digits (v : Int) w) (f := fun i => List.replicate i (48 : UInt8) ++ D) (n := (w - D.length).toNat) (x := (List.replicate (w - D.length).toNat 48 ++ D, 0)) (fun i hi => by
          have a : ((List.replicate i (48 : UInt8) ++ D).length : Int) < w := by rw [List.length_append, List.length_replicate]; omega
          have b : 1 + (List.replicate i (48 : UInt8) ++ D).length < 70368744177664 := by rw [List.length_append, List.length_replicate]; omega
          simp only [M_comptoirref01_Digits, Tr.val_c, Tr.val_r, a, b, decide_true, cond_true]
          rfl) (by
          have a : ¬ ((List.replicate (w - D.length).toNat (48 : UInt8) ++ D).length : Int) < w := by rw [List.length_append, List.length_replicate]; omega
          simp only [M_comptoirref01_Digits, Tr.val_c, Tr.val_r, a, decide_false, cond_false])
        exact this

/- two digits a byte -/
def bcdF (x : UInt8 × UInt8) : AV := .int .u8 (bitsA .or .u8 (shlA .u8 (IntKind.u8.wrap ((x.1.toNat : Int) - 48)) 4) (IntKind.u8.wrap ((x.2.toNat : Int) - 48)))
def evn (s : List UInt8) : List UInt8 := if s.length % 2 = 1 then 48 :: s else s
def bcdS (s : List UInt8) : List AV × Int := if right s 0 100 = true then ((pairs (evn s)).map bcdF, 0) else ([], 5)
theorem Bcd_eq (s : List UInt8) (hs : s.length < 9223372036854775807) : g_digits_Bcd s = some (bcdS s) := by
  unfold g_digits_Bcd bcdS
  cases hr : right s 0 100 with
  | false => rw [run_inr (x := ([], 5))]; rfl; simp [T_digits_Bcd, Tr.val_c, Tr.val_r, val_opt, Right_eq s _ _ hs, hr]
  | true =>
    rw [if_pos rfl]
    have hlen : s.length ≤ 100 := by simp [right] at hr; omega
    have key : ∀ (x : List UInt8), x.length ≤ 102 → x.length % 2 = 0 → run (M_digits_Bcd s) (M_digits_Bcd s (x, 0, [])) = some ((pairs x).map bcdF, 0) := by
      intro x hx he
      have := run_until (step := M_digits_Bcd s) (f := fun i => (x, ((2 * i : Nat) : Int), ((pairs x).take i).map bcdF)) (n := x.length / 2) (x := ((pairs x).map bcdF, 0)) (fun i hi => by
        have h1 : (((2 * i : Nat) : Int) < x.length) := by omega
        have w1 : IntKind.i64.wrap (((2 * i : Nat) : Int) + 1) = ((2 * i + 1 : Nat) : Int) := by rw [i64_wrap (by omega) (by omega)]; rfl
        have w2 : IntKind.i64.wrap (((2 * i : Nat) : Int) + 2) = ((2 * (i + 1) : Nat) : Int) := by rw [i64_wrap (by omega) (by omega)]; omega
        have h2 : (((2 * i + 1 : Nat) : Int) < x.length) := by omega
        have h3 : (0 : Int) ≤ ((2 * i : Nat) : Int) := by omega
        have h4 : (0 : Int) ≤ ((2 * i + 1 : Nat) : Int) := by omega
        have h5 : ∀ y : AV, ((((pairs x).take i).map bcdF) ++ [y]).length * 2 < 70368744177664 := by
          intro y
          have : (((pairs x).take i).map bcdF).length ≤ i := by rw [List.length_map, List.length_take]; omega
          rw [List.length_append, List.length_singleton]; omega
        have e := congrArg (List.map bcdF) (pairs_take x i (by omega))
        rw [List.map_append, List.map_singleton] at e
        simp only [M_digits_Bcd, Tr.val_c, Tr.val_r, w1, w2, h1, h2, h3, h4, h5, e, bcdF, Int.toNat_natCast, beq_self_eq_true, decide_true, cond_true]) (by
        have h1 : ¬ (((2 * (x.length / 2) : Nat) : Int) < x.length) := by omega
        have e : (pairs x).take (x.length / 2) = pairs x := List.take_of_length_le (by rw [pairs_len]; omega)
        simp only [M_digits_Bcd, Tr.val_c, Tr.val_r, h1, e, beq_self_eq_true, decide_false, cond_true, cond_false])
      exact this
    unfold evn
    by_cases ho : s.length % 2 = 1
    · have h1 : (s.length : Int).tmod 2 = 1 := by rw [tmod_eq (by omega)]; omega
      have h2 : 1 + s.length < 70368744177664 := by omega
      rw [if_pos ho, run_inl (s := ([48] ++ s, 0, []))]
      · exact key ([48] ++ s) (by simp; omega) (by simp; omega)
      · simp only [T_digits_Bcd, Tr.val_c, Tr.val_r, val_opt, Right_eq s _ _ hs, hr, h1, h2, Option.bind_some, Bool.not_true, beq_self_eq_true, decide_true, cond_true, cond_false]
    · have h1 : ((s.length : Int).tmod 2 == 1) = false := by rw [tmod_eq (by omega)]; simp; omega
      rw [if_neg ho, run_inl (s := (s, 0, []))]
      · exact key s (by omega) (by omega)
      · simp only [T_digits_Bcd, Tr.val_c, Tr.val_r, val_opt, Right_eq s _ _ hs, hr, h1, Option.bind_some, Bool.not_true, cond_true, cond_false]

theorem refBcd_eq (s : List UInt8) (hs : s.length < 9223372036854775807) : g_comptoirref01_Bcd s = some (bcdS s) := by
  rw [← Bcd_eq s hs]
  show run (M_comptoirref01_Bcd s) (T_comptoirref01_Bcd s) = run (M_digits_Bcd s) (T_digits_Bcd s)
  have e : T_comptoirref01_Bcd s = T_digits_Bcd s := by unfold T_comptoirref01_Bcd T_digits_Bcd; rw [refRight_eq s _ _ hs, Right_eq s _ _ hs]
  rw [e]; rfl

/- a byte's halves -/
theorem shr4 (c : UInt8) : shrA .u8 (c.toNat : Int) 4 = ((c.toNat / 16 : Nat) : Int) :=
  all_bytes (p := fun c => shrA .u8 (c.toNat : Int) 4 = ((c.toNat / 16 : Nat) : Int)) (by decide +kernel) c
theorem and15 (c : UInt8) : bitsA .and .u8 (c.toNat : Int) 15 = ((c.toNat % 16 : Nat) : Int) :=
  all_bytes (p := fun c => bitsA .and .u8 (c.toNat : Int) 15 = ((c.toNat % 16 : Nat) : Int)) (by decide +kernel) c
theorem hi_lt (c : UInt8) : c.toNat / 16 < 16 := by have := c.toNat_lt; omega
theorem lo_lt (c : UInt8) : c.toNat % 16 < 16 := by omega
/- the digits of bytes -/
def half (k : Nat) : UInt8 := UInt8.ofNat (48 + k)
theorem wrap48 (k : Nat) (h : k < 16) : AV.int .u8 (IntKind.u8.wrap (48 + (k : Int))) = .int .u8 ((half k).toNat : Int) := by
  have : IntKind.u8.wrap (48 + (k : Int)) = 48 + (k : Int) := by rw [u8_mod]; omega
  rw [this, half, UInt8.toNat_ofNat_of_lt' (by simp [UInt8.size]; omega)]
  norm_cast
def halvesL (b : List UInt8) : List UInt8 := b.flatMap fun c => [half (c.toNat / 16), half (c.toNat % 16)]
theorem halvesL_len (b : List UInt8) : (halvesL b).length = 2 * b.length := by
  induction b with
  | nil => rfl
  | cons c r ih =>
    rw [halvesL, List.flatMap_cons, List.length_append]
    show 2 + (halvesL r).length = _
    rw [ih, List.length_cons]; omega
theorem halvesL_take (b : List UInt8) (i : Nat) (h : i < b.length) : bl (halvesL (b.take (i + 1))) = bl (halvesL (b.take i)) ++ [.int .u8 ((half ((b.getD i 0).toNat / 16)).toNat : Int), .int .u8 ((half ((b.getD i 0).toNat % 16)).toNat : Int)] := by
  rw [take_one b i h, halvesL, List.flatMap_append, bl_append]; rfl
def okB (c : UInt8) : Bool := decide (c.toNat / 16 ≤ 9) && decide (c.toNat % 16 ≤ 9)
def unbcdS (b : List UInt8) (n : Int) : List UInt8 × Int :=
  if n < 0 ∨ (n ≠ 2 * b.length ∧ n ≠ 2 * b.length - 1) then ([], 1) else if b.all okB = true then
    (if n = 2 * b.length then (halvesL b, 0) else if (halvesL b).getD 0 0 = 48 then ((halvesL b).drop 1, 0) else ([], 5)) else ([], 5)

theorem UnBcd_eq (b : List UInt8) (hb : b.length < 1000000) (n : Int) (hn0 : -9223372036854775808 ≤ n) (hn : n < 9223372036854775808) : g_digits_UnBcd (bl b) n = some (unbcdS b n) := by
  unfold g_digits_UnBcd unbcdS
  have w0 : IntKind.i64.wrap (2 * (b.length : Int)) = 2 * (b.length : Int) := i64_wrap (by omega) (by omega)
  by_cases h0 : n < 0
  · rw [if_pos (.inl h0)]
    exact run_inr (by simp only [T_digits_UnBcd, Tr.val_c, Tr.val_r, h0, decide_true, cond_true])
  · have w1 : IntKind.i64.wrap (2 * (b.length : Int) - n) = 2 * (b.length : Int) - n := i64_wrap (by omega) (by omega)
    by_cases h1 : n ≠ 2 * b.length ∧ n ≠ 2 * b.length - 1
    · rw [if_pos (.inr h1)]
      by_cases h2 : 2 * (b.length : Int) - n < 0
      · exact run_inr (by simp only [T_digits_UnBcd, Tr.val_c, Tr.val_r, bl_length, w0, w1, h0, h2, decide_true, decide_false, cond_true, cond_false])
      · have h3 : 2 * (b.length : Int) - n > 1 := by omega
        exact run_inr (by simp only [T_digits_UnBcd, Tr.val_c, Tr.val_r, bl_length, w0, w1, h0, h2, h3, decide_true, decide_false, cond_true, cond_false])
    · rw [if_neg (by simp only [not_or]; exact ⟨h0, h1⟩)]
      have h2 : ¬ 2 * (b.length : Int) - n < 0 := by omega
      have h3 : ¬ 2 * (b.length : Int) - n > 1 := by omega
      rw [run_inl (s := (2 * (b.length : Int) - n, 0, [])) (by simp only [T_digits_UnBcd, Tr.val_c, Tr.val_r, bl_length, w0, w1, h0, h2, h3, decide_false, cond_false])]
      have hl := halvesL_len b
      have := run_exit (step := M_digits_UnBcd (bl b) n) (f := fun i => (2 * (b.length : Int) - n, (i : Int), bl (halvesL (b.take i)))) (p := fun i => okB (b.getD i 0)) (n := b.length) (e := ([], 5))
        (z := if n = 2 * b.length then (halvesL b, 0) else if (halvesL b).getD 0 0 = 48 then ((halvesL b).drop 1, 0) else ([], 5)) (fun i hi => by
          have q1 : (i : Int) < b.length := by omega
          have q2 : (0 : Int) ≤ i := by omega
          have w2 : IntKind.i64.wrap ((i : Int) + 1) = ((i + 1 : Nat) : Int) := by rw [i64_wrap (by omega) (by omega)]; rfl
          have k1 := hi_lt (b.getD i 0)
          have k2 := lo_lt (b.getD i 0)
          have lim : ∀ y z : AV, (bl (halvesL (b.take i)) ++ [y, z]).length * 2 < 70368744177664 := by
            intro y z
            rw [List.length_append, bl_length, halvesL_len, List.length_take]
            simp only [List.length_cons, List.length_nil]; omega
          simp only [M_digits_UnBcd, Tr.val_c, Tr.val_r, bl_length, q1, q2, Int.toNat_natCast, bl_getD, getI_int, shr4, and15, decide_true, cond_true]
          by_cases a1 : (b.getD i 0).toNat / 16 > 9
          · have a2 : (((b.getD i 0).toNat / 16 : Nat) : Int) > 9 := by omega
            have d : okB (b.getD i 0) = false := by simp only [okB, Bool.and_eq_false_iff, decide_eq_false_iff_not]; omega
            simp only [a2, d, decide_true, cond_true, Bool.false_eq_true, if_false]
          · have a2 : ¬ (((b.getD i 0).toNat / 16 : Nat) : Int) > 9 := by omega
            by_cases a3 : (b.getD i 0).toNat % 16 > 9
            · have a4 : (((b.getD i 0).toNat % 16 : Nat) : Int) > 9 := by omega
              have d : okB (b.getD i 0) = false := by simp only [okB, Bool.and_eq_false_iff, decide_eq_false_iff_not]; omega
              simp only [a2, a4, d, decide_true, decide_false, cond_true, cond_false, Bool.false_eq_true, if_false]
            · have a4 : ¬ (((b.getD i 0).toNat % 16 : Nat) : Int) > 9 := by omega
              have d : okB (b.getD i 0) = true := by simp only [okB, Bool.and_eq_true, decide_eq_true_eq]; omega
              have l2 := lim (.int .u8 ((half ((b.getD i 0).toNat / 16)).toNat : Int)) (.int .u8 ((half ((b.getD i 0).toNat % 16)).toNat : Int))
              simp only [a2, a4, d, w2, wrap48 _ k1, wrap48 _ k2, l2, halvesL_take b i hi, beq_self_eq_true, decide_true, decide_false, cond_true, cond_false, if_true]) (by
          have q1 : ¬ ((b.length : Int) < b.length) := by omega
          have L : ((halvesL b).length : Int) ≤ (halvesL b).length := Int.le_refl _
          by_cases e1 : n = 2 * b.length
          · have i1 : (2 * (b.length : Int) - n == 1) = false := by simp; omega
            have i2 : (0 : Int) ≤ 2 * (b.length : Int) - n := by omega
            have i3 : 2 * (b.length : Int) - n ≤ (halvesL b).length := by omega
            have i4 : (2 * (b.length : Int) - n).toNat = 0 := by omega
            rw [if_pos e1]
            simp only [M_digits_UnBcd, Tr.val_c, Tr.val_r, bl_length, List.take_length, q1, i1, i2, i3, i4, L, bl_take, bl_drop, bytesOf_bl', List.drop_zero, beq_self_eq_true, decide_true, decide_false, cond_true, cond_false]
          · have e2 : n = 2 * b.length - 1 := by omega
            have i1 : (2 * (b.length : Int) - n == 1) = true := by simp; omega
            have i2 : (0 : Int) ≤ 2 * (b.length : Int) - n := by omega
            have i3 : 2 * (b.length : Int) - n ≤ (halvesL b).length := by omega
            have i4 : (2 * (b.length : Int) - n).toNat = 1 := by omega
            have i5 : (0 : Int) < (halvesL b).length := by omega
            have i6 : 0 < (halvesL b).length := by omega
            rw [if_neg e1]
            by_cases e3 : (halvesL b).getD 0 0 = 48
            · have i7 : ((((halvesL b).getD 0 0).toNat : Int) != 48) = false := by rw [e3]; rfl
              rw [if_pos e3]
              simp only [M_digits_UnBcd, Tr.val_c, Tr.val_r, bl_length, List.take_length, q1, i1, i2, i3, i4, i5, i6, i7, L, bl_getD, getI_int, bl_take, bl_drop, bytesOf_bl', beq_self_eq_true, decide_true, decide_false, cond_true, cond_false]
            · have i7 : ((((halvesL b).getD 0 0).toNat : Int) != 48) = true := by
                simp only [bne_iff_ne, ne_eq]; intro h; exact e3 (UInt8.toNat_inj.1 (by rw [show (48 : UInt8).toNat = 48 from rfl]; omega))
              rw [if_neg e3]
              simp only [M_digits_UnBcd, Tr.val_c, Tr.val_r, bl_length, List.take_length, q1, i1, i2, i3, i4, i5, i6, i7, L, bl_getD, getI_int, beq_self_eq_true, decide_true, decide_false, cond_true, cond_false])
      refine this.trans ?_
      rw [range_all b 0 okB]

theorem refUnBcd_eq (b : List UInt8) (hb : b.length < 1000000) (n : Int) (hn0 : -9223372036854775808 ≤ n) (hn : n < 9223372036854775808) : g_comptoirref01_UnBcd (bl b) n = some (unbcdS b n) := by
  unfold g_comptoirref01_UnBcd unbcdS
  have w0 : IntKind.i64.wrap (2 * (b.length : Int)) = 2 * (b.length : Int) := i64_wrap (by omega) (by omega)
  by_cases h0 : n < 0
  · rw [if_pos (.inl h0)]
    exact run_inr (by simp only [T_comptoirref01_UnBcd, Tr.val_c, Tr.val_r, h0, decide_true, cond_true])
  · have w1 : IntKind.i64.wrap (2 * (b.length : Int) - 1) = 2 * (b.length : Int) - 1 := i64_wrap (by omega) (by omega)
    by_cases h1 : n ≠ 2 * b.length ∧ n ≠ 2 * b.length - 1
    · rw [if_pos (.inr h1)]
      have h2 : (n != 2 * (b.length : Int)) = true := by simp; exact h1.1
      have h3 : (n != 2 * (b.length : Int) - 1) = true := by simp; exact h1.2
      exact run_inr (by simp only [T_comptoirref01_UnBcd, Tr.val_c, Tr.val_r, bl_length, w0, w1, h0, h2, h3, decide_true, decide_false, cond_true, cond_false])
    · rw [if_neg (by simp only [not_or]; exact ⟨h0, h1⟩)]
      have e0 : (T_comptoirref01_UnBcd (bl b) n).val = some (.inl (0, [])) := by
        by_cases h2 : n = 2 * b.length
        · have h3 : (n != 2 * (b.length : Int)) = false := by simp; exact h2
          simp only [T_comptoirref01_UnBcd, Tr.val_c, Tr.val_r, bl_length, w0, w1, h0, h3, decide_false, cond_false]
        · have h3 : (n != 2 * (b.length : Int)) = true := by simp; exact h2
          have h4 : (n != 2 * (b.length : Int) - 1) = false := by simp; omega
          simp only [T_comptoirref01_UnBcd, Tr.val_c, Tr.val_r, bl_length, w0, w1, h0, h3, h4, decide_false, cond_true, cond_false]
      rw [run_inl e0]
      have hl := halvesL_len b
      have := run_exit (step := M_comptoirref01_UnBcd (bl b) n) (f := fun i => ((i : Int), bl (halvesL (b.take i)))) (p := fun i => okB (b.getD i 0)) (n := b.length) (e := ([], 5))
        (z := if n = 2 * b.length then (halvesL b, 0) else if (halvesL b).getD 0 0 = 48 then ((halvesL b).drop 1, 0) else ([], 5)) (fun i hi => by
          have q1 : (i : Int) < b.length := by omega
          have q2 : (0 : Int) ≤ i := by omega
          have w2 : IntKind.i64.wrap ((i : Int) + 1) = ((i + 1 : Nat) : Int) := by rw [i64_wrap (by omega) (by omega)]; rfl
          have k1 := hi_lt (b.getD i 0)
          have k2 := lo_lt (b.getD i 0)
          have lim : ∀ y z : AV, (bl (halvesL (b.take i)) ++ [y, z]).length * 2 < 70368744177664 := by
            intro y z
            rw [List.length_append, bl_length, halvesL_len, List.length_take]
            simp only [List.length_cons, List.length_nil]; omega
          simp only [M_comptoirref01_UnBcd, Tr.val_c, Tr.val_r, bl_length, q1, q2, Int.toNat_natCast, bl_getD, getI_int, shr4, and15, decide_true, cond_true]
          by_cases a1 : (b.getD i 0).toNat / 16 > 9
          · have a2 : (((b.getD i 0).toNat / 16 : Nat) : Int) > 9 := by omega
            have d : okB (b.getD i 0) = false := by simp only [okB, Bool.and_eq_false_iff, decide_eq_false_iff_not]; omega
            simp only [a2, d, decide_true, cond_true, Bool.false_eq_true, if_false]
          · have a2 : ¬ (((b.getD i 0).toNat / 16 : Nat) : Int) > 9 := by omega
            by_cases a3 : (b.getD i 0).toNat % 16 > 9
            · have a4 : (((b.getD i 0).toNat % 16 : Nat) : Int) > 9 := by omega
              have d : okB (b.getD i 0) = false := by simp only [okB, Bool.and_eq_false_iff, decide_eq_false_iff_not]; omega
              simp only [a2, a4, d, decide_true, decide_false, cond_true, cond_false, Bool.false_eq_true, if_false]
            · have a4 : ¬ (((b.getD i 0).toNat % 16 : Nat) : Int) > 9 := by omega
              have d : okB (b.getD i 0) = true := by simp only [okB, Bool.and_eq_true, decide_eq_true_eq]; omega
              have l2 := lim (.int .u8 ((half ((b.getD i 0).toNat / 16)).toNat : Int)) (.int .u8 ((half ((b.getD i 0).toNat % 16)).toNat : Int))
              simp only [a2, a4, d, w2, wrap48 _ k1, wrap48 _ k2, l2, halvesL_take b i hi, beq_self_eq_true, decide_true, decide_false, cond_true, cond_false, if_true]) (by
          have q1 : ¬ ((b.length : Int) < b.length) := by omega
          have L : ((halvesL b).length : Int) ≤ (halvesL b).length := Int.le_refl _
          by_cases e1 : n = 2 * b.length
          · have i1 : ¬ n < (halvesL b).length := by omega
            rw [if_pos e1]
            simp only [M_comptoirref01_UnBcd, Tr.val_c, Tr.val_r, bl_length, List.take_length, q1, i1, bytesOf_bl', beq_self_eq_true, decide_true, decide_false, cond_true, cond_false]
          · have e2 : n = 2 * b.length - 1 := by omega
            have i1 : n < (halvesL b).length := by omega
            have i3 : (1 : Int) ≤ (halvesL b).length := by omega
            have i5 : (0 : Int) < (halvesL b).length := by omega
            have i6 : 0 < (halvesL b).length := by omega
            rw [if_neg e1]
            by_cases e3 : (halvesL b).getD 0 0 = 48
            · have i7 : ((((halvesL b).getD 0 0).toNat : Int) != 48) = false := by rw [e3]; rfl
              rw [if_pos e3]
              simp only [M_comptoirref01_UnBcd, Tr.val_c, Tr.val_r, bl_length, List.take_length, q1, i1, i3, i5, i6, i7, L, bl_getD, getI_int, bl_take, bl_drop, bytesOf_bl', beq_self_eq_true, decide_true, decide_false, cond_true, cond_false]
            · have i7 : ((((halvesL b).getD 0 0).toNat : Int) != 48) = true := by
                simp only [bne_iff_ne, ne_eq]; intro h; exact e3 (UInt8.toNat_inj.1 (by rw [show (48 : UInt8).toNat = 48 from rfl]; omega))
              rw [if_neg e3]
              simp only [M_comptoirref01_UnBcd, Tr.val_c, Tr.val_r, bl_length, List.take_length, q1, i1, i3, i5, i6, i7, L, bl_getD, getI_int, beq_self_eq_true, decide_true, decide_false, cond_true, cond_false])
      refine this.trans ?_
      rw [range_all b 0 okB]

/- signs of sixteen -/
def sx (k : Nat) : UInt8 := sixteens.getD k 0
def hexS (b : List UInt8) : List UInt8 := b.flatMap fun c => [sx (c.toNat / 16), sx (c.toNat % 16)]
theorem hexS_len (b : List UInt8) : (hexS b).length = 2 * b.length := by
  induction b with
  | nil => rfl
  | cons c r ih =>
    rw [hexS, List.flatMap_cons, List.length_append]
    show 2 + (hexS r).length = _
    rw [ih, List.length_cons]; omega
theorem hexS_take (b : List UInt8) (i : Nat) (h : i < b.length) : hexS (b.take (i + 1)) = hexS (b.take i) ++ [sx ((b.getD i 0).toNat / 16), sx ((b.getD i 0).toNat % 16)] := by
  rw [take_one b i h, hexS, List.flatMap_append]; rfl
theorem WriteByte_eq (c : UInt8) (l : List UInt8) (h : l.length < 1000000) : g_strings_Builder_WriteByte_p05p0 (c.toNat : Int) (bl l) = some (bl (l ++ [c])) := by
  have h2 : (bl l ++ [AV.int .u8 (c.toNat : Int)]).length * 2 < 70368744177664 := by simp; omega
  unfold g_strings_Builder_WriteByte_p05p0 T_strings_Builder_WriteByte_p05p0
  simp only [Tr.val_c, Tr.val_r, h2, beq_self_eq_true, decide_true, cond_true]
  rw [bl_append]; rfl
theorem Hex_eq (b : List UInt8) (hb : b.length < 10000) : g_digits_Hex (bl b) = some (hexS b) := by
  unfold g_digits_Hex
  rw [run_inl (s := (.inl (()))) rfl]
  cases b with
  | nil => exact run_inr (by simp [M_digits_Hex, Tr.val_c, Tr.val_r, hexS])
  | cons c r =>
    have step : ∀ i, i < (c :: r).length → ∀ l, l.length < 100000 → (M_digits_Hex (bl (c :: r)) (.inr ((i : Int), bl l))).val = some (.inl (.inr (((i + 1 : Nat) : Int), bl (l ++ [sx (((c :: r).getD i 0).toNat / 16)] ++ [sx (((c :: r).getD i 0).toNat % 16)])))) := by
      intro i hi l hl
      generalize c :: r = b at *
      have q1 : (i : Int) < b.length := by omega
      have q2 : (0 : Int) ≤ i := by omega
      have w2 : IntKind.i64.wrap ((i : Int) + 1) = ((i + 1 : Nat) : Int) := by rw [i64_wrap (by omega) (by omega)]; rfl
      have k1 : (((b.getD i 0).toNat / 16 : Nat) : Int) < 16 := by have := hi_lt (b.getD i 0); omega
      have k2 : (((b.getD i 0).toNat % 16 : Nat) : Int) < 16 := by have := lo_lt (b.getD i 0); omega
      have k3 : (0 : Int) ≤ (((b.getD i 0).toNat / 16 : Nat) : Int) := by omega
      have e1 := WriteByte_eq (sx ((b.getD i 0).toNat / 16)) l (by omega)
      have e2 := WriteByte_eq (sx ((b.getD i 0).toNat % 16)) (l ++ [sx ((b.getD i 0).toNat / 16)]) (by simp; omega)
      unfold sx at e1 e2 ⊢
      simp only [M_digits_Hex, Tr.val_c, Tr.val_r, val_opt, bl_length, q1, q2, w2, Int.toNat_natCast, bl_getD, getI_int, shr4, and15, k1, k2, k3, e1, e2, Option.bind_some, beq_self_eq_true, decide_true, cond_true]
    have first : (M_digits_Hex (bl (c :: r)) (.inl (()))).val = some (.inl (.inr (((1 : Nat) : Int), bl (hexS ((c :: r).take 1))))) := by
      have q1 : (0 : Int) < (c :: r).length := by simp only [List.length_cons]; omega
      have k1 : ((c.toNat / 16 : Nat) : Int) < 16 := by have := hi_lt c; omega
      have k2 : ((c.toNat % 16 : Nat) : Int) < 16 := by have := lo_lt c; omega
      have k3 : (0 : Int) ≤ ((c.toNat / 16 : Nat) : Int) := by omega
      have e0 : (c :: r).getD 0 0 = c := rfl
      simp only [M_digits_Hex, Tr.val_c, Tr.val_r, bl_length, q1, bl_getD, e0, getI_int, shr4, and15, k1, k2, k3, Int.toNat_natCast, decide_true, cond_true]
      rfl
    rw [run_inl first]
    have := run_until (step := M_digits_Hex (bl (c :: r))) (f := fun i => (.inr (((i + 1 : Nat) : Int), bl (hexS ((c :: r).take (i + 1)))))) (n := r.length) (x := hexS (c :: r)) (fun i hi => by
      have := step (i + 1) (by simp only [List.length_cons]; omega) (hexS ((c :: r).take (i + 1))) (by rw [hexS_len, List.length_take]; simp only [List.length_cons] at hb ⊢; omega)
      rw [this, hexS_take (c :: r) (i + 1) (by simp only [List.length_cons]; omega), List.append_assoc]; rfl) (by
      have q1 : ¬ (((r.length + 1 : Nat) : Int) < (c :: r).length) := by simp only [List.length_cons]; omega
      have t : (c :: r).take (r.length + 1) = c :: r := List.take_of_length_le (by simp)
      simp only [M_digits_Hex, Tr.val_c, Tr.val_r, bl_length, q1, t, bytesOf_bl', beq_self_eq_true, decide_false, cond_true, cond_false])
    exact this

theorem sx_cut (k : Nat) (h : k < 16) : List.drop k (List.take (IntKind.u8.wrap ((k : Int) + 1)).toNat sixteens) = [sx k] :=
  (show ∀ k : Fin 16, List.drop k.val (List.take (IntKind.u8.wrap ((k.val : Int) + 1)).toNat sixteens) = [sx k.val] by decide +kernel) ⟨k, h⟩
theorem refHex_eq (b : List UInt8) (hb : b.length < 10000) : g_comptoirref01_Hex (bl b) = some (hexS b) := by
  unfold g_comptoirref01_Hex
  rw [run_inl (s := ([], 0)) rfl]
  have := run_until (step := M_comptoirref01_Hex (bl b)) (f := fun i => (hexS (b.take i), (i : Int))) (n := b.length) (x := hexS b) (fun i hi => by
    have q1 : (i : Int) < b.length := by omega
    have q2 : (0 : Int) ≤ i := by omega
    have w2 : IntKind.i64.wrap ((i : Int) + 1) = ((i + 1 : Nat) : Int) := by rw [i64_wrap (by omega) (by omega)]; rfl
    have k1 := hi_lt (b.getD i 0)
    have k2 := lo_lt (b.getD i 0)
    have c1 := sx_cut _ k1
    have c2 := sx_cut _ k2
    have ws : ∀ k : Nat, k < 16 → 0 ≤ IntKind.u8.wrap ((k : Int) + 1) ∧ IntKind.u8.wrap ((k : Int) + 1) ≤ 16 ∧ (k : Int) ≤ IntKind.u8.wrap ((k : Int) + 1) := by
      intro k hk; rw [u8_mod]; omega
    have a1 := ws _ k1
    have a2 := ws _ k2
    have p1 : (0 : Int) ≤ (((b.getD i 0).toNat / 16 : Nat) : Int) := by omega
    have l1 : (hexS (b.take i)).length + 1 < 70368744177664 := by rw [hexS_len, List.length_take]; omega
    have l2 : (hexS (b.take i) ++ [sx ((b.getD i 0).toNat / 16)]).length + 1 < 70368744177664 := by rw [List.length_append, hexS_len, List.length_take, List.length_singleton]; omega
    simp only [M_comptoirref01_Hex, Tr.val_c, Tr.val_r, bl_length, q1, q2, w2, Int.toNat_natCast, bl_getD, getI_int, shr4, and15, a1.1, a1.2.1, a1.2.2, a2.1, a2.2.1, a2.2.2, p1, c1, c2, List.length_singleton, l1, l2, decide_true, cond_true]
    rw [hexS_take b i hi, List.append_assoc]; rfl) (by
    have q1 : ¬ ((b.length : Int) < b.length) := by omega
    simp only [M_comptoirref01_Hex, Tr.val_c, Tr.val_r, bl_length, List.take_length, q1, decide_false, cond_false])
  exact this

/- what a sign is -/
theorem has_sixteens (c : UInt8) : decide (Go.Lib.indexByte sixteens c ≥ 0) = hexd c :=
  all_bytes (p := fun c => decide (Go.Lib.indexByte sixteens c ≥ 0) = hexd c) (by decide +kernel) c
theorem all_hex (s : List UInt8) (hs : s.length < 9223372036854775807) : g_digits_all_0fUnHex1_p5fhas_ s = some (s.all hexd) := by
  unfold g_digits_all_0fUnHex1_p5fhas_
  rw [run_inl (s := (0 : Int)) rfl]
  have := run_exit (step := M_digits_all_0fUnHex1_p5fhas_ s) (f := fun i => (i : Int)) (p := fun i => hexd (s.getD i 0)) (n := s.length) (e := false) (z := true) (fun i hi => by
    simp (disch := omega) [M_digits_all_0fUnHex1_p5fhas_, Tr.val_c, Tr.val_r, hi, i64_wrap, has_sixteens]
    cases hexd _ <;> rfl) (by
    simp [M_digits_all_0fUnHex1_p5fhas_, Tr.val_c, Tr.val_r])
  exact this.trans (by rw [range_all s 0 hexd]; cases s.all hexd <;> rfl)
def hv (c : UInt8) : Nat := if c.toNat ≤ 57 then c.toNat - 48 else c.toNat - 55
theorem idx_hv (c : UInt8) : hexd c = true → Go.Lib.indexByte sixteens c = (hv c : Int) ∧ hv c < 16 :=
  all_bytes (p := fun c => hexd c = true → Go.Lib.indexByte sixteens c = (hv c : Int) ∧ hv c < 16) (by decide +kernel) c
theorem or_hv : ∀ x y : Fin 16, IntKind.u8.wrap (bitsA .or .i64 (shlA .i64 ((x.val : Nat) : Int) 4) ((y.val : Nat) : Int)) = ((16 * x.val + y.val : Nat) : Int) := by decide +kernel
def hexF (x : UInt8 × UInt8) : AV := .int .u8 ((16 * hv x.1 + hv x.2 : Nat) : Int)
def unhexS (s : List UInt8) : List AV × Int := if (decide (s.length % 2 = 0) && s.all hexd) = true then ((pairs s).map hexF, 0) else ([], 5)
theorem all_getD {p : UInt8 → Bool} {s : List UInt8} (h : s.all p = true) {i : Nat} (hi : i < s.length) : p (s.getD i 0) = true := by
  rw [getD_lt hi]; exact List.all_eq_true.1 h _ (List.getElem_mem hi)
theorem UnHex_eq (s : List UInt8) (hs : s.length < 1000000) : g_digits_UnHex s = some (unhexS s) := by
  unfold g_digits_UnHex unhexS
  have hs' : s.length < 9223372036854775807 := by omega
  by_cases ho : s.length % 2 = 0
  · have h1 : ((s.length : Int).tmod 2 == 1) = false := by rw [tmod_eq (by omega)]; simp; omega
    cases hr : s.all hexd with
    | false =>
      rw [if_neg (by simp)]
      exact run_inr (by simp only [T_digits_UnHex, Tr.val_c, Tr.val_r, val_opt, all_hex s hs', hr, h1, Option.bind_some, Bool.not_false, cond_true, cond_false])
    | true =>
      rw [if_pos (by simp [ho]), run_inl (s := (0, [])) (by simp only [T_digits_UnHex, Tr.val_c, Tr.val_r, val_opt, all_hex s hs', hr, h1, Option.bind_some, Bool.not_true, cond_true, cond_false])]
      have := run_until (step := M_digits_UnHex s) (f := fun i => (((2 * i : Nat) : Int), ((pairs s).take i).map hexF)) (n := s.length / 2) (x := ((pairs s).map hexF, 0)) (fun i hi => by
        have h1 : (((2 * i : Nat) : Int) < s.length) := by omega
        have w1 : IntKind.i64.wrap (((2 * i : Nat) : Int) + 1) = ((2 * i + 1 : Nat) : Int) := by rw [i64_wrap (by omega) (by omega)]; rfl
        have w2 : IntKind.i64.wrap (((2 * i : Nat) : Int) + 2) = ((2 * (i + 1) : Nat) : Int) := by rw [i64_wrap (by omega) (by omega)]; omega
        have h2 : (((2 * i + 1 : Nat) : Int) < s.length) := by omega
        have h3 : (0 : Int) ≤ ((2 * i : Nat) : Int) := by omega
        have h4 : (0 : Int) ≤ ((2 * i + 1 : Nat) : Int) := by omega
        have h5 : ∀ y : AV, ((((pairs s).take i).map hexF) ++ [y]).length * 2 < 70368744177664 := by
          intro y
          have : (((pairs s).take i).map hexF).length ≤ i := by rw [List.length_map, List.length_take]; omega
          rw [List.length_append, List.length_singleton]; omega
        have e := congrArg (List.map hexF) (pairs_take s i (by omega))
        rw [List.map_append, List.map_singleton] at e
        have v1 := idx_hv _ (all_getD hr (i := 2 * i) (by omega))
        have v2 := idx_hv _ (all_getD hr (i := 2 * i + 1) (by omega))
        have o := or_hv ⟨_, v1.2⟩ ⟨_, v2.2⟩
        simp only [M_digits_UnHex, Tr.val_c, Tr.val_r, w1, w2, h1, h2, h3, h4, toUInt8_toNat, Int.toNat_natCast, v1.1, v2.1, o, h5, e, hexF, beq_self_eq_true, decide_true, cond_true]) (by
        have h1 : ¬ (((2 * (s.length / 2) : Nat) : Int) < s.length) := by omega
        have e : (pairs s).take (s.length / 2) = pairs s := List.take_of_length_le (by rw [pairs_len]; omega)
        simp only [M_digits_UnHex, Tr.val_c, Tr.val_r, h1, e, beq_self_eq_true, decide_false, cond_true, cond_false])
      exact this
  · have h1 : ((s.length : Int).tmod 2 == 1) = true := by rw [tmod_eq (by omega)]; simp; omega
    rw [if_neg (by simp [ho])]
    exact run_inr (by simp only [T_digits_UnHex, Tr.val_c, Tr.val_r, h1, cond_true])

theorem sign_eq (c : UInt8) : g_comptoirref01_sign (c.toNat : Int) = some (if hexd c = true then (hv c : Int) else 16) := by
  have key : ∀ c : UInt8, (T_comptoirref01_sign (c.toNat : Int)).val = some (if hexd c = true then (hv c : Int) else 16) := fun c =>
    all_bytes (p := fun c => (T_comptoirref01_sign (c.toNat : Int)).val = some (if hexd c = true then (hv c : Int) else 16)) (by
      unfold T_comptoirref01_sign
      decide +kernel) c
  exact key c
theorem or8_hv : ∀ x y : Fin 16, bitsA .or .u8 (shlA .u8 ((x.val : Nat) : Int) 4) ((y.val : Nat) : Int) = ((16 * x.val + y.val : Nat) : Int) := by decide +kernel
theorem all_pairs {p : UInt8 → Bool} : ∀ (s : List UInt8), s.length % 2 = 0 → (pairs s).all (fun x => p x.1 && p x.2) = s.all p
  | a :: b :: r, h => by
    rw [pairs, List.all_cons, List.all_cons, List.all_cons, all_pairs r (by simp only [List.length_cons] at h; omega), Bool.and_assoc]
  | [a], h => by simp at h
  | [], _ => rfl
theorem pairs_getD : ∀ (s : List UInt8) (i : Nat), 2 * i + 1 < s.length → (pairs s).getD i (0, 0) = (s.getD (2 * i) 0, s.getD (2 * i + 1) 0)
  | a :: b :: r, 0, _ => by simp [pairs]
  | a :: b :: r, i + 1, h => by
    have := pairs_getD r i (by simp at h; omega)
    rw [pairs, show 2 * (i + 1) = 2 * i + 1 + 1 by omega]
    simpa using this
  | [a], i, h => by simp at h
  | [], i, h => by simp at h
theorem refUnHex_eq (s : List UInt8) (hs : s.length < 1000000) : g_comptoirref01_UnHex s = some (unhexS s) := by
  unfold g_comptoirref01_UnHex unhexS
  by_cases ho : s.length % 2 = 0
  · have h1 : ((s.length : Int).tmod 2 != 0) = false := by rw [tmod_eq (by omega)]; simp; omega
    rw [run_inl (s := (0, [])) (by simp only [T_comptoirref01_UnHex, Tr.val_c, Tr.val_r, h1, cond_false])]
    have := run_exit (step := M_comptoirref01_UnHex s) (f := fun i => (((2 * i : Nat) : Int), ((pairs s).take i).map hexF)) (p := fun i => (fun x : UInt8 × UInt8 => hexd x.1 && hexd x.2) ((pairs s).getD i (0, 0))) (n := (pairs s).length) (e := ([], 5)) (z := ((pairs s).map hexF, 0)) (fun i hi' => by
      rw [pairs_len] at hi'
      have h1 : (((2 * i : Nat) : Int) < s.length) := by omega
      have w1 : IntKind.i64.wrap (((2 * i : Nat) : Int) + 1) = ((2 * i + 1 : Nat) : Int) := by rw [i64_wrap (by omega) (by omega)]; rfl
      have w2 : IntKind.i64.wrap (((2 * i : Nat) : Int) + 2) = ((2 * (i + 1) : Nat) : Int) := by rw [i64_wrap (by omega) (by omega)]; omega
      have h2 : (((2 * i + 1 : Nat) : Int) < s.length) := by omega
      have h3 : (0 : Int) ≤ ((2 * i : Nat) : Int) := by omega
      have h4 : (0 : Int) ≤ ((2 * i + 1 : Nat) : Int) := by omega
      have h5 : ∀ y : AV, ((((pairs s).take i).map hexF) ++ [y]).length * 2 < 70368744177664 := by
        intro y
        have : (((pairs s).take i).map hexF).length ≤ i := by rw [List.length_map, List.length_take]; omega
        rw [List.length_append, List.length_singleton]; omega
      have e := congrArg (List.map hexF) (pairs_take s i (by omega))
      rw [List.map_append, List.map_singleton] at e
      simp only [M_comptoirref01_UnHex, Tr.val_c, Tr.val_r, val_opt, w1, w2, h1, h2, h3, h4, Int.toNat_natCast, sign_eq, Option.bind_some, pairs_getD s i (by omega), decide_true, cond_true]
      cases d1 : hexd (s.getD (2 * i) 0) with
      | false => rfl
      | true =>
        have v1 := idx_hv _ d1
        have g1 : ¬ ((hv (s.getD (2 * i) 0) : Int) > 15) := by omega
        cases d2 : hexd (s.getD (2 * i + 1) 0) with
        | false => simp only [g1, if_true, decide_false, cond_false]; rfl
        | true =>
          have v2 := idx_hv _ d2
          have g2 : ¬ ((hv (s.getD (2 * i + 1) 0) : Int) > 15) := by omega
          have o := or8_hv ⟨_, v1.2⟩ ⟨_, v2.2⟩
          simp only [g1, g2, o, h5, e, hexF, beq_self_eq_true, Bool.and_self, if_true, decide_true, decide_false, cond_true, cond_false]) (by
      have h1 : ¬ (((2 * (pairs s).length : Nat) : Int) < s.length) := by rw [pairs_len]; omega
      simp only [M_comptoirref01_UnHex, Tr.val_c, Tr.val_r, h1, List.take_length, beq_self_eq_true, decide_false, cond_true, cond_false])
    refine this.trans ?_
    have r : (List.range (pairs s).length).all (fun i => (fun x : UInt8 × UInt8 => hexd x.1 && hexd x.2) ((pairs s).getD i (0, 0))) = (pairs s).all (fun x => hexd x.1 && hexd x.2) := range_all (pairs s) (0, 0) (fun x : UInt8 × UInt8 => hexd x.1 && hexd x.2)
    rw [r, all_pairs s ho]
    simp [ho]
  · have h1 : ((s.length : Int).tmod 2 != 0) = true := by rw [tmod_eq (by omega)]; simp; omega
    rw [if_neg (by simp [ho])]
    exact run_inr (by simp only [T_comptoirref01_UnHex, Tr.val_c, Tr.val_r, h1, cond_true])

theorem beq_refl' {α : Type} [BEq α] [LawfulBEq α] (x : α) : (x == x) = true := beq_self_eq_true x
theorem dtell_eq (s : List UInt8) (x1 : Int) (h1 : -9223372036854775808 ≤ x1) (h1' : x1 < 9223372036854775808) (x2 : Int) (v : Nat) (hv : v < 18446744073709551616) (x4 : Int) (b : List UInt8) : g_comptoirlaw02_DigitsTell s x1 x2 (v : Int) x4 (bl b) = some true := by
  unfold g_comptoirlaw02_DigitsTell
  have a : ∀ c : Bool, (T_comptoirlaw02_DigitsTell s x1 x2 (v : Int) x4 (bl b)).val = some (.inl (decide ((s.length : Int) > 300) || decide ((b.length : Int) > 300))) := by
    intro _
    by_cases q : (s.length : Int) > 300
    · simp only [T_comptoirlaw02_DigitsTell, Tr.val_c, Tr.val_r, bl_length, q, decide_true, cond_true, Bool.true_or]
    · simp only [T_comptoirlaw02_DigitsTell, Tr.val_c, Tr.val_r, bl_length, q, decide_false, cond_false, Bool.false_or]
  rw [run_inl (a true)]
  by_cases q : (s.length : Int) > 300 ∨ (b.length : Int) > 300
  · have e : (decide ((s.length : Int) > 300) || decide ((b.length : Int) > 300)) = true := by simpa using q
    rw [e]
    exact run_inr (by simp only [M_comptoirlaw02_DigitsTell, Tr.val_c, Tr.val_r, val_opt, awake02, Option.bind_some, cond_true])
  · have e : (decide ((s.length : Int) > 300) || decide ((b.length : Int) > 300)) = false := by simpa using q
    rw [e]
    have hs : s.length < 9223372036854775807 := by omega
    exact run_inr (by
      simp only [M_comptoirlaw02_DigitsTell, Tr.val_c, Tr.val_r, val_opt, awake02, Option.bind_some, cond_true, cond_false, Number_eq s hs, refNumber_eq s hs, Text_eq v hv x4, refDigits_eq v hv x4, Bcd_eq s hs, refBcd_eq s hs,
        UnBcd_eq b (by omega) x1 h1 h1', refUnBcd_eq b (by omega) x1 h1 h1', UnHex_eq s (by omega), refUnHex_eq s (by omega), Right_eq s x1 x2 hs, refRight_eq s x1 x2 hs, Hex_eq b (by omega), refHex_eq b (by omega), beq_refl'])

end Go.Proofs.YtbgklljidmoahaaDoor
