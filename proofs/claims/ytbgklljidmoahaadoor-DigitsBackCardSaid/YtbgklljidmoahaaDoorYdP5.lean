/- What the printed functions come to, plainly. -/
import Derived.Test.YtbgklljidmoahaaDoorYdG5
import Derived.Test.YtbgklljidmoahaaDoorCxAm
namespace Go.Proofs.YtbgklljidmoahaaDoor
open Go.Cx Go.Cx.AV
set_option linter.unusedSimpArgs false
set_option linter.unusedVariables false

theorem Bcd_123 : g_digits_Bcd [49, 50, 51] = some ([.int .u8 1, .int .u8 35], 0) := by
  have r : g_digits_Right [49, 50, 51] 0 100 = some true := by
    have a : g_digits_all_0fhas_ [49, 50, 51] [48, 49, 50, 51, 52, 53, 54, 55, 56, 57] = some true := run_some.2 ⟨10, by kernel_rfl⟩
    unfold g_digits_Right T_digits_Right; rw [a]; rfl
  unfold g_digits_Bcd T_digits_Bcd
  rw [r]
  exact run_some.2 ⟨10, by kernel_rfl⟩
theorem Hex_171 : g_digits_Hex [.int .u8 171] = some [65, 66] := run_some.2 ⟨10, by kernel_rfl⟩
theorem Right_5 : g_digits_Right [53] 1 1 = some true := by
  have a : g_digits_all_0fhas_ [53] [48, 49, 50, 51, 52, 53, 54, 55, 56, 57] = some true := run_some.2 ⟨10, by kernel_rfl⟩
  unfold g_digits_Right T_digits_Right; rw [a]; rfl
theorem awake02 : g_comptoirlaw02_awake = some true := by
  unfold g_comptoirlaw02_awake
  have e : bytesOf [AV.int .u8 1, .int .u8 35] = [1, 35] := by decide
  simp only [T_comptoirlaw02_awake, Tr.val_c, Tr.val_r, val_opt, Bcd_123, Hex_171, Right_5, e, Option.bind_some, beq_self_eq_true, cond_true]

/- numbers as digits -/
theorem digits_pos (v : Nat) : 1 ≤ (Go.Lib.decDigits v).length := by
  rw [Go.Lib.decDigits]; split <;> simp
theorem rep48 (k : Nat) : Go.Lib.repeatL [48] k = List.replicate k 48 := by
  induction k with
  | zero => rfl
  | succ k ih => rw [Go.Lib.repeatL, ih, List.replicate_succ]; rfl
/-- A number in so many digits. -/
def textS (v : Nat) (w : Int) : List UInt8 × Int :=
  if w < 1 ∨ 20 < w then ([], 1) else if w < (Go.Lib.decDigits v).length then ([], 4) else (List.replicate (w - (Go.Lib.decDigits v).length).toNat 48 ++ Go.Lib.decDigits v, 0)
theorem Text_eq (v : Nat) (hv : v < 18446744073709551616) (w : Int) : g_digits_Text (v : Int) w = some (textS v w) := by
  unfold g_digits_Text textS
  have q0 : (0 : Int) ≤ (v : Int) := by omega
  have q1 : (v : Int) < 18446744073709551616 := by omega
  have d := digits_pos v
  have d2 := nDigits_le v hv
  by_cases h1 : w < 1
  · rw [if_pos (.inl h1)]
    simp only [T_digits_Text, Tr.val_c, Tr.val_r, h1, decide_true, cond_true]
  · by_cases h2 : w > 20
    · rw [if_pos (.inr h2)]
      simp only [T_digits_Text, Tr.val_c, Tr.val_r, h1, h2, decide_true, decide_false, cond_true, cond_false]
    · rw [if_neg (by omega)]
      by_cases h3 : ((Go.Lib.decDigits v).length : Int) > w
      · rw [if_pos (by omega)]
        simp only [T_digits_Text, Tr.val_c, Tr.val_r, h1, h2, q0, q1, Int.toNat_natCast, h3, decide_true, decide_false, cond_true, cond_false]
      · rw [if_neg (by omega)]
        have w1 : IntKind.i64.wrap (w - ((Go.Lib.decDigits v).length : Int)) = w - ((Go.Lib.decDigits v).length : Int) := i64_wrap (by omega) (by omega)
        have q2 : (0 : Int) ≤ w - ((Go.Lib.decDigits v).length : Int) := by omega
        have q3 : w - ((Go.Lib.decDigits v).length : Int) ≤ 1000000000 := by omega
        have q4 : (List.replicate (w - ((Go.Lib.decDigits v).length : Int)).toNat (48 : UInt8)).length + (Go.Lib.decDigits v).length < 70368744177664 := by rw [List.length_replicate]; omega
        simp only [T_digits_Text, Tr.val_c, Tr.val_r, h1, h2, q0, q1, Int.toNat_natCast, h3, w1, q2, q3, rep48, q4, decide_true, decide_false, cond_true, cond_false]

/- signs -/
abbrev tens : List UInt8 := [48, 49, 50, 51, 52, 53, 54, 55, 56, 57]
abbrev sixteens : List UInt8 := [48, 49, 50, 51, 52, 53, 54, 55, 56, 57, 65, 66, 67, 68, 69, 70]
def dig (c : UInt8) : Bool := decide (48 ≤ c.toNat) && decide (c.toNat ≤ 57)
def hexd (c : UInt8) : Bool := dig c || (decide (65 ≤ c.toNat) && decide (c.toNat ≤ 70))
theorem has_tens (c : UInt8) : decide (Go.Lib.indexByte tens c ≥ 0) = dig c :=
  all_bytes (p := fun c => decide (Go.Lib.indexByte tens c ≥ 0) = dig c) (by decide +kernel) c
theorem all_tens (s : List UInt8) (hs : s.length < 9223372036854775807) : g_digits_all_0fhas_ s tens = some (s.all dig) := by
  unfold g_digits_all_0fhas_
  rw [run_inl (s := (0 : Int)) rfl]
  have := run_exit (step := M_digits_all_0fhas_ s tens) (f := fun i => (i : Int)) (p := fun i => dig (s.getD i 0)) (n := s.length) (e := false) (z := true) (fun i hi => by
    simp (disch := omega) [M_digits_all_0fhas_, Tr.val_c, Tr.val_r, hi, i64_wrap, has_tens]
    cases dig _ <;> rfl) (by
    simp [M_digits_all_0fhas_, Tr.val_c, Tr.val_r])
  exact this.trans (by rw [range_all s 0 dig]; cases s.all dig <;> rfl)
def right (s : List UInt8) (lo hi : Int) : Bool := decide (lo ≤ s.length) && decide ((s.length : Int) ≤ hi) && s.all dig
theorem Right_eq (s : List UInt8) (lo hi : Int) (hs : s.length < 9223372036854775807) : g_digits_Right s lo hi = some (right s lo hi) := by
  simp only [g_digits_Right, T_digits_Right, Tr.val_c, val_opt, all_tens s hs, Tr.val_r, right, Option.bind_some, cond_true, ge_iff_le]
  by_cases h1 : lo ≤ s.length <;> by_cases h2 : (s.length : Int) ≤ hi <;> simp [h1, h2]
/- lists by their heads -/
theorem take_one (s : List UInt8) (i : Nat) (h : i < s.length) : s.take (i + 1) = s.take i ++ [s.getD i 0] := by
  rw [List.take_succ_eq_append_getElem h, getD_lt h]
def pairs : List UInt8 → List (UInt8 × UInt8)
  | a :: b :: r => (a, b) :: pairs r
  | _ => []
theorem pairs_take : ∀ (s : List UInt8) (i : Nat), 2 * i + 1 < s.length → (pairs s).take (i + 1) = (pairs s).take i ++ [(s.getD (2 * i) 0, s.getD (2 * i + 1) 0)]
  | a :: b :: r, 0, _ => by simp [pairs]
  | a :: b :: r, i + 1, h => by
    have := pairs_take r i (by simp at h; omega)
    rw [pairs, List.take_succ_cons, this, List.take_succ_cons]
    rw [show 2 * (i + 1) = 2 * i + 1 + 1 by omega]
    simp
  | [a], i, h => by simp at h
  | [], i, h => by simp at h
theorem pairs_len : ∀ (s : List UInt8), (pairs s).length = s.length / 2
  | a :: b :: r => by simp [pairs, pairs_len r]; omega
  | [a] => by simp [pairs]
  | [] => by simp [pairs]

/- the number of digits -/
def numG (v : Int) (c : UInt8) : Int := IntKind.u64.wrap (IntKind.u64.wrap (v * 10) + IntKind.u64.wrap (IntKind.u8.wrap ((c.toNat : Int) - 48)))
def numV (s : List UInt8) : Int := s.foldl numG 0
theorem numV_take (s : List UInt8) (i : Nat) (h : i < s.length) : numV (s.take (i + 1)) = numG (numV (s.take i)) (s.getD i 0) := by
  rw [take_one s i h]; simp [numV]
def numS (s : List UInt8) : Int × Int := if right s 1 18 = true then (numV s, 0) else (0, 5)
theorem Number_eq (s : List UInt8) (hs : s.length < 9223372036854775807) : g_digits_Number s = some (numS s) := by
  unfold g_digits_Number numS
  cases hr : right s 1 18 with
  | false => rw [run_inr (x := (0, 5))]; rfl; simp [T_digits_Number, Tr.val_c, Tr.val_r, val_opt, Right_eq s _ _ hs, hr]
  | true =>
    rw [run_inl (s := (0, 0)) (by simp [T_digits_Number, Tr.val_c, Tr.val_r, val_opt, Right_eq s _ _ hs, hr])]
    have := run_until (step := M_digits_Number s) (f := fun i => (numV (s.take i), (i : Int))) (n := s.length) (x := (numV s, 0)) (fun i hi => by
      simp (disch := omega) [M_digits_Number, Tr.val_c, Tr.val_r, hi, i64_wrap, numV_take s i hi, numG]) (by
      simp [M_digits_Number, Tr.val_c, Tr.val_r])
    rw [if_pos rfl]; simpa [numV] using this

/- two digits a byte -/
def bcdF (x : UInt8 × UInt8) : AV := .int .u8 (bitsA .or .u8 (shlA .u8 (IntKind.u8.wrap ((x.1.toNat : Int) - 48)) 4) (IntKind.u8.wrap ((x.2.toNat : Int) - 48)))
def evn (s : List UInt8) : List UInt8 := if s.length % 2 = 1 then 48 :: s else s
def bcdS (s : List UInt8) : List AV × Int := if right s 0 100 = true then ((pairs (evn s)).map bcdF, 0) else ([], 5)
theorem Bcd_eq (s : List UInt8) (hs : s.length < 9223372036854775807) : g_digits_Bcd s = some (bcdS s) := by
  unfold g_digits_Bcd bcdS
  cases hr : right s 0 100 with
  | false => rw [run_inr (x := ([], 5))]; rfl; simp [T_digits_Bcd, Tr.val_c, Tr.val_r, val_opt, Right_eq s _ _ hs, hr]
  | true =>
    rw [if_pos rfl]
    have hlen : s.length ≤ 100 := by simp [right] at hr; omega
    have key : ∀ (x : List UInt8), x.length ≤ 102 → x.length % 2 = 0 → run (M_digits_Bcd s) (M_digits_Bcd s (x, 0, [])) = some ((pairs x).map bcdF, 0) := by
      intro x hx he
      have := run_until (step := M_digits_Bcd s) (f := fun i => (x, ((2 * i : Nat) : Int), ((pairs x).take i).map bcdF)) (n := x.length / 2) (x := ((pairs x).map bcdF, 0)) (fun i hi => by
        have h1 : (((2 * i : Nat) : Int) < x.length) := by omega
        have w1 : IntKind.i64.wrap (((2 * i : Nat) : Int) + 1) = ((2 * i + 1 : Nat) : Int) := by rw [i64_wrap (by omega) (by omega)]; rfl
        have w2 : IntKind.i64.wrap (((2 * i : Nat) : Int) + 2) = ((2 * (i + 1) : Nat) : Int) := by rw [i64_wrap (by omega) (by omega)]; omega
        have h2 : (((2 * i + 1 : Nat) : Int) < x.length) := by omega
        have h3 : (0 : Int) ≤ ((2 * i : Nat) : Int) := by omega
        have h4 : (0 : Int) ≤ ((2 * i + 1 : Nat) : Int) := by omega
        have h5 : ∀ y : AV, ((((pairs x).take i).map bcdF) ++ [y]).length * 2 < 70368744177664 := by
          intro y
          have : (((pairs x).take i).map bcdF).length ≤ i := by rw [List.length_map, List.length_take]; omega
          rw [List.length_append, List.length_singleton]; omega
        have e := congrArg (List.map bcdF) (pairs_take x i (by omega))
        rw [List.map_append, List.map_singleton] at e
        simp only [M_digits_Bcd, Tr.val_c, Tr.val_r, w1, w2, h1, h2, h3, h4, h5, e, bcdF, Int.toNat_natCast, beq_self_eq_true, decide_true, cond_true]) (by
        have h1 : ¬ (((2 * (x.length / 2) : Nat) : Int) < x.length) := by omega
        have e : (pairs x).take (x.length / 2) = pairs x := List.take_of_length_le (by rw [pairs_len]; omega)
        simp only [M_digits_Bcd, Tr.val_c, Tr.val_r, h1, e, beq_self_eq_true, decide_false, cond_true, cond_false])
      exact this
    unfold evn
    by_cases ho : s.length % 2 = 1
    · have h1 : (s.length : Int).tmod 2 = 1 := by rw [tmod_eq (by omega)]; omega
      have h2 : 1 + s.length < 70368744177664 := by omega
      rw [if_pos ho, run_inl (s := ([48] ++ s, 0, []))]
      · exact key ([48] ++ s) (by simp; omega) (by simp; omega)
      · simp only [T_digits_Bcd, Tr.val_c, Tr.val_r, val_opt, Right_eq s _ _ hs, hr, h1, h2, Option.bind_some, Bool.not_true, beq_self_eq_true, decide_true, cond_true, cond_false]
    · have h1 : ((s.length : Int).tmod 2 == 1) = false := by rw [tmod_eq (by omega)]; simp; omega
      rw [if_neg ho, run_inl (s := (s, 0, []))]
      · exact key s (by omega) (by omega)
      · simp only [T_digits_Bcd, Tr.val_c, Tr.val_r, val_opt, Right_eq s _ _ hs, hr, h1, Option.bind_some, Bool.not_true, cond_true, cond_false]

/- a byte's halves -/
theorem shr4 (c : UInt8) : shrA .u8 (c.toNat : Int) 4 = ((c.toNat / 16 : Nat) : Int) :=
  all_bytes (p := fun c => shrA .u8 (c.toNat : Int) 4 = ((c.toNat / 16 : Nat) : Int)) (by decide +kernel) c
theorem and15 (c : UInt8) : bitsA .and .u8 (c.toNat : Int) 15 = ((c.toNat % 16 : Nat) : Int) :=
  all_bytes (p := fun c => bitsA .and .u8 (c.toNat : Int) 15 = ((c.toNat % 16 : Nat) : Int)) (by decide +kernel) c
theorem hi_lt (c : UInt8) : c.toNat / 16 < 16 := by have := c.toNat_lt; omega
theorem lo_lt (c : UInt8) : c.toNat % 16 < 16 := by omega
/- the digits of bytes -/
def half (k : Nat) : UInt8 := UInt8.ofNat (48 + k)
theorem wrap48 (k : Nat) (h : k < 16) : AV.int .u8 (IntKind.u8.wrap (48 + (k : Int))) = .int .u8 ((half k).toNat : Int) := by
  have : IntKind.u8.wrap (48 + (k : Int)) = 48 + (k : Int) := by rw [u8_mod]; omega
  rw [this, half, UInt8.toNat_ofNat_of_lt' (by simp [UInt8.size]; omega)]
  norm_cast
def halvesL (b : List UInt8) : List UInt8 := b.flatMap fun c => [half (c.toNat / 16), half (c.toNat % 16)]
theorem halvesL_len (b : List UInt8) : (halvesL b).length = 2 * b.length := by
  induction b with
  | nil => rfl
  | cons c r ih =>
    rw [halvesL, List.flatMap_cons, List.length_append]
    show 2 + (halvesL r).length = _
    rw [ih, List.length_cons]; omega
theorem halvesL_take (b : List UInt8) (i : Nat) (h : i < b.length) : bl (halvesL (b.take (i + 1))) = bl (halvesL (b.take i)) ++ [.int .u8 ((half ((b.getD i 0).toNat / 16)).toNat : Int), .int .u8 ((half ((b.getD i 0).toNat % 16)).toNat : Int)] := by
  rw [take_one b i h, halvesL, List.flatMap_append, bl_append]; rfl
def okB (c : UInt8) : Bool := decide (c.toNat / 16 ≤ 9) && decide (c.toNat % 16 ≤ 9)
def unbcdS (b : List UInt8) (n : Int) : List UInt8 × Int :=
  if n < 0 ∨ (n ≠ 2 * b.length ∧ n ≠ 2 * b.length - 1) then ([], 1) else if b.all okB = true then
    (if n = 2 * b.length then (halvesL b, 0) else if (halvesL b).getD 0 0 = 48 then ((halvesL b).drop 1, 0) else ([], 5)) else ([], 5)

theorem UnBcd_eq (b : List UInt8) (hb : b.length < 1000000) (n : Int) (hn0 : -9223372036854775808 ≤ n) (hn : n < 9223372036854775808) : g_digits_UnBcd (bl b) n = some (unbcdS b n) := by
  unfold g_digits_UnBcd unbcdS
  have w0 : IntKind.i64.wrap (2 * (b.length : Int)) = 2 * (b.length : Int) := i64_wrap (by omega) (by omega)
  by_cases h0 : n < 0
  · rw [if_pos (.inl h0)]
    exact run_inr (by simp only [T_digits_UnBcd, Tr.val_c, Tr.val_r, h0, decide_true, cond_true])
  · have w1 : IntKind.i64.wrap (2 * (b.length : Int) - n) = 2 * (b.length : Int) - n := i64_wrap (by omega) (by omega)
    by_cases h1 : n ≠ 2 * b.length ∧ n ≠ 2 * b.length - 1
    · rw [if_pos (.inr h1)]
      by_cases h2 : 2 * (b.length : Int) - n < 0
      · exact run_inr (by simp only [T_digits_UnBcd, Tr.val_c, Tr.val_r, bl_length, w0, w1, h0, h2, decide_true, decide_false, cond_true, cond_false])
      · have h3 : 2 * (b.length : Int) - n > 1 := by omega
        exact run_inr (by simp only [T_digits_UnBcd, Tr.val_c, Tr.val_r, bl_length, w0, w1, h0, h2, h3, decide_true, decide_false, cond_true, cond_false])
    · rw [if_neg (by simp only [not_or]; exact ⟨h0, h1⟩)]
      have h2 : ¬ 2 * (b.length : Int) - n < 0 := by omega
      have h3 : ¬ 2 * (b.length : Int) - n > 1 := by omega
      rw [run_inl (s := (2 * (b.length : Int) - n, 0, [])) (by simp only [T_digits_UnBcd, Tr.val_c, Tr.val_r, bl_length, w0, w1, h0, h2, h3, decide_false, cond_false])]
      have hl := halvesL_len b
      have := run_exit (step := M_digits_UnBcd (bl b) n) (f := fun i => (2 * (b.length : Int) - n, (i : Int), bl (halvesL (b.take i)))) (p := fun i => okB (b.getD i 0)) (n := b.length) (e := ([], 5))
        (z := if n = 2 * b.length then (halvesL b, 0) else if (halvesL b).getD 0 0 = 48 then ((halvesL b).drop 1, 0) else ([], 5)) (fun i hi => by
          have q1 : (i : Int) < b.length := by omega
          have q2 : (0 : Int) ≤ i := by omega
          have w2 : IntKind.i64.wrap ((i : Int) + 1) = ((i + 1 : Nat) : Int) := by rw [i64_wrap (by omega) (by omega)]; rfl
          have k1 := hi_lt (b.getD i 0)
          have k2 := lo_lt (b.getD i 0)
          have lim : ∀ y z : AV, (bl (halvesL (b.take i)) ++ [y, z]).length * 2 < 70368744177664 := by
            intro y z
            rw [List.length_append, bl_length, halvesL_len, List.length_take]
            simp only [List.length_cons, List.length_nil]; omega
          simp only [M_digits_UnBcd, Tr.val_c, Tr.val_r, bl_length, q1, q2, Int.toNat_natCast, bl_getD, getI_int, shr4, and15, decide_true, cond_true]
          by_cases a1 : (b.getD i 0).toNat / 16 > 9
          · have a2 : (((b.getD i 0).toNat / 16 : Nat) : Int) > 9 := by omega
            have d : okB (b.getD i 0) = false := by simp only [okB, Bool.and_eq_false_iff, decide_eq_false_iff_not]; omega
            simp only [a2, d, decide_true, cond_true, Bool.false_eq_true, if_false]
          · have a2 : ¬ (((b.getD i 0).toNat / 16 : Nat) : Int) > 9 := by omega
            by_cases a3 : (b.getD i 0).toNat % 16 > 9
            · have a4 : (((b.getD i 0).toNat % 16 : Nat) : Int) > 9 := by omega
              have d : okB (b.getD i 0) = false := by simp only [okB, Bool.and_eq_false_iff, decide_eq_false_iff_not]; omega
              simp only [a2, a4, d, decide_true, decide_false, cond_true, cond_false, Bool.false_eq_true, if_false]
            · have a4 : ¬ (((b.getD i 0).toNat % 16 : Nat) : Int) > 9 := by omega
              have d : okB (b.getD i 0) = true := by simp only [okB, Bool.and_eq_true, decide_eq_true_eq]; omega
              have l2 := lim (.int .u8 ((half ((b.getD i 0).toNat / 16)).toNat : Int)) (.int .u8 ((half ((b.getD i 0).toNat % 16)).toNat : Int))
              simp only [a2, a4, d, w2, wrap48 _ k1, wrap48 _ k2, l2, halvesL_take b i hi, beq_self_eq_true, decide_true, decide_false, cond_true, cond_false, if_true]) (by
          have q1 : ¬ ((b.length : Int) < b.length) := by omega
          have L : ((halvesL b).length : Int) ≤ (halvesL b).length := Int.le_refl _
          by_cases e1 : n = 2 * b.length
          · have i1 : (2 * (b.length : Int) - n == 1) = false := by simp; omega
            have i2 : (0 : Int) ≤ 2 * (b.length : Int) - n := by omega
            have i3 : 2 * (b.length : Int) - n ≤ (halvesL b).length := by omega
            have i4 : (2 * (b.length : Int) - n).toNat = 0 := by omega
            rw [if_pos e1]
            simp only [M_digits_UnBcd, Tr.val_c, Tr.val_r, bl_length, List.take_length, q1, i1, i2, i3, i4, L, bl_take, bl_drop, bytesOf_bl', List.drop_zero, beq_self_eq_true, decide_true, decide_false, cond_true, cond_false]
          · have e2 : n = 2 * b.length - 1 := by omega
            have i1 : (2 * (b.length : Int) - n == 1) = true := by simp; omega
            have i2 : (0 : Int) ≤ 2 * (b.length : Int) - n := by omega
            have i3 : 2 * (b.length : Int) - n ≤ (halvesL b).length := by omega
            have i4 : (2 * (b.length : Int) - n).toNat = 1 := by omega
            have i5 : (0 : Int) < (halvesL b).length := by omega
            have i6 : 0 < (halvesL b).length := by omega
            rw [if_neg e1]
            by_cases e3 : (halvesL b).getD 0 0 = 48
            · have i7 : ((((halvesL b).getD 0 0).toNat : Int) != 48) = false := by rw [e3]; rfl
              rw [if_pos e3]
              simp only [M_digits_UnBcd, Tr.val_c, Tr.val_r, bl_length, List.take_length, q1, i1, i2, i3, i4, i5, i6, i7, L, bl_getD, getI_int, bl_take, bl_drop, bytesOf_bl', beq_self_eq_true, decide_true, decide_false, cond_true, cond_false]
            · have i7 : ((((halvesL b).getD 0 0).toNat : Int) != 48) = true := by
                simp only [bne_iff_ne, ne_eq]; intro h; exact e3 (UInt8.toNat_inj.1 (by rw [show (48 : UInt8).toNat = 48 from rfl]; omega))
              rw [if_neg e3]
              simp only [M_digits_UnBcd, Tr.val_c, Tr.val_r, bl_length, List.take_length, q1, i1, i2, i3, i4, i5, i6, i7, L, bl_getD, getI_int, beq_self_eq_true, decide_true, decide_false, cond_true, cond_false])
      refine this.trans ?_
      rw [range_all b 0 okB]

/- signs of sixteen -/
def sx (k : Nat) : UInt8 := sixteens.getD k 0
def hexS (b : List UInt8) : List UInt8 := b.flatMap fun c => [sx (c.toNat / 16), sx (c.toNat % 16)]
theorem hexS_len (b : List UInt8) : (hexS b).length = 2 * b.length := by
  induction b with
  | nil => rfl
  | cons c r ih =>
    rw [hexS, List.flatMap_cons, List.length_append]
    show 2 + (hexS r).length = _
    rw [ih, List.length_cons]; omega
theorem hexS_take (b : List UInt8) (i : Nat) (h : i < b.length) : hexS (b.take (i + 1)) = hexS (b.take i) ++ [sx ((b.getD i 0).toNat / 16), sx ((b.getD i 0).toNat % 16)] := by
  rw [take_one b i h, hexS, List.flatMap_append]; rfl
theorem WriteByte_eq (c : UInt8) (l : List UInt8) (h : l.length < 1000000) : g_strings_Builder_WriteByte_p05p0 (c.toNat : Int) (bl l) = some (bl (l ++ [c])) := by
  have h2 : (bl l ++ [AV.int .u8 (c.toNat : Int)]).length * 2 < 70368744177664 := by simp; omega
  unfold g_strings_Builder_WriteByte_p05p0 T_strings_Builder_WriteByte_p05p0
  simp only [Tr.val_c, Tr.val_r, h2, beq_self_eq_true, decide_true, cond_true]
  rw [bl_append]; rfl
theorem Hex_eq (b : List UInt8) (hb : b.length < 10000) : g_digits_Hex (bl b) = some (hexS b) := by
  unfold g_digits_Hex
  rw [run_inl (s := (.inl (()))) rfl]
  cases b with
  | nil => exact run_inr (by simp [M_digits_Hex, Tr.val_c, Tr.val_r, hexS])
  | cons c r =>
    have step : ∀ i, i < (c :: r).length → ∀ l, l.length < 100000 → (M_digits_Hex (bl (c :: r)) (.inr ((i : Int), bl l))).val = some (.inl (.inr (((i + 1 : Nat) : Int), bl (l ++ [sx (((c :: r).getD i 0).toNat / 16)] ++ [sx (((c :: r).getD i 0).toNat % 16)])))) := by
      intro i hi l hl
      generalize c :: r = b at *
      have q1 : (i : Int) < b.length := by omega
      have q2 : (0 : Int) ≤ i := by omega
      have w2 : IntKind.i64.wrap ((i : Int) + 1) = ((i + 1 : Nat) : Int) := by rw [i64_wrap (by omega) (by omega)]; rfl
      have k1 : (((b.getD i 0).toNat / 16 : Nat) : Int) < 16 := by have := hi_lt (b.getD i 0); omega
      have k2 : (((b.getD i 0).toNat % 16 : Nat) : Int) < 16 := by have := lo_lt (b.getD i 0); omega
      have k3 : (0 : Int) ≤ (((b.getD i 0).toNat / 16 : Nat) : Int) := by omega
      have e1 := WriteByte_eq (sx ((b.getD i 0).toNat / 16)) l (by omega)
      have e2 := WriteByte_eq (sx ((b.getD i 0).toNat % 16)) (l ++ [sx ((b.getD i 0).toNat / 16)]) (by simp; omega)
      unfold sx at e1 e2 ⊢
      simp only [M_digits_Hex, Tr.val_c, Tr.val_r, val_opt, bl_length, q1, q2, w2, Int.toNat_natCast, bl_getD, getI_int, shr4, and15, k1, k2, k3, e1, e2, Option.bind_some, beq_self_eq_true, decide_true, cond_true]
    have first : (M_digits_Hex (bl (c :: r)) (.inl (()))).val = some (.inl (.inr (((1 : Nat) : Int), bl (hexS ((c :: r).take 1))))) := by
      have q1 : (0 : Int) < (c :: r).length := by simp only [List.length_cons]; omega
      have k1 : ((c.toNat / 16 : Nat) : Int) < 16 := by have := hi_lt c; omega
      have k2 : ((c.toNat % 16 : Nat) : Int) < 16 := by have := lo_lt c; omega
      have k3 : (0 : Int) ≤ ((c.toNat / 16 : Nat) : Int) := by omega
      have e0 : (c :: r).getD 0 0 = c := rfl
      simp only [M_digits_Hex, Tr.val_c, Tr.val_r, bl_length, q1, bl_getD, e0, getI_int, shr4, and15, k1, k2, k3, Int.toNat_natCast, decide_true, cond_true]
      rfl
    rw [run_inl first]
    have := run_until (step := M_digits_Hex (bl (c :: r))) (f := fun i => (.inr (((i + 1 : Nat) : Int), bl (hexS ((c :: r).take (i + 1)))))) (n := r.length) (x := hexS (c :: r)) (fun i hi => by
      have := step (i + 1) (by simp only [List.length_cons]; omega) (hexS ((c :: r).take (i + 1))) (by rw [hexS_len, List.length_take]; simp only [List.length_cons] at hb ⊢; omega)
      rw [this, hexS_take (c :: r) (i + 1) (by simp only [List.length_cons]; omega), List.append_assoc]; rfl) (by
      have q1 : ¬ (((r.length + 1 : Nat) : Int) < (c :: r).length) := by simp only [List.length_cons]; omega
      have t : (c :: r).take (r.length + 1) = c :: r := List.take_of_length_le (by simp)
      simp only [M_digits_Hex, Tr.val_c, Tr.val_r, bl_length, q1, t, bytesOf_bl', beq_self_eq_true, decide_false, cond_true, cond_false])
    exact this

/- what a sign is -/
theorem has_sixteens (c : UInt8) : decide (Go.Lib.indexByte sixteens c ≥ 0) = hexd c :=
  all_bytes (p := fun c => decide (Go.Lib.indexByte sixteens c ≥ 0) = hexd c) (by decide +kernel) c
theorem all_hex (s : List UInt8) (hs : s.length < 9223372036854775807) : g_digits_all_0fUnHex1_p5fhas_ s = some (s.all hexd) := by
  unfold g_digits_all_0fUnHex1_p5fhas_
  rw [run_inl (s := (0 : Int)) rfl]
  have := run_exit (step := M_digits_all_0fUnHex1_p5fhas_ s) (f := fun i => (i : Int)) (p := fun i => hexd (s.getD i 0)) (n := s.length) (e := false) (z := true) (fun i hi => by
    simp (disch := omega) [M_digits_all_0fUnHex1_p5fhas_, Tr.val_c, Tr.val_r, hi, i64_wrap, has_sixteens]
    cases hexd _ <;> rfl) (by
    simp [M_digits_all_0fUnHex1_p5fhas_, Tr.val_c, Tr.val_r])
  exact this.trans (by rw [range_all s 0 hexd]; cases s.all hexd <;> rfl)
def hv (c : UInt8) : Nat := if c.toNat ≤ 57 then c.toNat - 48 else c.toNat - 55
theorem idx_hv (c : UInt8) : hexd c = true → Go.Lib.indexByte sixteens c = (hv c : Int) ∧ hv c < 16 :=
  all_bytes (p := fun c => hexd c = true → Go.Lib.indexByte sixteens c = (hv c : Int) ∧ hv c < 16) (by decide +kernel) c
theorem or_hv : ∀ x y : Fin 16, IntKind.u8.wrap (bitsA .or .i64 (shlA .i64 ((x.val : Nat) : Int) 4) ((y.val : Nat) : Int)) = ((16 * x.val + y.val : Nat) : Int) := by decide +kernel
def hexF (x : UInt8 × UInt8) : AV := .int .u8 ((16 * hv x.1 + hv x.2 : Nat) : Int)
def unhexS (s : List UInt8) : List AV × Int := if (decide (s.length % 2 = 0) && s.all hexd) = true then ((pairs s).map hexF, 0) else ([], 5)
theorem all_getD {p : UInt8 → Bool} {s : List UInt8} (h : s.all p = true) {i : Nat} (hi : i < s.length) : p (s.getD i 0) = true := by
  rw [getD_lt hi]; exact List.all_eq_true.1 h _ (List.getElem_mem hi)
theorem UnHex_eq (s : List UInt8) (hs : s.length < 1000000) : g_digits_UnHex s = some (unhexS s) := by
  unfold g_digits_UnHex unhexS
  have hs' : s.length < 9223372036854775807 := by omega
  by_cases ho : s.length % 2 = 0
  · have h1 : ((s.length : Int).tmod 2 == 1) = false := by rw [tmod_eq (by omega)]; simp; omega
    cases hr : s.all hexd with
    | false =>
      rw [if_neg (by simp)]
      exact run_inr (by simp only [T_digits_UnHex, Tr.val_c, Tr.val_r, val_opt, all_hex s hs', hr, h1, Option.bind_some, Bool.not_false, cond_true, cond_false])
    | true =>
      rw [if_pos (by simp [ho]), run_inl (s := (0, [])) (by simp only [T_digits_UnHex, Tr.val_c, Tr.val_r, val_opt, all_hex s hs', hr, h1, Option.bind_some, Bool.not_true, cond_true, cond_false])]
      have := run_until (step := M_digits_UnHex s) (f := fun i => (((2 * i : Nat) : Int), ((pairs s).take i).map hexF)) (n := s.length / 2) (x := ((pairs s).map hexF, 0)) (fun i hi => by
        have h1 : (((2 * i : Nat) : Int) < s.length) := by omega
        have w1 : IntKind.i64.wrap (((2 * i : Nat) : Int) + 1) = ((2 * i + 1 : Nat) : Int) := by rw [i64_wrap (by omega) (by omega)]; rfl
        have w2 : IntKind.i64.wrap (((2 * i : Nat) : Int) + 2) = ((2 * (i + 1) : Nat) : Int) := by rw [i64_wrap (by omega) (by omega)]; omega
        have h2 : (((2 * i + 1 : Nat) : Int) < s.length) := by omega
        have h3 : (0 : Int) ≤ ((2 * i : Nat) : Int) := by omega
        have h4 : (0 : Int) ≤ ((2 * i + 1 : Nat) : Int) := by omega
        have h5 : ∀ y : AV, ((((pairs s).take i).map hexF) ++ [y]).length * 2 < 70368744177664 := by
          intro y
          have : (((pairs s).take i).map hexF).length ≤ i := by rw [List.length_map, List.length_take]; omega
          rw [List.length_append, List.length_singleton]; omega
        have e := congrArg (List.map hexF) (pairs_take s i (by omega))
        rw [List.map_append, List.map_singleton] at e
        have v1 := idx_hv _ (all_getD hr (i := 2 * i) (by omega))
        have v2 := idx_hv _ (all_getD hr (i := 2 * i + 1) (by omega))
        have o := or_hv ⟨_, v1.2⟩ ⟨_, v2.2⟩
        simp only [M_digits_UnHex, Tr.val_c, Tr.val_r, w1, w2, h1, h2, h3, h4, toUInt8_toNat, Int.toNat_natCast, v1.1, v2.1, o, h5, e, hexF, beq_self_eq_true, decide_true, cond_true]) (by
        have h1 : ¬ (((2 * (s.length / 2) : Nat) : Int) < s.length) := by omega
        have e : (pairs s).take (s.length / 2) = pairs s := List.take_of_length_le (by rw [pairs_len]; omega)
        simp only [M_digits_UnHex, Tr.val_c, Tr.val_r, h1, e, beq_self_eq_true, decide_false, cond_true, cond_false])
      exact this
  · have h1 : ((s.length : Int).tmod 2 == 1) = true := by rw [tmod_eq (by omega)]; simp; omega
    rw [if_neg (by simp [ho])]
    exact run_inr (by simp only [T_digits_UnHex, Tr.val_c, Tr.val_r, h1, cond_true])

/- what is told is read -/
def numN (s : List UInt8) : Nat := s.foldl (fun a c => a * 10 + (c.toNat - 48)) 0
theorem numN_snoc (s : List UInt8) (c : UInt8) : numN (s ++ [c]) = numN s * 10 + (c.toNat - 48) := by simp [numN]
theorem dig_range {c : UInt8} (h : dig c = true) : 48 ≤ c.toNat ∧ c.toNat ≤ 57 := by simpa [dig] using h
theorem numV_N : ∀ (n : Nat) (s : List UInt8), s.length = n → n ≤ 18 → s.all dig = true → numV s = (numN s : Int) ∧ numN s < 10 ^ n
  | 0, s, h, _, _ => by obtain rfl := List.length_eq_zero_iff.1 h; exact ⟨rfl, by decide⟩
  | n + 1, s, h, hn, hd => by
    have e : s = s.take n ++ [s.getD n 0] := by rw [← take_one s n (by omega), ← h, List.take_length]
    generalize ht : s.take n = t at e
    have lt : t.length = n := by rw [← ht, List.length_take]; omega
    generalize s.getD n 0 = c at e
    subst e
    rw [List.all_append] at hd
    have hd' := Bool.and_eq_true_iff.1 hd
    obtain ⟨i1, i2⟩ := numV_N n t lt (by omega) hd'.1
    have r := dig_range (by simpa using hd'.2)
    have p : 10 ^ n ≤ 10 ^ 17 := Nat.pow_le_pow_right (by omega) (by omega)
    have p2 : 10 ^ (n + 1) = 10 ^ n * 10 := Nat.pow_succ 10 n
    constructor
    · have : numV (t ++ [c]) = numG (numV t) c := by simp [numV]
      rw [this, numN_snoc, i1]
      unfold numG
      simp only [u8_mod, u64_mod]
      omega
    · rw [numN_snoc]; omega
theorem numN_decDigits (v : Nat) : numN (Go.Lib.decDigits v) = v ∧ (Go.Lib.decDigits v).all dig = true := by
  induction v using Nat.strongRecOn with
  | _ v ih =>
    have dg : ∀ k : Fin 10, dig (UInt8.ofNat (48 + k.val)) = true ∧ (UInt8.ofNat (48 + k.val)).toNat - 48 = k.val := by decide +kernel
    rw [Go.Lib.decDigits]
    by_cases h : v < 10
    · rw [dif_pos h]
      have := dg ⟨v, h⟩
      simp only [numN, List.foldl_cons, List.foldl_nil, List.all_cons, List.all_nil, this.1, this.2]
      exact ⟨by omega, rfl⟩
    · rw [dif_neg h]
      obtain ⟨i1, i2⟩ := ih (v / 10) (by omega)
      have := dg ⟨v % 10, by omega⟩
      have k : (UInt8.ofNat (48 + v % 10)).toNat - 48 = v % 10 := this.2
      rw [numN_snoc, i1, List.all_append, i2, k]
      exact ⟨by omega, by simpa using this.1⟩
theorem numN_zeros (k : Nat) (s : List UInt8) : numN (List.replicate k 48 ++ s) = numN s := by
  induction k with
  | zero => rfl
  | succ k ih => rw [List.replicate_succ, List.cons_append, numN, List.foldl_cons]; exact ih
theorem text_back (v : Nat) (hv : v < 1000000000000000000) (w : Int) (h1 : 1 ≤ w) (h2 : w ≤ 18) (he : (textS v w).2 = 0) : numS (textS v w).1 = ((v : Int), 0) ∧ ((textS v w).1.length : Int) = w := by
  unfold textS at *
  rw [if_neg (by omega)] at *
  by_cases h : w < (Go.Lib.decDigits v).length
  · rw [if_pos h] at he; cases he
  · rw [if_neg h]
    have l : ((List.replicate (w - ((Go.Lib.decDigits v).length : Int)).toNat (48 : UInt8) ++ Go.Lib.decDigits v).length : Int) = w := by rw [List.length_append, List.length_replicate]; omega
    refine ⟨?_, l⟩
    obtain ⟨i1, i2⟩ := numN_decDigits v
    have ad : (List.replicate (w - ((Go.Lib.decDigits v).length : Int)).toNat (48 : UInt8) ++ Go.Lib.decDigits v).all dig = true := by
      rw [List.all_append, i2, Bool.and_true, List.all_eq_true]
      intro c hc; rw [List.eq_of_mem_replicate hc]; rfl
    have rt : right (List.replicate (w - ((Go.Lib.decDigits v).length : Int)).toNat (48 : UInt8) ++ Go.Lib.decDigits v) 1 18 = true := by
      unfold right
      rw [ad, l, decide_eq_true h1, decide_eq_true h2]; rfl
    show numS (List.replicate (w - ((Go.Lib.decDigits v).length : Int)).toNat (48 : UInt8) ++ Go.Lib.decDigits v) = _
    unfold numS
    rw [if_pos rt]
    have := (numV_N _ _ rfl (by omega) ad).1
    rw [this, numN_zeros, i1]
theorem half_bcd : ∀ x y : Fin 10, bitsA .or .u8 (shlA .u8 (IntKind.u8.wrap (((48 + x.val : Nat) : Int) - 48)) 4) (IntKind.u8.wrap (((48 + y.val : Nat) : Int) - 48)) = ((x.val * 16 + y.val : Nat) : Int) := by decide +kernel
theorem bcdF_eq {a b : UInt8} (ha : dig a = true) (hb : dig b = true) : ∃ c : UInt8, bcdF (a, b) = .int .u8 (c.toNat : Int) ∧ okB c = true ∧ [half (c.toNat / 16), half (c.toNat % 16)] = [a, b] := by
  have ra := dig_range ha
  have rb := dig_range hb
  have o := half_bcd ⟨a.toNat - 48, by omega⟩ ⟨b.toNat - 48, by omega⟩
  simp only [show 48 + (a.toNat - 48) = a.toNat by omega, show 48 + (b.toNat - 48) = b.toNat by omega] at o
  have t : (UInt8.ofNat ((a.toNat - 48) * 16 + (b.toNat - 48))).toNat = (a.toNat - 48) * 16 + (b.toNat - 48) := UInt8.toNat_ofNat_of_lt' (by simp [UInt8.size]; omega)
  refine ⟨UInt8.ofNat ((a.toNat - 48) * 16 + (b.toNat - 48)), ?_, ?_, ?_⟩
  · rw [bcdF, o, t]
  · simp only [okB, t, Bool.and_eq_true, decide_eq_true_eq]; omega
  · rw [t]
    have e1 : half (((a.toNat - 48) * 16 + (b.toNat - 48)) / 16) = a := UInt8.toNat_inj.1 (by rw [half, UInt8.toNat_ofNat_of_lt' (by simp [UInt8.size]; omega)]; omega)
    have e2 : half (((a.toNat - 48) * 16 + (b.toNat - 48)) % 16) = b := UInt8.toNat_inj.1 (by rw [half, UInt8.toNat_ofNat_of_lt' (by simp [UInt8.size]; omega)]; omega)
    rw [e1, e2]
theorem bcd_halves : ∀ (s : List UInt8), s.length % 2 = 0 → s.all dig = true → ∃ b : List UInt8, (pairs s).map bcdF = bl b ∧ b.all okB = true ∧ halvesL b = s
  | a :: c :: r, h, hd => by
    simp only [List.all_cons, Bool.and_eq_true] at hd
    obtain ⟨x, x1, x2, x3⟩ := bcdF_eq hd.1 hd.2.1
    obtain ⟨b, b1, b2, b3⟩ := bcd_halves r (by simp only [List.length_cons] at h; omega) hd.2.2
    refine ⟨x :: b, ?_, ?_, ?_⟩
    · rw [pairs, List.map_cons, b1, x1, bl_cons]
    · rw [List.all_cons, x2, b2]; rfl
    · rw [halvesL, List.flatMap_cons, x3]
      show a :: c :: halvesL b = _
      rw [b3]
  | [a], h, _ => by simp at h
  | [], _, _ => ⟨[], rfl, rfl, rfl⟩
theorem bcd_back (s : List UInt8) (hr : right s 0 100 = true) : ∃ b : List UInt8, bcdS s = (bl b, 0) ∧ unbcdS b (s.length : Int) = (s, 0) ∧ b.length = (s.length + 1) / 2 := by
  unfold bcdS
  rw [if_pos hr]
  have hd : s.all dig = true := by simp [right] at hr; simpa using hr.2
  unfold evn
  by_cases ho : s.length % 2 = 1
  · rw [if_pos ho]
    obtain ⟨b, b1, b2, b3⟩ := bcd_halves (48 :: s) (by simp only [List.length_cons]; omega) (by rw [List.all_cons, hd]; rfl)
    have l := halvesL_len b
    rw [b3, List.length_cons] at l
    refine ⟨b, by rw [b1], ?_, by omega⟩
    unfold unbcdS
    rw [if_neg (by omega), if_pos b2, if_neg (by omega), b3]
    rfl
  · rw [if_neg ho]
    obtain ⟨b, b1, b2, b3⟩ := bcd_halves s (by omega) hd
    have l := halvesL_len b
    rw [b3] at l
    refine ⟨b, by rw [b1], ?_, by omega⟩
    unfold unbcdS
    rw [if_neg (by omega), if_pos b2, if_pos (by omega), b3]
theorem sx_hv : ∀ k : Fin 16, hexd (sx k.val) = true ∧ hv (sx k.val) = k.val := by decide +kernel
theorem hex_back (b : List UInt8) : unhexS (hexS b) = (bl b, 0) := by
  have key : ∀ b : List UInt8, (hexS b).all hexd = true ∧ (pairs (hexS b)).map hexF = bl b := by
    intro b
    induction b with
    | nil => exact ⟨rfl, rfl⟩
    | cons c r ih =>
      have e : hexS (c :: r) = sx (c.toNat / 16) :: sx (c.toNat % 16) :: hexS r := by rw [hexS, List.flatMap_cons]; rfl
      have a1 := sx_hv ⟨_, hi_lt c⟩
      have a2 := sx_hv ⟨_, lo_lt c⟩
      rw [e]
      refine ⟨by rw [List.all_cons, List.all_cons, a1.1, a2.1, ih.1]; rfl, ?_⟩
      rw [pairs, List.map_cons, ih.2, hexF, a1.2, a2.2, bl_cons, show 16 * (c.toNat / 16) + c.toNat % 16 = c.toNat by omega]
  unfold unhexS
  have l := hexS_len b
  rw [if_pos (by rw [(key b).1, Bool.and_true, decide_eq_true_eq]; omega), (key b).2]
theorem dback_eq (v : Nat) (hv : v < 18446744073709551616) (x1 : Int) (s b : List UInt8) : g_comptoirlaw02_DigitsBack (v : Int) x1 s (bl b) = some true := by
  unfold g_comptoirlaw02_DigitsBack
  have a : (T_comptoirlaw02_DigitsBack (v : Int) x1 s (bl b)).val = some (.inl (.inl (decide ((s.length : Int) > 100) || decide ((b.length : Int) > 200)))) := by
    by_cases q : (s.length : Int) > 100
    · simp only [T_comptoirlaw02_DigitsBack, Tr.val_c, Tr.val_r, bl_length, q, decide_true, cond_true, Bool.true_or]
    · simp only [T_comptoirlaw02_DigitsBack, Tr.val_c, Tr.val_r, bl_length, q, decide_false, cond_false, Bool.false_or]
  rw [run_inl a]
  by_cases q : (s.length : Int) > 100 ∨ (b.length : Int) > 200
  · have e : (decide ((s.length : Int) > 100) || decide ((b.length : Int) > 200)) = true := by simpa using q
    rw [e]
    exact run_inr (by simp only [M_comptoirlaw02_DigitsBack, Tr.val_c, Tr.val_r, val_opt, awake02, Option.bind_some, cond_true])
  · have e : (decide ((s.length : Int) > 100) || decide ((b.length : Int) > 200)) = false := by simpa using q
    rw [e]
    have hs : s.length < 9223372036854775807 := by omega
    have m1 : (v : Int).tmod 1000000000000000000 = ((v % 1000000000000000000 : Nat) : Int) := by rw [tmod_eq (by omega)]; rfl
    have bu := u64_bounds x1
    generalize hW : IntKind.i64.wrap (1 + IntKind.i64.wrap (Int.tmod (IntKind.u64.wrap x1) 18)) = W
    have hW1 : 1 ≤ W ∧ W ≤ 18 := by
      rw [tmod_eq bu.1, i64_wrap (n := IntKind.u64.wrap x1 % 18) (by omega) (by omega), i64_wrap (by omega) (by omega)] at hW
      omega
    generalize hV : v % 1000000000000000000 = V at m1
    have hV1 : V < 1000000000000000000 := by omega
    have tx := Text_eq V (by omega) W
    -- the number
    have t2 : (textS V W).2 = 0 ∨ (textS V W).2 = 4 := by
      unfold textS
      rw [if_neg (by omega)]
      split
      · exact .inr rfl
      · exact .inl rfl
    have key3 : ∀ i4 i5 : Int, (i4 = 0 ∨ i4 = 4) → (i5 == 0) = right s 0 100 → run (M_comptoirlaw02_DigitsBack (v : Int) x1 s (bl b)) (M_comptoirlaw02_DigitsBack (v : Int) x1 s (bl b) (.inr (.inr (.inr (.inr (i4, i5)))))) = some true := by
      intro i4 i5 h4 h5
      have hl := hexS_len b
      have bb : (bytesOf (bl b) == bytesOf (bl b)) = true := beq_self_eq_true _
      have z0 : ((0 : Int) == 0) = true := rfl
      have z4 : ((4 : Int) == 0) = false := rfl
      have z44 : ((4 : Int) == 4) = true := rfl
      rcases h4 with rfl | rfl
      · exact run_inr (by simp only [M_comptoirlaw02_DigitsBack, Tr.val_c, Tr.val_r, val_opt, Hex_eq b (by omega), UnHex_eq (hexS b) (by omega), hex_back, awake02, Right_eq s _ _ hs, h5, Option.bind_some, bb, z0, beq_self_eq_true, cond_true])
      · exact run_inr (by simp only [M_comptoirlaw02_DigitsBack, Tr.val_c, Tr.val_r, val_opt, Hex_eq b (by omega), UnHex_eq (hexS b) (by omega), hex_back, awake02, Right_eq s _ _ hs, h5, Option.bind_some, bb, z0, z4, z44, beq_self_eq_true, cond_true, cond_false])
    have key2 : ∀ i1 : Int, (i1 = 0 ∨ i1 = 4) → run (M_comptoirlaw02_DigitsBack (v : Int) x1 s (bl b)) (M_comptoirlaw02_DigitsBack (v : Int) x1 s (bl b) (.inr (.inr (.inl (i1))))) = some true := by
      intro i1 h1
      cases hr : right s 0 100 with
      | false =>
        have e1 : bcdS s = ([], 5) := by unfold bcdS; rw [if_neg (by rw [hr]; decide)]
        have z5 : ((5 : Int) == 0) = false := rfl
        rw [run_inl (s := (.inr (.inr (.inr (.inr (i1, 5)))))) (by simp only [M_comptoirlaw02_DigitsBack, Tr.val_c, Tr.val_r, val_opt, Bcd_eq s hs, e1, z5, Option.bind_some, cond_false])]
        exact key3 i1 5 h1 (by rw [hr]; rfl)
      | true =>
        obtain ⟨c, c1, c2, c3⟩ := bcd_back s hr
        have z0 : ((0 : Int) == 0) = true := rfl
        have z1 : ((0 : Int) != 0) = false := rfl
        have ss : (!(s == s)) = false := by rw [beq_self_eq_true]; rfl
        have w1 : IntKind.i64.wrap ((s.length : Int) + 1) = (s.length : Int) + 1 := i64_wrap (by omega) (by omega)
        have w2 : IntKind.i64.wrap (Int.tdiv ((s.length : Int) + 1) 2) = (c.length : Int) := by rw [tdiv_eq (by omega), i64_wrap (by omega) (by omega)]; omega
        have w3 : ((c.length : Int) != (c.length : Int)) = false := by simp
        rw [run_inl (s := (.inr (.inr (.inr (.inl (i1, 0, false)))))) (by simp only [M_comptoirlaw02_DigitsBack, Tr.val_c, Tr.val_r, val_opt, Bcd_eq s hs, c1, UnBcd_eq c (by omega) (s.length : Int) (by omega) (by omega), c2, z0, z1, ss, w1, w2, w3, bl_length, Option.bind_some, cond_true, cond_false])]
        rw [run_inl (s := (.inr (.inr (.inr (.inr (i1, 0)))))) (by simp only [M_comptoirlaw02_DigitsBack, Tr.val_c, Tr.val_r, cond_false])]
        exact key3 i1 0 h1 (by rw [hr]; rfl)
    rcases t2 with t2 | t2
    · obtain ⟨n1, n2⟩ := text_back V hV1 W hW1.1 hW1.2 t2
      have z0 : ((0 : Int) == 0) = true := rfl
      have z1 : ((0 : Int) != 0) = false := rfl
      have vv : ((V : Int) != (V : Int)) = false := by simp
      have ww : (W != W) = false := by simp
      rw [run_inl (s := (.inr (.inl (0, false)))) (by simp only [M_comptoirlaw02_DigitsBack, Tr.val_c, Tr.val_r, val_opt, m1, hW, tx, t2, n1, n2, Number_eq _ (show (textS V W).1.length < 9223372036854775807 by omega), z0, z1, vv, ww, Option.bind_some, cond_true, cond_false])]
      rw [run_inl (s := (.inr (.inr (.inl (0))))) (by simp only [M_comptoirlaw02_DigitsBack, Tr.val_c, Tr.val_r, cond_false])]
      exact key2 0 (.inl rfl)
    · have z0 : ((4 : Int) == 0) = false := rfl
      rw [run_inl (s := (.inr (.inr (.inl (4))))) (by simp only [M_comptoirlaw02_DigitsBack, Tr.val_c, Tr.val_r, val_opt, m1, hW, tx, t2, z0, Option.bind_some, cond_false])]
      exact key2 4 (.inr rfl)

end Go.Proofs.YtbgklljidmoahaaDoor
