/- A part of the proof. -/
import Derived.Test.YthocnaabefdokaaYaG4
import Derived.Test.YthocnaabefdokaaCxPl2
namespace Go.Proofs.Ythocnaabefdokaa
open Go.Cx Go.Cx.AV
set_option linter.unusedSimpArgs false

abbrev tens : List UInt8 := [48, 49, 50, 51, 52, 53, 54, 55, 56, 57]
abbrev sixteens : List UInt8 := [48, 49, 50, 51, 52, 53, 54, 55, 56, 57, 65, 66, 67, 68, 69, 70]
def dig (c : UInt8) : Bool := decide (48 ≤ c.toNat) && decide (c.toNat ≤ 57)
def hexd (c : UInt8) : Bool := dig c || (decide (65 ≤ c.toNat) && decide (c.toNat ≤ 70))

theorem has_tens (c : UInt8) : decide (Go.Lib.indexByte tens c ≥ 0) = dig c :=
  all_bytes (p := fun c => decide (Go.Lib.indexByte tens c ≥ 0) = dig c) (by decide +kernel) c
theorem has_sixteens (c : UInt8) : decide (Go.Lib.indexByte sixteens c ≥ 0) = hexd c :=
  all_bytes (p := fun c => decide (Go.Lib.indexByte sixteens c ≥ 0) = hexd c) (by decide +kernel) c

theorem all_tens (s : List UInt8) (hs : s.length < 9223372036854775807) : g_digits_all_0fhas_ s tens = some (s.all dig) := by
  unfold g_digits_all_0fhas_
  rw [run_inl (s := (0 : Int)) rfl]
  have := run_exit (step := M_digits_all_0fhas_ s tens) (f := fun i => (i : Int)) (p := fun i => dig (s.getD i 0)) (n := s.length) (e := false) (z := true) (fun i hi => by
    simp (disch := omega) [M_digits_all_0fhas_, Tr.val_c, Tr.val_r, hi, i64_wrap, has_tens]
    cases dig _ <;> rfl) (by
    simp [M_digits_all_0fhas_, Tr.val_c, Tr.val_r])
  exact this.trans (by rw [range_all s 0 dig]; cases s.all dig <;> rfl)

theorem all_hex (s : List UInt8) (hs : s.length < 9223372036854775807) : g_digits_all_0fUnHex1_p5fhas_ s = some (s.all hexd) := by
  unfold g_digits_all_0fUnHex1_p5fhas_
  rw [run_inl (s := (0 : Int)) rfl]
  have := run_exit (step := M_digits_all_0fUnHex1_p5fhas_ s) (f := fun i => (i : Int)) (p := fun i => hexd (s.getD i 0)) (n := s.length) (e := false) (z := true) (fun i hi => by
    simp (disch := omega) [M_digits_all_0fUnHex1_p5fhas_, Tr.val_c, Tr.val_r, hi, i64_wrap, has_sixteens]
    cases hexd _ <;> rfl) (by
    simp [M_digits_all_0fUnHex1_p5fhas_, Tr.val_c, Tr.val_r])
  exact this.trans (by rw [range_all s 0 hexd]; cases s.all hexd <;> rfl)

def right (s : List UInt8) (lo hi : Int) : Bool := decide (lo ≤ s.length) && decide ((s.length : Int) ≤ hi) && s.all dig
theorem Right_eq (s : List UInt8) (lo hi : Int) (hs : s.length < 9223372036854775807) : g_digits_Right s lo hi = some (right s lo hi) := by
  simp only [g_digits_Right, T_digits_Right, Tr.val_c, all_tens s hs, Tr.val_r, right, Option.isSome_some, Option.getD_some, cond_true, ge_iff_le]
  by_cases h1 : lo ≤ s.length <;> by_cases h2 : (s.length : Int) ≤ hi <;> simp [h1, h2]

theorem Number_eq (s : List UInt8) (hs : s.length < 9223372036854775807) : ∃ v, g_digits_Number s = some (v, if right s 1 18 = true then 0 else 5) := by
  unfold g_digits_Number
  cases hr : right s 1 18 with
  | false => exact ⟨0, by rw [run_inr (x := (0, 5))]; rfl; simp [T_digits_Number, Tr.val_c, Tr.val_r, Right_eq s _ _ hs, hr]⟩
  | true =>
    have hlen : s.length ≤ 18 := by simp [right] at hr; omega
    rw [run_inl (s := (0, 0)) (by simp [T_digits_Number, Tr.val_c, Tr.val_r, Right_eq s _ _ hs, hr])]
    have key : ∀ k i v, i + k = s.length → ∃ v', run (M_digits_Number s) (M_digits_Number s (v, (i : Int))) = some (v', 0) := by
      intro k
      induction k with
      | zero =>
        intro i v hi
        exact ⟨v, run_inr (by simp [M_digits_Number, Tr.val_c, Tr.val_r, show ¬ ((i : Int) < s.length) by omega])⟩
      | succ k ih =>
        intro i v hi
        obtain ⟨v', h⟩ := ih (i + 1) (IntKind.u64.wrap (IntKind.u64.wrap (v * 10) + IntKind.u64.wrap (IntKind.u8.wrap (((s.getD i 0).toNat : Int) - 48)))) (by omega)
        exact ⟨v', (run_inl (by simp (disch := omega) [M_digits_Number, Tr.val_c, Tr.val_r, show ((i : Int) < s.length) by omega, i64_wrap])).trans h⟩
    obtain ⟨v, h⟩ := key s.length 0 0 (by omega)
    exact ⟨v, by rw [if_pos rfl]; exact h⟩

theorem Bcd_eq (s : List UInt8) (hs : s.length < 9223372036854775807) : ∃ v, g_digits_Bcd s = some (v, if right s 0 100 = true then 0 else 5) := by
  unfold g_digits_Bcd
  cases hr : right s 0 100 with
  | false => exact ⟨[], by rw [run_inr (x := ([], 5))]; rfl; simp [T_digits_Bcd, Tr.val_c, Tr.val_r, Right_eq s _ _ hs, hr]⟩
  | true =>
    have hlen : s.length ≤ 100 := by simp [right] at hr; omega
    have key : ∀ (x : List UInt8), x.length ≤ 102 → x.length % 2 = 0 → ∀ k i (l : List AV), 2 * i + 2 * k = x.length → l.length = i → ∃ v', run (M_digits_Bcd s) (M_digits_Bcd s (x, ((2 * i : Nat) : Int), l)) = some (v', 0) := by
      intro x hx he k
      induction k with
      | zero =>
        intro i l hi hl
        exact ⟨l, run_inr (by simp [M_digits_Bcd, Tr.val_c, Tr.val_r, show ¬ (2 * (i : Int) < x.length) by omega])⟩
      | succ k ih =>
        intro i l hi hl
        obtain ⟨v', h⟩ := ih (i + 1) (l ++ [.int .u8 (bitsA .or .u8 (shlA .u8 (IntKind.u8.wrap (((x.getD (2 * i) 0).toNat : Int) - 48)) 4) (IntKind.u8.wrap (((x.getD (2 * i + 1) 0).toNat : Int) - 48)))]) (by omega) (by simp [hl])
        exact ⟨v', (run_inl (by
          have h1 : (2 * (i : Int) < x.length) := by omega
          have h2 : (2 * (i : Int) + 1 < x.length) := by omega
          have h3 : (2 * (i : Int)).toNat = 2 * i := by omega
          have h4 : (2 * (i : Int) + 1).toNat = 2 * i + 1 := by omega
          have h5 : (l.length + 1) * 2 < 70368744177664 := by omega
          have h6 : 0 ≤ 2 * (i : Int) := by omega
          have h7 : 0 ≤ 2 * (i : Int) + 1 := by omega
          simp (disch := omega) [M_digits_Bcd, Tr.val_c, Tr.val_r, h1, h2, h3, h4, h5, h6, h7, i64_wrap]
          omega)).trans h⟩
    by_cases ho : s.length % 2 = 1
    · obtain ⟨v, h⟩ := key ([48] ++ s) (by simp; omega) (by simp; omega) ((s.length + 1) / 2) 0 [] (by simp; omega) rfl
      refine ⟨v, ?_⟩
      rw [run_inl (s := ([48] ++ s, 0, []))]
      · exact h
      · have h1 : (s.length : Int).tmod 2 = 1 := by rw [tmod_eq (by omega)]; omega
        have h2 : 1 + s.length < 70368744177664 := by omega
        simp [T_digits_Bcd, Tr.val_c, Tr.val_r, Right_eq s _ _ hs, hr, h1, h2]
    · obtain ⟨v, h⟩ := key s (by omega) (by omega) (s.length / 2) 0 [] (by omega) rfl
      refine ⟨v, ?_⟩
      rw [run_inl (s := (s, 0, []))]
      · exact h
      · have h1 : ((s.length : Int).tmod 2 == 1) = false := by rw [tmod_eq (by omega)]; simp; omega
        simp [T_digits_Bcd, Tr.val_c, Tr.val_r, Right_eq s _ _ hs, hr, h1]

theorem UnHex_eq (s : List UInt8) (hs : s.length < 1000) : ∃ v, g_digits_UnHex s = some (v, if (s.all hexd && decide (s.length % 2 = 0)) = true then 0 else 5) := by
  unfold g_digits_UnHex
  have hs' : s.length < 9223372036854775807 := by omega
  by_cases ho : s.length % 2 = 1
  · have h1 : (s.length : Int).tmod 2 = 1 := by rw [tmod_eq (by omega)]; omega
    exact ⟨[], by rw [run_inr (x := ([], 5))]; simp [ho]; simp [T_digits_UnHex, Tr.val_c, Tr.val_r, h1]⟩
  · have h1 : ((s.length : Int).tmod 2 == 1) = false := by rw [tmod_eq (by omega)]; simp; omega
    have h2 : s.length % 2 = 0 := by omega
    cases hr : s.all hexd with
    | false => exact ⟨[], by rw [run_inr (x := ([], 5))]; rfl; simp [T_digits_UnHex, Tr.val_c, Tr.val_r, all_hex s hs', hr, h1]⟩
    | true =>
      have key : ∀ k i (l : List AV), 2 * i + 2 * k = s.length → l.length = i → ∃ v', run (M_digits_UnHex s) (M_digits_UnHex s (((2 * i : Nat) : Int), l)) = some (v', 0) := by
        intro k
        induction k with
        | zero =>
          intro i l hi hl
          exact ⟨l, run_inr (by simp [M_digits_UnHex, Tr.val_c, Tr.val_r, show ¬ (2 * (i : Int) < s.length) by omega])⟩
        | succ k ih =>
          intro i l hi hl
          have h1 : (2 * (i : Int) < s.length) := by omega
          have h2 : (2 * (i : Int) + 1 < s.length) := by omega
          have h3 : (2 * (i : Int)).toNat = 2 * i := by omega
          have h4 : (2 * (i : Int) + 1).toNat = 2 * i + 1 := by omega
          have h5 : (l.length + 1) * 2 < 70368744177664 := by omega
          have h6 : 0 ≤ 2 * (i : Int) := by omega
          have h7 : 0 ≤ 2 * (i : Int) + 1 := by omega
          have hstep : ∃ y, (M_digits_UnHex s (((2 * i : Nat) : Int), l)).val = some (.inl (((2 * (i + 1) : Nat) : Int), l ++ [y])) := by
            apply Exists.intro
            simp (disch := omega) only [M_digits_UnHex, Tr.val_c, Tr.val_r, h1, h2, h3, h4, h5, h6, h7, i64_wrap, Int.natCast_mul, Int.cast_ofNat_Int, decide_true, cond_true, beq_self_eq_true, List.length_append, List.length_cons, List.length_nil, Nat.zero_add, Int.natCast_add]
            rw [show 2 * (i : Int) + 2 = 2 * ((i : Int) + (1 : Nat)) by omega]
            rfl
          obtain ⟨y, hy⟩ := hstep
          obtain ⟨v', h⟩ := ih (i + 1) (l ++ [y]) (by omega) (by simp [hl])
          exact ⟨v', (run_inl hy).trans h⟩
      obtain ⟨v, h⟩ := key (s.length / 2) 0 [] (by omega) rfl
      refine ⟨v, ?_⟩
      rw [run_inl (s := (0, []))]
      · rw [h2]; exact h
      · simp [T_digits_UnHex, Tr.val_c, Tr.val_r, all_hex s hs', hr, h1]

/- awake -/
theorem Bcd_123 : g_digits_Bcd [49, 50, 51] = some ([.int .u8 1, .int .u8 35], 0) := by
  unfold g_digits_Bcd T_digits_Bcd; rw [Right_eq _ _ _ (by simp)]
  exact run_some.2 ⟨10, by kernel_rfl⟩
theorem Hex_171 : g_digits_Hex [.int .u8 171] = some [65, 66] := run_some.2 ⟨10, by kernel_rfl⟩
theorem awake_eq : g_comptoirlaw02_awake = some true := by
  unfold g_comptoirlaw02_awake T_comptoirlaw02_awake; rw [Bcd_123, Right_eq _ _ _ (by simp), Hex_171]; rfl


theorem dig_hexd {c : UInt8} (h : dig c = true) : hexd c = true := by simp [hexd, h]

theorem all_set {p : UInt8 → Bool} {b : List UInt8} {A : Nat} (hA : A < b.length) (c : UInt8) (h : ∀ j, j < b.length → p (b.getD j 0) = true) : (b.set A c).all p = p c := by
  rw [← range_all (b.set A c) 0 p]
  cases hc : p c with
  | true =>
    simp only [List.all_eq_true, List.mem_range, List.length_set]
    intro i hi
    simp only [List.getD_eq_getElem?_getD, List.getElem?_set]
    split
    · rename_i e; subst e; simp [hA, hc]
    · simpa [List.getD_eq_getElem?_getD] using h i hi
  | false =>
    rw [Bool.eq_false_iff]
    intro hh
    simp only [List.all_eq_true, List.mem_range, List.length_set] at hh
    have := hh A hA
    simp [List.getD_eq_getElem?_getD, hA, hc] at this

theorem bool_eq_self : ∀ x : Bool, (x == x) = true := by decide

theorem end_eq (x0 x1 x2 : Int) (N : Nat) (hN : 1 ≤ N ∧ N ≤ 18) (b : List UInt8) (hb : b.length = N) (dc hc : Bool) (hd : b.all dig = dc) (hh : b.all hexd = hc) (hi : dc = true → hc = true) :
    (M_comptoirlaw02_DigitsRefuse x0 x1 x2 (.inr ((N : Int), dc, bl b, hc))).val = some (.inr true) := by
  obtain ⟨v1, e1⟩ := Number_eq b (by omega)
  obtain ⟨v2, e2⟩ := Bcd_eq b (by omega)
  obtain ⟨v3, e3⟩ := UnHex_eq b (by omega)
  have r1 : right b 1 18 = dc := by simp [right, hd, hb]; omega
  have r2 : right b 0 100 = dc := by simp [right, hd, hb]; omega
  have r3 : right b N N = dc := by simp [right, hd, hb]
  have r4 : right b (N + 1) (N + 5) = false := by
    have : ¬ ((N : Int) + 1 ≤ N) := by omega
    simp [right, hb, this]
  rw [r1] at e1; rw [r2] at e2; rw [hh, hb] at e3
  have w1 : IntKind.i64.wrap ((N : Int) + 1) = N + 1 := i64_wrap (by omega) (by omega)
  have w5 : IntKind.i64.wrap ((N : Int) + 5) = N + 5 := i64_wrap (by omega) (by omega)
  have ht : Int.tmod (N : Int) 2 = ((N % 2 : Nat) : Int) := by rw [tmod_eq (by omega)]; omega
  have f1 := Right_eq b N N (by omega)
  have f2 := Right_eq b (N + 1) (N + 5) (by omega)
  simp only [M_comptoirlaw02_DigitsRefuse, Tr.val_c, Tr.val_r, bytesOf_bl, e1, e2, e3, awake_eq, w1, w5, f1, f2, r3, r4, ht, Option.isSome_some, Option.getD_some, cond_true, beq_self_eq_true]
  by_cases hp : N % 2 = 0
  · cases dc <;> cases hc <;> simp_all
  · have hp1 : N % 2 = 1 := by omega
    cases dc <;> cases hc <;> simp_all

theorem refuse_eq (x0 x1 x2 : Int) (h0 : 0 ≤ x2) (h256 : x2 < 256) : g_comptoirlaw02_DigitsRefuse x0 x1 x2 = some true := by
  obtain ⟨a0, a1⟩ := u64_bounds x0
  obtain ⟨b0, b1⟩ := u64_bounds x1
  obtain ⟨N, hN⟩ : ∃ N : Nat, (N : Int) = 1 + (IntKind.u64.wrap x0) % 18 := ⟨(1 + (IntKind.u64.wrap x0) % 18).toNat, by omega⟩
  have hn : IntKind.i64.wrap (1 + IntKind.i64.wrap (Int.tmod (IntKind.u64.wrap x0) 18)) = (N : Int) := by
    rw [tmod_eq a0, i64_wrap (n := _ % 18) (by omega) (by omega), i64_wrap (by omega) (by omega), hN]
  have hN1 : 1 ≤ N ∧ N ≤ 18 := by omega
  unfold g_comptoirlaw02_DigitsRefuse
  rw [run_inl (s := .inl ((N : Int), (N : Int), bl (List.replicate N 0), 0))]
  rotate_left
  · simp only [T_comptoirlaw02_DigitsRefuse, hn, Int.toNat_natCast, bl_replicate, Tr.val_c, Tr.val_r, List.length_replicate, bl_length, beq_self_eq_true, cond_true]
    have : N * 2 < 70368744177664 := by omega
    simp [this]
  have key : ∀ k i (b : List UInt8), i + k = N → b.length = N → (∀ j, j < i → dig (b.getD j 0) = true) → run (M_comptoirlaw02_DigitsRefuse x0 x1 x2) (M_comptoirlaw02_DigitsRefuse x0 x1 x2 (.inl ((N : Int), (N : Int), bl b, (i : Int)))) = some true := by
    intro k
    induction k with
    | zero =>
      intro i b hi hb hd
      have hi : i = N := by omega
      subst hi
      have hwn : IntKind.u64.wrap (i : Int) = i := u64_wrap (by omega) (by omega)
      obtain ⟨A, hA⟩ : ∃ A : Nat, (A : Int) = IntKind.u64.wrap x1 % i := ⟨(IntKind.u64.wrap x1 % i).toNat, by have := Int.emod_nonneg (IntKind.u64.wrap x1) (b := i) (by omega); omega⟩
      have hA2 : A < i := by have := Int.emod_lt_of_pos (IntKind.u64.wrap x1) (b := i) (by omega); omega
      have hAw : IntKind.i64.wrap (Int.tmod (IntKind.u64.wrap x1) (IntKind.u64.wrap (i : Int))) = (A : Int) := by
        rw [hwn, tmod_eq b0, ← hA, i64_wrap (by omega) (by omega)]
      obtain ⟨c, hc⟩ : ∃ c : UInt8, (c.toNat : Int) = x2 := ⟨UInt8.ofNat x2.toNat, by rw [UInt8.toNat_ofNat', Nat.mod_eq_of_lt (by omega)]; omega⟩
      have hset : (bl b).set A (.int .u8 x2) = bl (b.set A c) := by
        rw [bl_set b A h0 h256]; congr 2; rw [← hc]; simp
      have hstep : (M_comptoirlaw02_DigitsRefuse x0 x1 x2 (.inl ((i : Int), (i : Int), bl b, (i : Int)))).val = some (.inl (.inr ((i : Int), dig c, bl (b.set A c), hexd c))) := by
        have hz : isZ (IntKind.u64.wrap (i : Int)) = false := by rw [hwn]; simp [isZ]; omega
        have hlt : ¬ ((i : Int) < i) := by omega
        have q1 : (A : Int) < i := by omega
        have q2 : (0 : Int) ≤ A := by omega
        simp only [M_comptoirlaw02_DigitsRefuse, Tr.val_c, Tr.val_r, hAw, hset, hz, hlt, decide_false, cond_false, bl_length, hb, q1, q2, hA2, decide_true, cond_true, Int.toNat_natCast, List.length_set, beq_self_eq_true]
        by_cases p1 : x2 ≥ 48 <;> by_cases p2 : x2 ≤ 57 <;> by_cases p3 : x2 ≥ 65 <;> by_cases p4 : x2 ≤ 70 <;>
          simp only [p1, p2, p3, p4, decide_true, decide_false, cond_true, cond_false] <;> (simp [dig, hexd]; omega)
      rw [run_inl hstep]
      have hbl : (b.set A c).length = i := by simpa using hb
      have hAb : A < b.length := by omega
      have e1 : (b.set A c).all dig = dig c := all_set hAb c (fun j hj => hd j (by omega))
      have e2 : (b.set A c).all hexd = hexd c := all_set hAb c (fun j hj => dig_hexd (hd j (by omega)))
      exact run_inr (end_eq x0 x1 x2 i hN1 (b.set A c) hbl (dig c) (hexd c) e1 e2 dig_hexd)
    | succ k ih =>
      intro i b hi hb hd
      have q1 : (i : Int) < N := by omega
      have q2 : (0 : Int) ≤ i := by omega
      have q3 : i < N := by omega
      have ht : Int.tmod (i : Int) 10 = (i : Int) % 10 := tmod_eq (by omega)
      have w1 : IntKind.u8.wrap ((i : Int) % 10) = (i : Int) % 10 := u8_wrap (by omega) (by omega)
      have w2 : IntKind.u8.wrap (48 + (i : Int) % 10) = 48 + (i : Int) % 10 := u8_wrap (by omega) (by omega)
      have w3 : IntKind.i64.wrap ((i : Int) + 1) = ((i + 1 : Nat) : Int) := by rw [i64_wrap (by omega) (by omega)]; omega
      have hs := bl_set b i (n := 48 + (i : Int) % 10) (by omega) (by omega)
      rw [run_inl (s := .inl ((N : Int), (N : Int), bl (b.set i (UInt8.ofNat (48 + (i : Int) % 10).toNat)), ((i + 1 : Nat) : Int)))]
      · refine ih (i + 1) _ (by omega) (by simpa using hb) (fun j hj => ?_)
        simp only [List.getD_eq_getElem?_getD, List.getElem?_set]
        split
        · rename_i e; subst e
          rw [if_pos (by omega)]
          simp [dig, UInt8.toNat_ofNat']; omega
        · simpa [List.getD_eq_getElem?_getD] using hd j (by omega)
      · simp only [M_comptoirlaw02_DigitsRefuse, Tr.val_c, Tr.val_r, bl_length, hb, q1, q2, q3, decide_true, cond_true, Int.toNat_natCast, ht, w1, w2, w3, hs, List.length_set, beq_self_eq_true]
  have := key N 0 (List.replicate N 0) (by omega) (by simp) (fun j hj => by omega)
  simpa using this

end Go.Proofs.Ythocnaabefdokaa
