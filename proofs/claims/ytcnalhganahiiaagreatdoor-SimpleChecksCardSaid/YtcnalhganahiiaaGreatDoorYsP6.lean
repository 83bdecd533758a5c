/- What the printed functions come to, plainly. -/
import Derived.Test.YtcnalhganahiiaaGreatDoorYsG6
import Derived.Test.YtcnalhganahiiaaGreatDoorCxAm
namespace Go.Proofs.YtcnalhganahiiaaGreatDoor
open Go.Cx Go.Cx.AV
set_option linter.unusedSimpArgs false
set_option linter.unusedVariables false
abbrev tens : List UInt8 := [48, 49, 50, 51, 52, 53, 54, 55, 56, 57]
abbrev sixteens : List UInt8 := [48, 49, 50, 51, 52, 53, 54, 55, 56, 57, 65, 66, 67, 68, 69, 70]
def dig (c : UInt8) : Bool := decide (48 ≤ c.toNat) && decide (c.toNat ≤ 57)
def hexd (c : UInt8) : Bool := dig c || (decide (65 ≤ c.toNat) && decide (c.toNat ≤ 70))
theorem has_tens (c : UInt8) : decide (Go.Lib.indexByte tens c ≥ 0) = dig c :=
  all_bytes (p := fun c => decide (Go.Lib.indexByte tens c ≥ 0) = dig c) (by decide +kernel) c
theorem all_tens (s : List UInt8) (hs : s.length < 9223372036854775807) : g_digits_all_0fhas_ s tens = some (s.all dig) := by
  unfold g_digits_all_0fhas_
  rw [run_inl (s := (0 : Int)) rfl]
  have := run_exit (step := M_digits_all_0fhas_ s tens) (f := fun i => (i : Int)) (p := fun i => dig (s.getD i 0)) (n := s.length) (e := false) (z := true) (fun i hi => by
    simp (disch := omega) [M_digits_all_0fhas_, Tr.val_c, Tr.val_r, hi, i64_wrap, has_tens]
    cases dig _ <;> rfl) (by
    simp [M_digits_all_0fhas_, Tr.val_c, Tr.val_r])
  exact this.trans (by rw [range_all s 0 dig]; cases s.all dig <;> rfl)
def right (s : List UInt8) (lo hi : Int) : Bool := decide (lo ≤ s.length) && decide ((s.length : Int) ≤ hi) && s.all dig
theorem Right_eq (s : List UInt8) (lo hi : Int) (hs : s.length < 9223372036854775807) : g_digits_Right s lo hi = some (right s lo hi) := by
  simp only [g_digits_Right, T_digits_Right, Tr.val_c, val_opt, all_tens s hs, Tr.val_r, right, Option.bind_some, cond_true, ge_iff_le]
  by_cases h1 : lo ≤ s.length <;> by_cases h2 : (s.length : Int) ≤ hi <;> simp [h1, h2]
theorem take_one (s : List UInt8) (i : Nat) (h : i < s.length) : s.take (i + 1) = s.take i ++ [s.getD i 0] := by
  rw [List.take_succ_eq_append_getElem h, getD_lt h]
def pairs : List UInt8 → List (UInt8 × UInt8)
  | a :: b :: r => (a, b) :: pairs r
  | _ => []
theorem pairs_take : ∀ (s : List UInt8) (i : Nat), 2 * i + 1 < s.length → (pairs s).take (i + 1) = (pairs s).take i ++ [(s.getD (2 * i) 0, s.getD (2 * i + 1) 0)]
  | a :: b :: r, 0, _ => by simp [pairs]
  | a :: b :: r, i + 1, h => by
    have := pairs_take r i (by simp at h; omega)
    rw [pairs, List.take_succ_cons, this, List.take_succ_cons]
    rw [show 2 * (i + 1) = 2 * i + 1 + 1 by omega]
    simp
  | [a], i, h => by simp at h
  | [], i, h => by simp at h
theorem pairs_len : ∀ (s : List UInt8), (pairs s).length = s.length / 2
  | a :: b :: r => by simp [pairs, pairs_len r]; omega
  | [a] => by simp [pairs]
  | [] => by simp [pairs]
def numG (v : Int) (c : UInt8) : Int := IntKind.u64.wrap (IntKind.u64.wrap (v * 10) + IntKind.u64.wrap (IntKind.u8.wrap ((c.toNat : Int) - 48)))
def numV (s : List UInt8) : Int := s.foldl numG 0
theorem numV_take (s : List UInt8) (i : Nat) (h : i < s.length) : numV (s.take (i + 1)) = numG (numV (s.take i)) (s.getD i 0) := by
  rw [take_one s i h]; simp [numV]
def numS (s : List UInt8) : Int × Int := if right s 1 18 = true then (numV s, 0) else (0, 5)
theorem Number_eq (s : List UInt8) (hs : s.length < 9223372036854775807) : g_digits_Number s = some (numS s) := by
  unfold g_digits_Number numS
  cases hr : right s 1 18 with
  | false => rw [run_inr (x := (0, 5))]; rfl; simp [T_digits_Number, Tr.val_c, Tr.val_r, val_opt, Right_eq s _ _ hs, hr]
  | true =>
    rw [run_inl (s := (0, 0)) (by simp [T_digits_Number, Tr.val_c, Tr.val_r, val_opt, Right_eq s _ _ hs, hr])]
    have := run_until (step := M_digits_Number s) (f := fun i => (numV (s.take i), (i : Int))) (n := s.length) (x := (numV s, 0)) (fun i hi => by
      simp (disch := omega) [M_digits_Number, Tr.val_c, Tr.val_r, hi, i64_wrap, numV_take s i hi, numG]) (by
      simp [M_digits_Number, Tr.val_c, Tr.val_r])
    rw [if_pos rfl]; simpa [numV] using this
theorem has_sixteens (c : UInt8) : decide (Go.Lib.indexByte sixteens c ≥ 0) = hexd c :=
  all_bytes (p := fun c => decide (Go.Lib.indexByte sixteens c ≥ 0) = hexd c) (by decide +kernel) c
theorem all_hex (s : List UInt8) (hs : s.length < 9223372036854775807) : g_digits_all_0fUnHex1_p5fhas_ s = some (s.all hexd) := by
  unfold g_digits_all_0fUnHex1_p5fhas_
  rw [run_inl (s := (0 : Int)) rfl]
  have := run_exit (step := M_digits_all_0fUnHex1_p5fhas_ s) (f := fun i => (i : Int)) (p := fun i => hexd (s.getD i 0)) (n := s.length) (e := false) (z := true) (fun i hi => by
    simp (disch := omega) [M_digits_all_0fUnHex1_p5fhas_, Tr.val_c, Tr.val_r, hi, i64_wrap, has_sixteens]
    cases hexd _ <;> rfl) (by
    simp [M_digits_all_0fUnHex1_p5fhas_, Tr.val_c, Tr.val_r])
  exact this.trans (by rw [range_all s 0 hexd]; cases s.all hexd <;> rfl)
def hv (c : UInt8) : Nat := if c.toNat ≤ 57 then c.toNat - 48 else c.toNat - 55
theorem idx_hv (c : UInt8) : hexd c = true → Go.Lib.indexByte sixteens c = (hv c : Int) ∧ hv c < 16 :=
  all_bytes (p := fun c => hexd c = true → Go.Lib.indexByte sixteens c = (hv c : Int) ∧ hv c < 16) (by decide +kernel) c
theorem or_hv : ∀ x y : Fin 16, IntKind.u8.wrap (bitsA .or .i64 (shlA .i64 ((x.val : Nat) : Int) 4) ((y.val : Nat) : Int)) = ((16 * x.val + y.val : Nat) : Int) := by decide +kernel
def hexF (x : UInt8 × UInt8) : AV := .int .u8 ((16 * hv x.1 + hv x.2 : Nat) : Int)
def unhexS (s : List UInt8) : List AV × Int := if (decide (s.length % 2 = 0) && s.all hexd) = true then ((pairs s).map hexF, 0) else ([], 5)
theorem all_getD {p : UInt8 → Bool} {s : List UInt8} (h : s.all p = true) {i : Nat} (hi : i < s.length) : p (s.getD i 0) = true := by
  rw [getD_lt hi]; exact List.all_eq_true.1 h _ (List.getElem_mem hi)
theorem UnHex_eq (s : List UInt8) (hs : s.length < 1000000) : g_digits_UnHex s = some (unhexS s) := by
  unfold g_digits_UnHex unhexS
  have hs' : s.length < 9223372036854775807 := by omega
  by_cases ho : s.length % 2 = 0
  · have h1 : ((s.length : Int).tmod 2 == 1) = false := by rw [tmod_eq (by omega)]; simp; omega
    cases hr : s.all hexd with
    | false =>
      rw [if_neg (by simp)]
      exact run_inr (by simp only [T_digits_UnHex, Tr.val_c, Tr.val_r, val_opt, all_hex s hs', hr, h1, Option.bind_some, Bool.not_false, cond_true, cond_false])
    | true =>
      rw [if_pos (by simp [ho]), run_inl (s := (0, [])) (by simp only [T_digits_UnHex, Tr.val_c, Tr.val_r, val_opt, all_hex s hs', hr, h1, Option.bind_some, Bool.not_true, cond_true, cond_false])]
      have := run_until (step := M_digits_UnHex s) (f := fun i => (((2 * i : Nat) : Int), ((pairs s).take i).map hexF)) (n := s.length / 2) (x := ((pairs s).map hexF, 0)) (fun i hi => by
        have h1 : (((2 * i : Nat) : Int) < s.length) := by omega
        have w1 : IntKind.i64.wrap (((2 * i : Nat) : Int) + 1) = ((2 * i + 1 : Nat) : Int) := by rw [i64_wrap (by omega) (by omega)]; rfl
        have w2 : IntKind.i64.wrap (((2 * i : Nat) : Int) + 2) = ((2 * (i + 1) : Nat) : Int) := by rw [i64_wrap (by omega) (by omega)]; omega
        have h2 : (((2 * i + 1 : Nat) : Int) < s.length) := by omega
        have h3 : (0 : Int) ≤ ((2 * i : Nat) : Int) := by omega
        have h4 : (0 : Int) ≤ ((2 * i + 1 : Nat) : Int) := by omega
        have h5 : ∀ y : AV, ((((pairs s).take i).map hexF) ++ [y]).length * 2 < 70368744177664 := by
          intro y
          have : (((pairs s).take i).map hexF).length ≤ i := by rw [List.length_map, List.length_take]; omega
          rw [List.length_append, List.length_singleton]; omega
        have e := congrArg (List.map hexF) (pairs_take s i (by omega))
        rw [List.map_append, List.map_singleton] at e
        have v1 := idx_hv _ (all_getD hr (i := 2 * i) (by omega))
        have v2 := idx_hv _ (all_getD hr (i := 2 * i + 1) (by omega))
        have o := or_hv ⟨_, v1.2⟩ ⟨_, v2.2⟩
        simp only [M_digits_UnHex, Tr.val_c, Tr.val_r, w1, w2, h1, h2, h3, h4, toUInt8_toNat, Int.toNat_natCast, v1.1, v2.1, o, h5, e, hexF, beq_self_eq_true, decide_true, cond_true]) (by
        have h1 : ¬ (((2 * (s.length / 2) : Nat) : Int) < s.length) := by omega
        have e : (pairs s).take (s.length / 2) = pairs s := List.take_of_length_le (by rw [pairs_len]; omega)
        simp only [M_digits_UnHex, Tr.val_c, Tr.val_r, h1, e, beq_self_eq_true, decide_false, cond_true, cond_false])
      exact this
  · have h1 : ((s.length : Int).tmod 2 == 1) = true := by rw [tmod_eq (by omega)]; simp; omega
    rw [if_neg (by simp [ho])]
    exact run_inr (by simp only [T_digits_UnHex, Tr.val_c, Tr.val_r, h1, cond_true])
def inSpan (a b : Int) (c : UInt8) : Bool := decide ((c.toNat : Int) ≥ a) && decide ((c.toNat : Int) ≤ b)
theorem span_eq (a b : Int) (c : UInt8) : g_text_span_has a b (c.toNat : Int) = some (inSpan a b c) := by
  unfold g_text_span_has T_text_span_has inSpan
  by_cases h : (c.toNat : Int) ≥ a <;> simp only [Tr.val_c, Tr.val_r, h, decide_true, decide_false, cond_true, cond_false, Bool.true_and, Bool.false_and]
theorem drop_all {p : UInt8 → Bool} {s : List UInt8} {i : Nat} (h : i < s.length) : (s.drop i).all p = (p (s.getD i 0) && (s.drop (i + 1)).all p) := by
  rw [List.drop_eq_getElem_cons h, List.all_cons, getD_lt h]
theorem all1_eq (s : List UInt8) (hs : s.length < 9223372036854775807) (a b : Int) : g_text_all_0l1 s a b = some (s.all (inSpan a b)) := by
  unfold g_text_all_0l1
  rw [run_inl (s := (.inl ((0 : Int)))) rfl]
  have key : ∀ k i : Nat, i + k = s.length → run (M_text_all_0l1 s a b) (M_text_all_0l1 s a b (.inl ((i : Int)))) = some ((s.drop i).all (inSpan a b)) := by
    intro k
    induction k with
    | zero =>
      intro i hi
      have q : ¬ ((i : Int) < s.length) := by omega
      have e : s.drop i = [] := List.drop_eq_nil_of_le (by omega)
      rw [e]
      exact run_inr (by simp only [M_text_all_0l1, Tr.val_c, Tr.val_r, q, decide_false, cond_false]; rfl)
    | succ k ih =>
      intro i hi
      have q : (i : Int) < s.length := by omega
      have q2 : (0 : Int) ≤ i := by omega
      have w1 : IntKind.i64.wrap ((i : Int) + 1) = ((i + 1 : Nat) : Int) := by rw [i64_wrap (by omega) (by omega)]; rfl
      rw [drop_all (by omega)]
      rw [run_inl (s := (.inr (.inl ((i : Int))))) (by simp only [M_text_all_0l1, Tr.val_c, Tr.val_r, q, decide_true, cond_true])]
      rw [run_inl (s := (.inr (.inr ((inSpan a b (s.getD i 0), (i : Int)))))) (by simp only [M_text_all_0l1, Tr.val_c, Tr.val_r, val_opt, q, q2, Int.toNat_natCast, span_eq, Option.bind_some, decide_true, cond_true])]
      cases h : inSpan a b (s.getD i 0) with
      | false => exact run_inr (by simp only [M_text_all_0l1, Tr.val_c, Tr.val_r, Bool.not_false, cond_true, Bool.false_and])
      | true =>
        rw [run_inl (s := (.inl (((i + 1 : Nat) : Int)))) (by simp only [M_text_all_0l1, Tr.val_c, Tr.val_r, Bool.not_true, cond_false, w1])]
        rw [Bool.true_and]
        exact ih (i + 1) (by omega)
  exact key s.length 0 (by omega)
theorem all3_eq (s : List UInt8) (hs : s.length < 9223372036854775807) (a b a2 b2 a3 b3 : Int) : g_text_all_0l3 s a b a2 b2 a3 b3 = some (s.all fun c => inSpan a b c || inSpan a2 b2 c || inSpan a3 b3 c) := by
  unfold g_text_all_0l3
  rw [run_inl (s := (.inl ((0 : Int)))) rfl]
  have key : ∀ k i : Nat, i + k = s.length → run (M_text_all_0l3 s a b a2 b2 a3 b3) (M_text_all_0l3 s a b a2 b2 a3 b3 (.inl ((i : Int)))) = some ((s.drop i).all fun c => inSpan a b c || inSpan a2 b2 c || inSpan a3 b3 c) := by
    intro k
    induction k with
    | zero =>
      intro i hi
      have q : ¬ ((i : Int) < s.length) := by omega
      have e : s.drop i = [] := List.drop_eq_nil_of_le (by omega)
      rw [e]
      exact run_inr (by simp only [M_text_all_0l3, Tr.val_c, Tr.val_r, q, decide_false, cond_false]; rfl)
    | succ k ih =>
      intro i hi
      have q : (i : Int) < s.length := by omega
      have q2 : (0 : Int) ≤ i := by omega
      have w1 : IntKind.i64.wrap ((i : Int) + 1) = ((i + 1 : Nat) : Int) := by rw [i64_wrap (by omega) (by omega)]; rfl
      rw [drop_all (p := fun c => inSpan a b c || inSpan a2 b2 c || inSpan a3 b3 c) (by omega)]
      rw [run_inl (s := (.inr (.inl ((i : Int))))) (by simp only [M_text_all_0l3, Tr.val_c, Tr.val_r, q, decide_true, cond_true])]
      rw [run_inl (s := (.inr (.inr (.inl ((inSpan a b (s.getD i 0), (i : Int))))))) (by simp only [M_text_all_0l3, Tr.val_c, Tr.val_r, val_opt, q, q2, Int.toNat_natCast, span_eq, Option.bind_some, decide_true, cond_true])]
      rw [run_inl (s := (.inr (.inr (.inr (.inl ((inSpan a b (s.getD i 0) || inSpan a2 b2 (s.getD i 0), (i : Int)))))))) (by
        cases inSpan a b (s.getD i 0) <;> simp only [M_text_all_0l3, Tr.val_c, Tr.val_r, val_opt, q, q2, Int.toNat_natCast, span_eq, Option.bind_some, decide_true, cond_true, cond_false, Bool.true_or, Bool.false_or])]
      rw [run_inl (s := (.inr (.inr (.inr (.inr ((inSpan a b (s.getD i 0) || inSpan a2 b2 (s.getD i 0) || inSpan a3 b3 (s.getD i 0), (i : Int)))))))) (by
        cases inSpan a b (s.getD i 0) || inSpan a2 b2 (s.getD i 0) <;> simp only [M_text_all_0l3, Tr.val_c, Tr.val_r, val_opt, q, q2, Int.toNat_natCast, span_eq, Option.bind_some, decide_true, cond_true, cond_false, Bool.true_or, Bool.false_or])]
      cases h : inSpan a b (s.getD i 0) || inSpan a2 b2 (s.getD i 0) || inSpan a3 b3 (s.getD i 0) with
      | false => exact run_inr (by simp only [M_text_all_0l3, Tr.val_c, Tr.val_r, Bool.not_false, cond_true, Bool.false_and])
      | true =>
        rw [run_inl (s := (.inl (((i + 1 : Nat) : Int)))) (by simp only [M_text_all_0l3, Tr.val_c, Tr.val_r, Bool.not_true, cond_false, w1])]
        rw [Bool.true_and]
        exact ih (i + 1) (by omega)
  exact key s.length 0 (by omega)
def alnum (c : UInt8) : Bool := inSpan 48 57 c || inSpan 65 90 c || inSpan 97 122 c
def vis (c : UInt8) : Bool := inSpan 32 126 c
def alnB (s : List UInt8) (lo hi : Int) : Bool := decide (lo ≤ s.length) && decide ((s.length : Int) ≤ hi) && s.all alnum
def ansB (s : List UInt8) (hi : Int) : Bool := decide ((1 : Int) ≤ s.length) && decide ((s.length : Int) ≤ hi) && s.all vis
theorem Aln_eq (s : List UInt8) (lo hi : Int) (hs : s.length < 9223372036854775807) : g_text_Aln s lo hi = some (alnB s lo hi) := by
  simp only [g_text_Aln, T_text_Aln, Tr.val_c, val_opt, all3_eq s hs, Tr.val_r, alnB, Option.bind_some, cond_true, ge_iff_le]
  by_cases h1 : lo ≤ s.length <;> by_cases h2 : (s.length : Int) ≤ hi <;> simp [h1, h2] <;> rfl
theorem part_eq (s : List UInt8) (a b : Nat) (ha : a ≤ b) (hb : b ≤ s.length) (hs : s.length < 4294967296) : g_simple_part s (a : Int) (b : Int) = some (IntKind.i64.wrap (numS ((s.take b).drop a)).1) := by
  have q1 : (0 : Int) ≤ (b : Int) := by omega
  have q2 : (b : Int) ≤ (s.length : Int) := by omega
  have q3 : (0 : Int) ≤ (a : Int) := by omega
  have q4 : (a : Int) ≤ (b : Int) := by omega
  have l : ((s.take b).drop a).length < 9223372036854775807 := by simp only [List.length_drop, List.length_take]; omega
  simp only [g_simple_part, T_simple_part, Tr.val_c, Tr.val_r, val_opt, q1, q2, q3, q4, Int.toNat_natCast, Number_eq _ l, Option.bind_some, decide_true, cond_true]
abbrev t2026 : List UInt8 := [50, 48, 50, 54, 48, 49, 48, 49, 49, 50, 48, 48, 48, 48]
theorem Time_2026 : g_simple_Time t2026 = some true := by
  have r : g_digits_Right t2026 14 14 = some true := (Right_eq t2026 14 14 (by decide)).trans (by kernel_rfl)
  have p1 : g_simple_part t2026 0 4 = some 2026 := (part_eq t2026 0 4 (by decide) (by decide) (by decide)).trans (by kernel_rfl)
  have p2 : g_simple_part t2026 4 6 = some 1 := (part_eq t2026 4 6 (by decide) (by decide) (by decide)).trans (by kernel_rfl)
  have p3 : g_simple_part t2026 6 8 = some 1 := (part_eq t2026 6 8 (by decide) (by decide) (by decide)).trans (by kernel_rfl)
  have p4 : g_simple_part t2026 8 10 = some 12 := (part_eq t2026 8 10 (by decide) (by decide) (by decide)).trans (by kernel_rfl)
  have p5 : g_simple_part t2026 10 12 = some 0 := (part_eq t2026 10 12 (by decide) (by decide) (by decide)).trans (by kernel_rfl)
  have p6 : g_simple_part t2026 12 14 = some 0 := (part_eq t2026 12 14 (by decide) (by decide) (by decide)).trans (by kernel_rfl)
  have d : g_simple_days 2026 1 = some 31 := by kernel_rfl
  unfold g_simple_Time T_simple_Time
  rw [r, p1, p2, p3, p4, p5, p6]
  simp only [val_opt, Option.bind_some, Tr.val_c, Tr.val_r, d]
  rfl
theorem TimeText_2026 : g_simple_TimeText t2026 = some ([50, 48, 50, 54, 45, 48, 49, 45, 48, 49, 84, 49, 50, 58, 48, 48, 58, 48, 48], 0) := by
  unfold g_simple_TimeText T_simple_TimeText
  rw [Time_2026]
  kernel_rfl
theorem awake10 : g_comptoirlaw10_awake = some true := by
  unfold g_comptoirlaw10_awake T_comptoirlaw10_awake
  rw [TimeText_2026]
  kernel_rfl
abbrev sv (n : Nat) : List UInt8 := List.replicate n 55
theorem sv_text : ∀ n : Fin 24, Go.Lib.validD (sv n.val) = true ∧ Go.Lib.idxFunc (fun x : Nat => !mayB x) true ⟨⟨sv n.val⟩⟩ = -1 ∧ Go.Lib.runeCountL (sv n.val) = n.val := by decide +kernel
theorem sv_rest : ∀ n : Fin 24, (sv n.val).all (inSpan 32 255) = true ∧ Go.Lib.hasPrefix (sv n.val) [32] = false ∧ Go.Lib.hasSuffix (sv n.val) [32] = false ∧ (sv n.val).all dig = true ∧ (sv n.val).all hexd = true ∧
    (sv n.val).all (fun c => inSpan 48 57 c || inSpan 65 90 c || inSpan 97 122 c) = true ∧ (((sv n.val).length == 4) && Go.Lib.trimS (sv n.val) [65, 66, 67, 68, 69, 70, 71, 72, 73, 74, 75, 76, 77, 78, 79, 80, 81, 82, 83, 84, 85, 86, 87, 88, 89, 90] == []) = false := by decide +kernel
theorem sv_len (n : Nat) : (sv n).length = n := List.length_replicate
theorem Utf8_sv {n : Nat} (h : n < 24) : g_text_Utf8 (sv n) = some true := by
  obtain ⟨a, b, c⟩ := sv_text ⟨n, h⟩
  have d : decide ((-1 : Int) < 0) = true := by decide
  simp only [g_text_Utf8, T_text_Utf8, Tr.val_c, Tr.val_r, a, b, d, cond_true]
theorem Plain_sv {n : Nat} (h : n < 24) (lo hi : Int) : g_text_Plain (sv n) lo hi = some (decide (lo ≤ n) && decide ((n : Int) ≤ hi)) := by
  obtain ⟨a, b, c⟩ := sv_text ⟨n, h⟩
  obtain ⟨d, e, f, -⟩ := sv_rest ⟨n, h⟩
  simp only at a b c d e f
  have l := sv_len n
  have q : n < 70368744177664 := by omega
  have r : g_text_Runes (sv n) = some (n : Int) := by
    simp only [g_text_Runes, T_text_Runes, Tr.val_c, Tr.val_r, val_opt, Utf8_sv h, Option.bind_some, Bool.not_true, cond_false, l, q, c, decide_true, cond_true]
  have al : g_text_all_0l1 (sv n) 32 255 = some true := by rw [all1_eq _ (by omega), d]
  simp only [g_text_Plain, T_text_Plain, Tr.val_c, Tr.val_r, val_opt, r, Utf8_sv h, al, e, f, Option.bind_some, cond_true, Bool.not_false, ge_iff_le]
  by_cases h1 : lo ≤ (n : Int) <;> by_cases h2 : (n : Int) ≤ hi <;> simp [h1, h2]
theorem ask1 {n : Nat} (h : n < 24) (lo hi : Int) : g_comptoirlaw10_SimpleChecks_1_0ppp 1 lo hi (sv n) = some (decide (lo ≤ n) && decide ((n : Int) ≤ hi)) := by
  obtain ⟨-, -, -, d, -⟩ := sv_rest ⟨n, h⟩
  simp only at d
  have l := sv_len n
  have r : g_digits_Right (sv n) lo hi = some (decide (lo ≤ n) && decide ((n : Int) ≤ hi)) := by
    rw [Right_eq _ _ _ (by omega), right, d, l, Bool.and_true]
  generalize (decide (lo ≤ n) && decide ((n : Int) ≤ hi)) = b at r ⊢
  simp only [g_comptoirlaw10_SimpleChecks_1_0ppp, T_comptoirlaw10_SimpleChecks_1_0ppp, g_simple_Check, T_simple_Check, g_simple_rule_number, T_simple_rule_number, Tr.val_c, Tr.val_r, val_opt, r, Int.reduceBEq, Option.bind_some, cond_true, cond_false]
  cases b <;> rfl
theorem ask2 {n : Nat} (h : n < 24) (lo hi : Int) : g_comptoirlaw10_SimpleChecks_1_0ppp 2 lo hi (sv n) = some (decide (lo ≤ n) && decide ((n : Int) ≤ hi)) := by
  have r := Plain_sv h lo hi
  generalize (decide (lo ≤ n) && decide ((n : Int) ≤ hi)) = b at r ⊢
  simp only [g_comptoirlaw10_SimpleChecks_1_0ppp, T_comptoirlaw10_SimpleChecks_1_0ppp, g_simple_Check, T_simple_Check, g_simple_rule_text, T_simple_rule_text, Tr.val_c, Tr.val_r, val_opt, r, Int.reduceBEq, Option.bind_some, cond_true, cond_false]
  cases b <;> rfl
theorem ask6 {n : Nat} (h : n < 24) (lo hi : Int) : g_comptoirlaw10_SimpleChecks_1_0ppp 6 lo hi (sv n) = some (decide (lo ≤ n) && decide ((n : Int) ≤ hi)) := by
  obtain ⟨-, -, -, -, -, d, -⟩ := sv_rest ⟨n, h⟩
  simp only at d
  have l := sv_len n
  have r : g_text_Aln (sv n) lo hi = some (decide (lo ≤ n) && decide ((n : Int) ≤ hi)) := by
    simp only [g_text_Aln, T_text_Aln, Tr.val_c, Tr.val_r, val_opt, all3_eq (sv n) (by omega), d, l, Option.bind_some, ge_iff_le]
    by_cases h1 : lo ≤ (n : Int) <;> by_cases h2 : (n : Int) ≤ hi <;> simp [h1, h2]
  generalize (decide (lo ≤ n) && decide ((n : Int) ≤ hi)) = b at r ⊢
  simp only [g_comptoirlaw10_SimpleChecks_1_0ppp, T_comptoirlaw10_SimpleChecks_1_0ppp, g_simple_Check, T_simple_Check, g_simple_rule_alnum, T_simple_rule_alnum, Tr.val_c, Tr.val_r, val_opt, r, Int.reduceBEq, Option.bind_some, cond_true, cond_false]
  cases b <;> rfl
theorem ask7 {n : Nat} (h : n < 24) (lo hi : Int) : g_comptoirlaw10_SimpleChecks_1_0ppp 7 lo hi (sv n) = some (decide (n % 2 = 0) && (decide (lo ≤ n) && decide ((n : Int) ≤ hi))) := by
  obtain ⟨-, -, -, -, d, -⟩ := sv_rest ⟨n, h⟩
  simp only at d
  have l := sv_len n
  have u := UnHex_eq (sv n) (by omega)
  unfold unhexS at u
  rw [d, l, Bool.and_true] at u
  have n5 : ((5 : Int) == 0) = false := rfl
  simp only [g_comptoirlaw10_SimpleChecks_1_0ppp, T_comptoirlaw10_SimpleChecks_1_0ppp, g_simple_Check, T_simple_Check, g_simple_rule_hex, T_simple_rule_hex, Tr.val_c, Tr.val_r, val_opt, u, l, Int.reduceBEq, Option.bind_some, cond_true, cond_false, ge_iff_le]
  by_cases h0 : n % 2 = 0
  · simp only [h0, decide_true, if_true, beq_self_eq_true, cond_true, Bool.true_and]
    by_cases h1 : lo ≤ (n : Int) <;> by_cases h2 : (n : Int) ≤ hi <;> simp [h1, h2]
  · simp only [h0, decide_false, n5, cond_false, Bool.false_and, Bool.false_eq_true, if_false]
    rfl
theorem ask3 {n : Nat} (h : n < 24) (lo hi : Int) : g_comptoirlaw10_SimpleChecks_1_0ppp 3 lo hi (sv n) = some false := by
  obtain ⟨-, -, -, -, -, -, d⟩ := sv_rest ⟨n, h⟩
  simp only at d
  have l := sv_len n
  have r : g_simple_capitals (sv n) = some false := by
    rw [l] at d
    have e4 : (((n : Int)) == 4) = (n == 4) := by rw [Bool.eq_iff_iff]; simp; omega
    simp only [g_simple_capitals, T_simple_capitals, Tr.val_c, Tr.val_r, l, e4]
    by_cases h4 : n = 4
    · subst h4; simpa using d
    · have : (n == 4) = false := by simpa using h4
      rw [this, cond_false]
  simp only [g_comptoirlaw10_SimpleChecks_1_0ppp, T_comptoirlaw10_SimpleChecks_1_0ppp, g_simple_Check, T_simple_Check, g_simple_rule_code, T_simple_rule_code, Tr.val_c, Tr.val_r, val_opt, r, Int.reduceBEq, Option.bind_some, cond_true, cond_false]
  rfl
theorem mod_of (x : Int) (k : Nat) (hk : 0 < k) (hk2 : k < 1000) : ∃ N : Nat, IntKind.i64.wrap (Int.tmod (IntKind.u64.wrap x) (k : Int)) = (N : Int) ∧ N < k := by
  obtain ⟨a0, a1⟩ := u64_bounds x
  have m1 := Int.emod_nonneg (IntKind.u64.wrap x) (b := (k : Int)) (by omega)
  have m2 := Int.emod_lt_of_pos (IntKind.u64.wrap x) (b := (k : Int)) (by omega)
  refine ⟨(IntKind.u64.wrap x % (k : Int)).toNat, ?_, by omega⟩
  rw [tmod_eq a0, i64_wrap (by omega) (by omega)]; omega
theorem schecks_eq (x0 x1 x2 : Int) : g_comptoirlaw10_SimpleChecks x0 x1 x2 = some true := by
  obtain ⟨L, hL, L20⟩ := mod_of x0 20 (by decide) (by decide)
  obtain ⟨T, hT, T20⟩ := mod_of x1 20 (by decide) (by decide)
  obtain ⟨N, hN, N24⟩ := mod_of x2 24 (by decide) (by decide)
  simp only [Int.cast_ofNat_Int, Int.ofNat_eq_natCast] at hL hT hN
  unfold g_comptoirlaw10_SimpleChecks
  rw [run_inl (s := ((0 : Int), ([] : List UInt8))) (by simp only [T_comptoirlaw10_SimpleChecks, Tr.val_r])]
  refine run_until (step := M_comptoirlaw10_SimpleChecks x0 x1 x2) (f := fun i => ((i : Int), sv i)) (n := N) (fun i hi => ?_) ?_
  · have q1 : (i : Int) < (N : Int) := by omega
    have q2 : i + 1 < 70368744177664 := by omega
    have w2 : IntKind.i64.wrap ((i : Int) + 1) = ((i + 1 : Nat) : Int) := by rw [i64_wrap (by omega) (by omega)]; omega
    have e : sv i ++ [55] = sv (i + 1) := by rw [sv, sv, List.replicate_succ']
    simp only [M_comptoirlaw10_SimpleChecks, Tr.val_c, Tr.val_r, hN, q1, sv_len, q2, w2, e, decide_true, cond_true]
  · have q1 : ¬ (N : Int) < (N : Int) := by omega
    have a1 := ask1 N24 (L : Int) (T : Int)
    have a2 := ask2 N24 (L : Int) (T : Int)
    have a6 := ask6 N24 (L : Int) (T : Int)
    have a7 := ask7 N24 (L : Int) (T : Int)
    have a3 := ask3 N24 (L : Int) (T : Int)
    have m2 : (Int.tmod (N : Int) 2 == 0) = decide (N % 2 = 0) := by rw [tmod_eq (by omega), Bool.eq_iff_iff]; simp; omega
    simp only [M_comptoirlaw10_SimpleChecks, Tr.val_c, Tr.val_r, val_opt, hN, hL, hT, q1, awake10, a1, a2, a6, a7, a3, m2, Option.bind_some, decide_false, cond_true, cond_false, ge_iff_le, Bool.not_false]
    by_cases h1 : (L : Int) ≤ (N : Int) <;> by_cases h2 : (N : Int) ≤ (T : Int) <;> by_cases h3 : N % 2 = 0 <;> simp [h1, h2, h3]
end Go.Proofs.YtcnalhganahiiaaGreatDoor
