/- What the printed functions come to, plainly. -/
import Derived.Test.YthocnaabefdokaaYaG6
import Derived.Test.YthocnaabefdokaaCxPl2
namespace Go.Proofs.Ythocnaabefdokaa
open Go.Cx Go.Cx.AV
set_option linter.unusedSimpArgs false
set_option linter.unusedVariables false

/- slices.Concat of two. -/
theorem Grow_eq (n : Int) (h0 : 0 ≤ n) (h : n < 35184372088832) : g_slices_Grow_byte_byte n = some [] := by
  unfold g_slices_Grow_byte_byte
  have w : IntKind.i64.wrap (n - 0) = n := by rw [Int.sub_zero]; exact i64_wrap (by omega) (by omega)
  have hn0 : ¬ (n < 0) := by omega
  have hT : (T_slices_Grow_byte_byte n).val = some (.inl (.inl ())) := by simp only [T_slices_Grow_byte_byte, Tr.val_c, Tr.val_r, hn0]; rfl
  rw [run_inl hT]
  rw [run_inl (s := .inr ())]
  · exact run_inr rfl
  · simp only [M_slices_Grow_byte_byte, Tr.val_c, Tr.val_r, w, List.length_replicate]
    by_cases hn : n > 0
    · have : n.toNat * 2 < 70368744177664 := by omega
      simp [hn, this]
    · simp [hn]

theorem Concat_eq (a b : List AV) (h : a.length + b.length < 17592186044416) : g_slices_Concat_byte_byte [.slice 1 (.int .u8) a .ro, .slice 1 (.int .u8) b .ro] = some (a ++ b) := by
  have e0 : getXs (List.getD [AV.slice 1 (.int .u8) a .ro, .slice 1 (.int .u8) b .ro] (Int.toNat 0) (.slice 1 (.int .u8) [] .ro)) = a := rfl
  have e1 : getXs (List.getD [AV.slice 1 (.int .u8) a .ro, .slice 1 (.int .u8) b .ro] (Int.toNat 1) (.slice 1 (.int .u8) [] .ro)) = b := rfl
  have w0 : IntKind.i64.wrap (0 + (a.length : Int)) = a.length := by rw [Int.zero_add]; exact i64_wrap (by omega) (by omega)
  have w1 : IntKind.i64.wrap ((a.length : Int) + b.length) = ((a.length + b.length : Nat) : Int) := by rw [i64_wrap (by omega) (by omega)]; omega
  have w2 : IntKind.i64.wrap (0 + 1) = 1 := rfl
  have w3 : IntKind.i64.wrap (1 + 1) = 2 := rfl
  have n0 : ¬ ((a.length : Int) < 0) := by omega
  have n1 : ¬ (((a.length + b.length : Nat) : Int) < 0) := by omega
  have l0 : a.length * 2 < 70368744177664 := by omega
  have l1 : (a.length + b.length) * 2 < 70368744177664 := by omega
  have gr := Grow_eq (((a.length + b.length : Nat) : Int)) (by omega) (by omega)
  unfold g_slices_Concat_byte_byte
  rw [run_inl (s := .inl (0, 0)) rfl]
  rw [run_inl (s := .inl ((a.length : Int), 1)) (by simp only [M_slices_Concat_byte_byte, Tr.val_c, Tr.val_r, e0, w0, w2, n0]; rfl)]
  rw [run_inl (s := .inl (((a.length + b.length : Nat) : Int), 2)) (by simp only [M_slices_Concat_byte_byte, Tr.val_c, Tr.val_r, e1, w1, w3, n1]; rfl)]
  rw [run_inl (s := .inr ([], 0)) (by simp only [M_slices_Concat_byte_byte, Tr.val_c, Tr.val_r, gr, opt_some]; rfl)]
  rw [run_inl (s := .inr (a, 1)) (by simp only [M_slices_Concat_byte_byte, Tr.val_c, Tr.val_r, e0, w2, List.nil_append, l0, decide_true, beq_self_eq_true]; rfl)]
  rw [run_inl (s := .inr (a ++ b, 2)) (by simp only [M_slices_Concat_byte_byte, Tr.val_c, Tr.val_r, e1, w3, List.length_append, l1, decide_true, beq_self_eq_true]; rfl)]
  exact run_inr (by simp only [M_slices_Concat_byte_byte, Tr.val_c, Tr.val_r, beq_self_eq_true]; rfl)

/- the disk -/
theorem may_eq (s0 s1 : List AV) (l : Int) (td tn : Bool) (i : Int) : g_disk_Disk_may_p0 s0 s1 l td tn i = some (if i < 0 then 1 else if i ≥ 2 then 1 else if tn = true then 24 else 0) := by
  unfold g_disk_Disk_may_p0
  simp only [T_disk_Disk_may_p0, Tr.val_c, Tr.val_r]
  by_cases h1 : i < 0
  · simp [h1]
  · by_cases h2 : i ≥ 2
    · simp [h1, h2]
    · cases tn <;> simp [h1, h2]

theorem Append_free (i : Int) (hi : i = 0 ∨ i = 1) (b s0 s1 : List AV) (l : Int) (hb : b.length < 8796093022208) (h0 : s0.length < 8796093022208) (h1 : s1.length < 8796093022208) :
    g_disk_Disk_Append_p00500000 i b s0 s1 l false false =
      some (if i = 0 then (if s0.length + b.length > 2000000 then (4, s0, s1, l, false, false) else (0, s0 ++ b, s1, l, false, false)) else (if s1.length + b.length > 2000000 then (4, s0, s1, l, false, false) else (0, s0, s1 ++ b, l, false, false))) := by
  have c0 := Concat_eq s0 b (by omega)
  have c1 := Concat_eq s1 b (by omega)
  have w0 : IntKind.i64.wrap ((s0.length : Int) + b.length) = (s0.length : Int) + b.length := i64_wrap (by omega) (by omega)
  have w1 : IntKind.i64.wrap ((s1.length : Int) + b.length) = (s1.length : Int) + b.length := i64_wrap (by omega) (by omega)
  unfold g_disk_Disk_Append_p00500000
  rcases hi with rfl | rfl
  · by_cases hl : s0.length + b.length > 2000000
    · have hl' : (s0.length : Int) + b.length > 2000000 := by omega
      simp [T_disk_Disk_Append_p00500000, Tr.val_c, Tr.val_r, val_opt, may_eq, w0, hl, hl']
    · have hl' : ¬ (s0.length : Int) + b.length > 2000000 := by omega
      simp [T_disk_Disk_Append_p00500000, Tr.val_c, Tr.val_r, val_opt, may_eq, w0, hl, hl', c0]
  · by_cases hl : s1.length + b.length > 2000000
    · have hl' : (s1.length : Int) + b.length > 2000000 := by omega
      simp [T_disk_Disk_Append_p00500000, Tr.val_c, Tr.val_r, val_opt, may_eq, w1, hl, hl']
    · have hl' : ¬ (s1.length : Int) + b.length > 2000000 := by omega
      simp [T_disk_Disk_Append_p00500000, Tr.val_c, Tr.val_r, val_opt, may_eq, w1, hl, hl', c1]

theorem Slot_own (i : Int) (s0 s1 : List AV) (l : Int) (td tn : Bool) (h0 : s0.length < 8796093022208) (h1 : s1.length < 8796093022208) :
    g_disk_Disk_Slot_p0500000 i s0 s1 l td tn = some (s0, s1, l, td, tn, if i = 0 then s0 else if i = 1 then s1 else []) := by
  have e : g_disk_Disk_slot_p0500000 i s0 s1 l td tn = some (if i = 0 then s0 else if i = 1 then s1 else [], s0, s1, l, td, tn) := by
    unfold g_disk_Disk_slot_p0500000
    simp only [T_disk_Disk_slot_p0500000, Tr.val_c, Tr.val_r]
    by_cases a1 : i < 0
    · simp [a1, show ¬ i = 0 by omega, show ¬ i = 1 by omega]
    · by_cases a2 : i ≥ 2
      · simp [a1, a2, show ¬ i = 0 by omega, show ¬ i = 1 by omega]
      · rcases (show i = 0 ∨ i = 1 by omega) with rfl | rfl <;> simp
  have hl : (if i = 0 then s0 else if i = 1 then s1 else []).length * 2 < 70368744177664 := by
    split
    · omega
    · split
      · omega
      · simp
  have e2 : g_disk_own_fslot_0p500000 i s0 s1 l td tn = some (s0, s1, l, td, tn, if i = 0 then s0 else if i = 1 then s1 else []) := by
    unfold g_disk_own_fslot_0p500000
    simp only [T_disk_own_fslot_0p500000, Tr.val_c, Tr.val_r, val_opt, e, Option.bind_some, hl, decide_true, cond_true, beq_self_eq_true]
  unfold g_disk_Disk_Slot_p0500000
  simp only [T_disk_Disk_Slot_p0500000, Tr.val_c, Tr.val_r, val_opt, e2, Option.bind_some, beq_self_eq_true, cond_true]

theorem awake22 : g_comptoirlaw22_awake = some true := by
  have a : g_disk_Disk_Append_p00500000 0 [.int .u8 1, .int .u8 2] [] [] 1 true false = some (24, [.int .u8 1], [], 0, true, true) := by
    have c0 := Concat_eq [] [.int .u8 1] (by simp)
    unfold g_disk_Disk_Append_p00500000
    have w : IntKind.i64.wrap 2 = 2 := rfl
    have w0 : IntKind.i64.wrap 0 = 0 := rfl
    simp [T_disk_Disk_Append_p00500000, Tr.val_c, Tr.val_r, val_opt, may_eq, c0, w, w0]
  have s := Slot_own 0 [.int .u8 1] [] 0 true true (by simp) (by simp)
  unfold g_comptoirlaw22_awake
  simp only [T_comptoirlaw22_awake, Tr.val_c, Tr.val_r, val_opt, a, s, Option.bind_some]
  rfl

theorem Erase_free (i : Int) (hi : i = 0 ∨ i = 1) (s0 s1 : List AV) (l : Int) (td : Bool) :
    g_disk_Disk_Erase_p0500000 i s0 s1 l td false = some (0, if i = 0 then [] else s0, if i = 0 then s1 else [], l, td, false) := by
  unfold g_disk_Disk_Erase_p0500000
  rcases hi with rfl | rfl <;> simp [T_disk_Disk_Erase_p0500000, Tr.val_c, Tr.val_r, val_opt, may_eq]

theorem apart_eq (A B : List AV) (x2 : Int) : g_comptoirlaw22_DiskApart A B x2 = some true := by
  obtain ⟨b0, b1⟩ := u64_bounds x2
  obtain ⟨i, hi, hi2⟩ : ∃ i : Int, IntKind.i64.wrap (Int.tmod (IntKind.u64.wrap x2) 2) = i ∧ (i = 0 ∨ i = 1) := ⟨_, rfl, by rw [tmod_eq b0, i64_wrap (by omega) (by omega)]; omega⟩
  unfold g_comptoirlaw22_DiskApart
  by_cases hbig : (A.length : Int) > 300 ∨ (B.length : Int) > 300
  · rw [run_inl (s := .inl true)]
    · exact run_inr (by simp only [M_comptoirlaw22_DiskApart, Tr.val_c, Tr.val_r, val_opt, awake22, Option.bind_some, cond_true])
    · by_cases h1 : (A.length : Int) > 300
      · simp only [T_comptoirlaw22_DiskApart, Tr.val_c, Tr.val_r, h1, decide_true, cond_true]
      · have h2 : (B.length : Int) > 300 := by omega
        simp only [T_comptoirlaw22_DiskApart, Tr.val_c, Tr.val_r, h1, h2, decide_true, decide_false, cond_false]
  have h1 : ¬ (A.length : Int) > 300 := by omega
  have h2 : ¬ (B.length : Int) > 300 := by omega
  have hw : IntKind.i64.wrap (1 - i) = 1 - i := i64_wrap (by omega) (by omega)
  have lA : A.length ≤ 300 := by omega
  have lB : B.length ≤ 300 := by omega
  have hj2 : 1 - i = 0 ∨ 1 - i = 1 := by omega
  obtain ⟨S0, hS0⟩ : ∃ S0, S0 = if i = 0 then A else B := ⟨_, rfl⟩
  obtain ⟨S1, hS1⟩ : ∃ S1, S1 = if i = 0 then B else A := ⟨_, rfl⟩
  obtain ⟨E0, hE0⟩ : ∃ E0, E0 = if i = 0 then A else [] := ⟨_, rfl⟩
  obtain ⟨E1, hE1⟩ : ∃ E1, E1 = if i = 0 then [] else A := ⟨_, rfl⟩
  have lS0 : S0.length ≤ 300 := by rw [hS0]; split <;> omega
  have lS1 : S1.length ≤ 300 := by rw [hS1]; split <;> omega
  have lE0 : E0.length ≤ 300 := by rw [hE0]; split <;> first | omega | simp
  have lE1 : E1.length ≤ 300 := by rw [hE1]; split <;> first | omega | simp
  have F1 : g_disk_Disk_Append_p00500000 i A [] [] 0 false false = some (0, E0, E1, 0, false, false) := by
    rw [Append_free i hi2 A [] [] 0 (by omega) (by simp) (by simp), hE0, hE1]
    have : ¬ (2000000 < A.length) := by omega
    rcases hi2 with rfl | rfl <;> simp [this]
  have F2 : g_disk_Disk_Append_p00500000 (1 - i) B E0 E1 0 false false = some (0, S0, S1, 0, false, false) := by
    rw [Append_free (1 - i) hj2 B E0 E1 0 (by omega) (by omega) (by omega), hE0, hE1, hS0, hS1]
    have : ¬ (2000000 < B.length) := by omega
    rcases hi2 with rfl | rfl <;> simp [this]
  have F3 : g_disk_Disk_Slot_p0500000 i S0 S1 0 false false = some (S0, S1, 0, false, false, A) := by
    rw [Slot_own i S0 S1 0 false false (by omega) (by omega)]
    rcases hi2 with rfl | rfl <;> simp [hS0, hS1]
  have F4 : g_disk_Disk_Erase_p0500000 (1 - i) S0 S1 0 false false = some (0, E0, E1, 0, false, false) := by
    rw [Erase_free (1 - i) hj2]
    rcases hi2 with rfl | rfl <;> simp [hS0, hS1, hE0, hE1]
  have F5 : g_disk_Disk_Slot_p0500000 i E0 E1 0 false false = some (E0, E1, 0, false, false, A) := by
    rw [Slot_own i E0 E1 0 false false (by omega) (by omega)]
    rcases hi2 with rfl | rfl <;> simp [hE0, hE1]
  have F6 : g_disk_Disk_Slot_p0500000 (1 - i) E0 E1 0 false false = some (E0, E1, 0, false, false, []) := by
    rw [Slot_own (1 - i) E0 E1 0 false false (by omega) (by omega)]
    rcases hi2 with rfl | rfl <;> simp [hE0, hE1]
  have F7 : g_disk_Disk_Append_p00500000 (1 - i) A E0 E1 0 false false = some (0, A, A, 0, false, false) := by
    rw [Append_free (1 - i) hj2 A E0 E1 0 (by omega) (by omega) (by omega), hE0, hE1]
    have : ¬ (2000000 < A.length) := by omega
    rcases hi2 with rfl | rfl <;> simp [this]
  have F8 : g_disk_Disk_Slot_p0500000 (1 - i) A A 0 false false = some (A, A, 0, false, false, A) := by
    rw [Slot_own (1 - i) A A 0 false false (by omega) (by omega)]
    rcases hi2 with rfl | rfl <;> simp
  rw [run_inl (s := .inl false) (by simp only [T_comptoirlaw22_DiskApart, Tr.val_c, Tr.val_r, h1, h2, decide_false, cond_false])]
  rw [run_inl (s := .inr (.inl (S0, S1, 0, false, false, false))) (by simp only [M_comptoirlaw22_DiskApart, Tr.val_c, Tr.val_r, val_opt, awake22, Option.bind_some, cond_false, Bool.not_true, hi, hw, F1, F2]; rfl)]
  rw [run_inl (s := .inr (.inr (.inl ((A.length : Int), S0, S1, 0, false, false, A, 0)))) (by simp only [M_comptoirlaw22_DiskApart, Tr.val_c, Tr.val_r, val_opt, Option.bind_some, cond_false, hi, F3, beq_self_eq_true, cond_true])]
  have key : ∀ k j (x : List AV), j + k = A.length → x.length = A.length → run (M_comptoirlaw22_DiskApart A B x2) (M_comptoirlaw22_DiskApart A B x2 (.inr (.inr (.inl ((A.length : Int), S0, S1, 0, false, false, x, (j : Int)))))) = some true := by
    intro k
    induction k with
    | zero =>
      intro j x hj hx
      have hlt : ¬ ((j : Int) < A.length) := by omega
      rw [run_inl (s := .inr (.inr (.inr (true, E0, E1, 0, false, false, x, A)))) (by simp only [M_comptoirlaw22_DiskApart, Tr.val_c, Tr.val_r, val_opt, Option.bind_some, cond_false, hi, hw, hlt, decide_false, F3, F4, beq_self_eq_true, cond_true])]
      exact run_inr (by simp only [M_comptoirlaw22_DiskApart, Tr.val_c, Tr.val_r, val_opt, Option.bind_some, cond_false, hi, hw, F5, F6, F7, F8, beq_self_eq_true, cond_true]; rfl)
    | succ k ih =>
      intro j x hj hx
      have q1 : (j : Int) < A.length := by omega
      have q2 : (0 : Int) ≤ j := by omega
      have q3 : j < A.length := by omega
      have w3 : IntKind.i64.wrap ((j : Int) + 1) = ((j + 1 : Nat) : Int) := by rw [i64_wrap (by omega) (by omega)]; omega
      rw [run_inl (s := .inr (.inr (.inl ((A.length : Int), S0, S1, 0, false, false, x.set j (.int .u8 (bitsA .xor .u8 (getI (x.getD j (.int .u8 0))) 1)), ((j + 1 : Nat) : Int))))) (by
        simp only [M_comptoirlaw22_DiskApart, Tr.val_c, Tr.val_r, hx, q1, q2, q3, w3, decide_true, cond_true, Int.toNat_natCast, List.length_set, beq_self_eq_true])]
      exact ih (j + 1) _ (by omega) (by simpa using hx)
  exact key A.length 0 A (by omega) rfl

end Go.Proofs.Ythocnaabefdokaa
