/- What the printed functions come to, plainly. -/
import Derived.Test.YthocnaabefdokaaYaG12
import Derived.Test.YthocnaabefdokaaCxPl2
namespace Go.Proofs.Ythocnaabefdokaa
open Go.Cx Go.Cx.AV
set_option linter.unusedSimpArgs false
set_option linter.unusedVariables false

/- slices.Concat of two. -/
theorem Grow_eq (n : Int) (h0 : 0 ≤ n) (h : n < 35184372088832) : g_slices_Grow_byte_byte n = some [] := by
  unfold g_slices_Grow_byte_byte
  have w : IntKind.i64.wrap (n - 0) = n := by rw [Int.sub_zero]; exact i64_wrap (by omega) (by omega)
  have hn0 : ¬ (n < 0) := by omega
  have hT : (T_slices_Grow_byte_byte n).val = some (.inl (.inl ())) := by simp only [T_slices_Grow_byte_byte, Tr.val_c, Tr.val_r, hn0]; rfl
  rw [run_inl hT]
  rw [run_inl (s := .inr ())]
  · exact run_inr rfl
  · simp only [M_slices_Grow_byte_byte, Tr.val_c, Tr.val_r, w, List.length_replicate]
    by_cases hn : n > 0
    · have : n.toNat * 2 < 70368744177664 := by omega
      simp [hn, this]
    · simp [hn]

theorem Concat_eq (a b : List AV) (h : a.length + b.length < 17592186044416) : g_slices_Concat_byte_byte [.slice 1 (.int .u8) a .ro, .slice 1 (.int .u8) b .ro] = some (a ++ b) := by
  have e0 : getXs (List.getD [AV.slice 1 (.int .u8) a .ro, .slice 1 (.int .u8) b .ro] (Int.toNat 0) (.slice 1 (.int .u8) [] .ro)) = a := rfl
  have e1 : getXs (List.getD [AV.slice 1 (.int .u8) a .ro, .slice 1 (.int .u8) b .ro] (Int.toNat 1) (.slice 1 (.int .u8) [] .ro)) = b := rfl
  have w0 : IntKind.i64.wrap (0 + (a.length : Int)) = a.length := by rw [Int.zero_add]; exact i64_wrap (by omega) (by omega)
  have w1 : IntKind.i64.wrap ((a.length : Int) + b.length) = ((a.length + b.length : Nat) : Int) := by rw [i64_wrap (by omega) (by omega)]; omega
  have w2 : IntKind.i64.wrap (0 + 1) = 1 := rfl
  have w3 : IntKind.i64.wrap (1 + 1) = 2 := rfl
  have n0 : ¬ ((a.length : Int) < 0) := by omega
  have n1 : ¬ (((a.length + b.length : Nat) : Int) < 0) := by omega
  have l0 : a.length * 2 < 70368744177664 := by omega
  have l1 : (a.length + b.length) * 2 < 70368744177664 := by omega
  have gr := Grow_eq (((a.length + b.length : Nat) : Int)) (by omega) (by omega)
  unfold g_slices_Concat_byte_byte
  rw [run_inl (s := .inl (0, 0)) rfl]
  rw [run_inl (s := .inl ((a.length : Int), 1)) (by simp only [M_slices_Concat_byte_byte, Tr.val_c, Tr.val_r, e0, w0, w2, n0]; rfl)]
  rw [run_inl (s := .inl (((a.length + b.length : Nat) : Int), 2)) (by simp only [M_slices_Concat_byte_byte, Tr.val_c, Tr.val_r, e1, w1, w3, n1]; rfl)]
  rw [run_inl (s := .inr ([], 0)) (by simp only [M_slices_Concat_byte_byte, Tr.val_c, Tr.val_r, gr, opt_some]; rfl)]
  rw [run_inl (s := .inr (a, 1)) (by simp only [M_slices_Concat_byte_byte, Tr.val_c, Tr.val_r, e0, w2, List.nil_append, l0, decide_true, beq_self_eq_true]; rfl)]
  rw [run_inl (s := .inr (a ++ b, 2)) (by simp only [M_slices_Concat_byte_byte, Tr.val_c, Tr.val_r, e1, w3, List.length_append, l1, decide_true, beq_self_eq_true]; rfl)]
  exact run_inr (by simp only [M_slices_Concat_byte_byte, Tr.val_c, Tr.val_r, beq_self_eq_true]; rfl)

/- the disk -/
theorem may_eq (s0 s1 : List AV) (l : Int) (td tn : Bool) (i : Int) : g_disk_Disk_may_p0 s0 s1 l td tn i = some (if i < 0 then 1 else if i ≥ 2 then 1 else if tn = true then 24 else 0) := by
  unfold g_disk_Disk_may_p0
  simp only [T_disk_Disk_may_p0, Tr.val_c, Tr.val_r]
  by_cases h1 : i < 0
  · simp [h1]
  · by_cases h2 : i ≥ 2
    · simp [h1, h2]
    · cases tn <;> simp [h1, h2]

theorem Append_free (i : Int) (hi : i = 0 ∨ i = 1) (b s0 s1 : List AV) (l : Int) (hb : b.length < 8796093022208) (h0 : s0.length < 8796093022208) (h1 : s1.length < 8796093022208) :
    g_disk_Disk_Append_p00500000 i b s0 s1 l false false =
      some (if i = 0 then (if s0.length + b.length > 2000000 then (4, s0, s1, l, false, false) else (0, s0 ++ b, s1, l, false, false)) else (if s1.length + b.length > 2000000 then (4, s0, s1, l, false, false) else (0, s0, s1 ++ b, l, false, false))) := by
  have c0 := Concat_eq s0 b (by omega)
  have c1 := Concat_eq s1 b (by omega)
  have w0 : IntKind.i64.wrap ((s0.length : Int) + b.length) = (s0.length : Int) + b.length := i64_wrap (by omega) (by omega)
  have w1 : IntKind.i64.wrap ((s1.length : Int) + b.length) = (s1.length : Int) + b.length := i64_wrap (by omega) (by omega)
  unfold g_disk_Disk_Append_p00500000
  rcases hi with rfl | rfl
  · by_cases hl : s0.length + b.length > 2000000
    · have hl' : (s0.length : Int) + b.length > 2000000 := by omega
      simp [T_disk_Disk_Append_p00500000, Tr.val_c, Tr.val_r, val_opt, may_eq, w0, hl, hl']
    · have hl' : ¬ (s0.length : Int) + b.length > 2000000 := by omega
      simp [T_disk_Disk_Append_p00500000, Tr.val_c, Tr.val_r, val_opt, may_eq, w0, hl, hl', c0]
  · by_cases hl : s1.length + b.length > 2000000
    · have hl' : (s1.length : Int) + b.length > 2000000 := by omega
      simp [T_disk_Disk_Append_p00500000, Tr.val_c, Tr.val_r, val_opt, may_eq, w1, hl, hl']
    · have hl' : ¬ (s1.length : Int) + b.length > 2000000 := by omega
      simp [T_disk_Disk_Append_p00500000, Tr.val_c, Tr.val_r, val_opt, may_eq, w1, hl, hl', c1]

theorem Slot_eq (i : Int) (s0 s1 : List AV) (l : Int) (td tn : Bool) (h0 : s0.length < 8796093022208) (h1 : s1.length < 8796093022208) :
    g_disk_Disk_Slot_p0500000 i s0 s1 l td tn = some (if i = 0 then s0 else if i = 1 then s1 else [], s0, s1, l, td, tn) := by
  have e : g_disk_Disk_slot_p0500000 i s0 s1 l td tn = some (if i = 0 then s0 else if i = 1 then s1 else [], s0, s1, l, td, tn) := by
    unfold g_disk_Disk_slot_p0500000
    simp only [T_disk_Disk_slot_p0500000, Tr.val_c, Tr.val_r]
    by_cases a1 : i < 0
    · simp [a1, show ¬ i = 0 by omega, show ¬ i = 1 by omega]
    · by_cases a2 : i ≥ 2
      · simp [a1, a2, show ¬ i = 0 by omega, show ¬ i = 1 by omega]
      · rcases (show i = 0 ∨ i = 1 by omega) with rfl | rfl <;> simp
  have hl : (if i = 0 then s0 else if i = 1 then s1 else []).length * 2 < 70368744177664 := by
    split
    · omega
    · split
      · omega
      · simp
  have e2 : g_disk_own_fslot_0p500000 i s0 s1 l td tn = some (if i = 0 then s0 else if i = 1 then s1 else [], s0, s1, l, td, tn) := by
    unfold g_disk_own_fslot_0p500000
    simp only [T_disk_own_fslot_0p500000, Tr.val_c, Tr.val_r, val_opt, e, Option.bind_some, hl, decide_true, cond_true, beq_self_eq_true]
  unfold g_disk_Disk_Slot_p0500000
  simp only [T_disk_Disk_Slot_p0500000, Tr.val_c, Tr.val_r, val_opt, e2, Option.bind_some]

theorem awake22 : g_comptoirlaw22_awake = some true := by
  have a : g_disk_Disk_Append_p00500000 0 [.int .u8 1, .int .u8 2] [] [] 1 true false = some (24, [.int .u8 1], [], 0, true, true) := by
    have c0 := Concat_eq [] [.int .u8 1] (by simp)
    unfold g_disk_Disk_Append_p00500000
    have w : IntKind.i64.wrap 2 = 2 := rfl
    have w0 : IntKind.i64.wrap 0 = 0 := rfl
    simp [T_disk_Disk_Append_p00500000, Tr.val_c, Tr.val_r, val_opt, may_eq, c0, w, w0]
  have s := Slot_eq 0 [.int .u8 1] [] 0 true true (by simp) (by simp)
  unfold g_comptoirlaw22_awake
  simp only [T_comptoirlaw22_awake, Tr.val_c, Tr.val_r, val_opt, a, s, Option.bind_some]
  rfl

theorem full_eq (x0 x1 : Int) : g_comptoirlaw22_DiskFull x0 x1 = some true := by
  obtain ⟨a0, a1⟩ := u64_bounds x0
  obtain ⟨b0, b1⟩ := u64_bounds x1
  obtain ⟨N, hN⟩ : ∃ N : Nat, (N : Int) = 1999997 + (IntKind.u64.wrap x0) % 3 := ⟨(1999997 + (IntKind.u64.wrap x0) % 3).toNat, by omega⟩
  have hn : IntKind.i64.wrap (1999997 + IntKind.i64.wrap (Int.tmod (IntKind.u64.wrap x0) 3)) = (N : Int) := by
    rw [tmod_eq a0, i64_wrap (n := _ % 3) (by omega) (by omega), i64_wrap (by omega) (by omega), hN]
  obtain ⟨i, hi, hi2⟩ : ∃ i : Int, IntKind.i64.wrap (Int.tmod (IntKind.u64.wrap x1) 2) = i ∧ (i = 0 ∨ i = 1) := ⟨_, rfl, by rw [tmod_eq b0, i64_wrap (by omega) (by omega)]; omega⟩
  have hN1 : N ≤ 1999999 := by omega
  have hN2 : 1999997 ≤ N := by omega
  obtain ⟨A, hA⟩ : ∃ A, A = List.replicate N (AV.int .u8 0) := ⟨_, rfl⟩
  have lA : A.length = N := by rw [hA]; simp
  obtain ⟨B, hB⟩ : ∃ B, B = List.replicate (2000000 - N + 1) (AV.int .u8 0) := ⟨_, rfl⟩
  have lB : B.length = 2000000 - N + 1 := by rw [hB]; simp
  obtain ⟨C, hC⟩ : ∃ C, C = List.replicate (2000000 - N) (AV.int .u8 0) := ⟨_, rfl⟩
  have lC : C.length = 2000000 - N := by rw [hC]; simp
  have w1 : IntKind.i64.wrap (2000000 - (N : Int)) = ((2000000 - N : Nat) : Int) := by rw [i64_wrap (by omega) (by omega)]; omega
  have w2 : IntKind.i64.wrap (((2000000 - N : Nat) : Int) + 1) = ((2000000 - N + 1 : Nat) : Int) := by rw [i64_wrap (by omega) (by omega)]; omega
  have p1 := Append_free i hi2 A [] [] 0 (by omega) (by simp) (by simp)
  unfold g_comptoirlaw22_DiskFull
  have q0 : (0 : Int) ≤ N := by omega
  have q1 : (0 : Int) ≤ ((2000000 - N : Nat) : Int) := by omega
  have q2 : (0 : Int) ≤ ((2000000 - N + 1 : Nat) : Int) := by omega
  have k0 : A.length * 2 < 70368744177664 := by omega
  have k1 : B.length * 2 < 70368744177664 := by omega
  have k2 : C.length * 2 < 70368744177664 := by omega
  rw [run_inl (s := .inr ((N : Int), false, if i = 0 then A else [], if i = 0 then [] else A, 0, false, false))]
  · refine run_inr ?_
    have p2 := Append_free i hi2 B (if i = 0 then A else []) (if i = 0 then [] else A) 0 (by omega) (by split <;> first | omega | (simp only [List.length_append, List.length_nil]; omega) | (simp only [List.length_nil]; omega)) (by split <;> first | omega | (simp only [List.length_append, List.length_nil]; omega) | (simp only [List.length_nil]; omega))
    have p3 := Append_free i hi2 C (if i = 0 then A else []) (if i = 0 then [] else A) 0 (by omega) (by split <;> first | omega | (simp only [List.length_append, List.length_nil]; omega) | (simp only [List.length_nil]; omega)) (by split <;> first | omega | (simp only [List.length_append, List.length_nil]; omega) | (simp only [List.length_nil]; omega))
    have p4 := Slot_eq i (if i = 0 then A ++ C else []) (if i = 0 then [] else A ++ C) 0 false false (by split <;> first | omega | (simp only [List.length_append, List.length_nil]; omega) | (simp only [List.length_nil]; omega)) (by split <;> first | omega | (simp only [List.length_append, List.length_nil]; omega) | (simp only [List.length_nil]; omega))
    have hab : A.length + B.length > 2000000 := by omega
    have hac : ¬ (A.length + C.length > 2000000) := by omega
    have e2 : g_disk_Disk_Append_p00500000 i B (if i = 0 then A else []) (if i = 0 then [] else A) 0 false false = some (4, if i = 0 then A else [], if i = 0 then [] else A, 0, false, false) := by
      rw [p2]; rcases hi2 with rfl | rfl <;> simp [hab]
    have e3 : g_disk_Disk_Append_p00500000 i C (if i = 0 then A else []) (if i = 0 then [] else A) 0 false false = some (0, if i = 0 then A ++ C else [], if i = 0 then [] else A ++ C, 0, false, false) := by
      rw [p3]; rcases hi2 with rfl | rfl <;> simp [hac]
    have hl : (((if i = 0 then (if i = 0 then A ++ C else []) else if i = 1 then (if i = 0 then [] else A ++ C) else []).length : Int) == 2000000) = true := by
      rcases hi2 with rfl | rfl <;> simp <;> omega
    simp only [M_comptoirlaw22_DiskFull, Tr.val_c, Tr.val_r, w1, w2, Int.toNat_natCast, ← hB, ← hC, hi, q1, q2, k1, k2, decide_true, cond_true, cond_false, beq_self_eq_true, Bool.and_self, val_opt, e2, e3, Option.bind_some, p4, hl]
  · have e1 : g_disk_Disk_Append_p00500000 i A [] [] 0 false false = some (0, if i = 0 then A else [], if i = 0 then [] else A, 0, false, false) := by
      rw [p1]; rcases hi2 with rfl | rfl <;> simp <;> omega
    simp only [T_comptoirlaw22_DiskFull, Tr.val_c, Tr.val_r, hn, hi, Int.toNat_natCast, ← hA, q0, k0, decide_true, cond_true, cond_false, beq_self_eq_true, Bool.and_self, val_opt, awake22, e1, Option.bind_some, Bool.not_true]
    rfl

end Go.Proofs.Ythocnaabefdokaa
