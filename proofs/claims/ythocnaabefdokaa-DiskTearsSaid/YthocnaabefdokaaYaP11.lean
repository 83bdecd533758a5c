/- What the printed functions come to, plainly. -/
import Derived.Test.YthocnaabefdokaaYaG11
import Derived.Test.YthocnaabefdokaaCxPl3
namespace Go.Proofs.Ythocnaabefdokaa
open Go.Cx Go.Cx.AV
set_option linter.unusedSimpArgs false
set_option linter.unusedVariables false

/- slices.Concat of two. -/
theorem Grow_eq (n : Int) (h0 : 0 ≤ n) (h : n < 35184372088832) : g_slices_Grow_byte_byte n = some [] := by
  unfold g_slices_Grow_byte_byte
  have w : IntKind.i64.wrap (n - 0) = n := by rw [Int.sub_zero]; exact i64_wrap (by omega) (by omega)
  have hn0 : ¬ (n < 0) := by omega
  have hT : (T_slices_Grow_byte_byte n).val = some (.inl (.inl ())) := by simp only [T_slices_Grow_byte_byte, Tr.val_c, Tr.val_r, hn0]; rfl
  rw [run_inl hT]
  rw [run_inl (s := .inr ())]
  · exact run_inr rfl
  · simp only [M_slices_Grow_byte_byte, Tr.val_c, Tr.val_r, w, List.length_replicate]
    by_cases hn : n > 0
    · have : n.toNat * 2 < 70368744177664 := by omega
      simp [hn, this]
    · simp [hn]

theorem Concat_eq (a b : List AV) (h : a.length + b.length < 17592186044416) : g_slices_Concat_byte_byte [.slice 1 (.int .u8) a .ro, .slice 1 (.int .u8) b .ro] = some (a ++ b) := by
  have e0 : getXs (List.getD [AV.slice 1 (.int .u8) a .ro, .slice 1 (.int .u8) b .ro] (Int.toNat 0) (.slice 1 (.int .u8) [] .ro)) = a := rfl
  have e1 : getXs (List.getD [AV.slice 1 (.int .u8) a .ro, .slice 1 (.int .u8) b .ro] (Int.toNat 1) (.slice 1 (.int .u8) [] .ro)) = b := rfl
  have w0 : IntKind.i64.wrap (0 + (a.length : Int)) = a.length := by rw [Int.zero_add]; exact i64_wrap (by omega) (by omega)
  have w1 : IntKind.i64.wrap ((a.length : Int) + b.length) = ((a.length + b.length : Nat) : Int) := by rw [i64_wrap (by omega) (by omega)]; omega
  have w2 : IntKind.i64.wrap (0 + 1) = 1 := rfl
  have w3 : IntKind.i64.wrap (1 + 1) = 2 := rfl
  have n0 : ¬ ((a.length : Int) < 0) := by omega
  have n1 : ¬ (((a.length + b.length : Nat) : Int) < 0) := by omega
  have l0 : a.length * 2 < 70368744177664 := by omega
  have l1 : (a.length + b.length) * 2 < 70368744177664 := by omega
  have gr := Grow_eq (((a.length + b.length : Nat) : Int)) (by omega) (by omega)
  unfold g_slices_Concat_byte_byte
  rw [run_inl (s := .inl (0, 0)) rfl]
  rw [run_inl (s := .inl ((a.length : Int), 1)) (by simp only [M_slices_Concat_byte_byte, Tr.val_c, Tr.val_r, e0, w0, w2, n0]; rfl)]
  rw [run_inl (s := .inl (((a.length + b.length : Nat) : Int), 2)) (by simp only [M_slices_Concat_byte_byte, Tr.val_c, Tr.val_r, e1, w1, w3, n1]; rfl)]
  rw [run_inl (s := .inr ([], 0)) (by simp only [M_slices_Concat_byte_byte, Tr.val_c, Tr.val_r, gr, opt_some]; rfl)]
  rw [run_inl (s := .inr (a, 1)) (by simp only [M_slices_Concat_byte_byte, Tr.val_c, Tr.val_r, e0, w2, List.nil_append, l0, decide_true, beq_self_eq_true]; rfl)]
  rw [run_inl (s := .inr (a ++ b, 2)) (by simp only [M_slices_Concat_byte_byte, Tr.val_c, Tr.val_r, e1, w3, List.length_append, l1, decide_true, beq_self_eq_true]; rfl)]
  exact run_inr (by simp only [M_slices_Concat_byte_byte, Tr.val_c, Tr.val_r, beq_self_eq_true]; rfl)

/- the disk -/
theorem may_eq (s0 s1 : List AV) (l : Int) (td tn : Bool) (i : Int) : g_disk_Disk_may_p0 s0 s1 l td tn i = some (if i < 0 then 1 else if i ≥ 2 then 1 else if tn = true then 24 else 0) := by
  unfold g_disk_Disk_may_p0
  simp only [T_disk_Disk_may_p0, Tr.val_c, Tr.val_r]
  by_cases h1 : i < 0
  · simp [h1]
  · by_cases h2 : i ≥ 2
    · simp [h1, h2]
    · cases tn <;> simp [h1, h2]

theorem Append_free (i : Int) (hi : i = 0 ∨ i = 1) (b s0 s1 : List AV) (l : Int) (hb : b.length < 8796093022208) (h0 : s0.length < 8796093022208) (h1 : s1.length < 8796093022208) :
    g_disk_Disk_Append_p00500000 i b s0 s1 l false false =
      some (if i = 0 then (if s0.length + b.length > 2000000 then (4, s0, s1, l, false, false) else (0, s0 ++ b, s1, l, false, false)) else (if s1.length + b.length > 2000000 then (4, s0, s1, l, false, false) else (0, s0, s1 ++ b, l, false, false))) := by
  have c0 := Concat_eq s0 b (by omega)
  have c1 := Concat_eq s1 b (by omega)
  have w0 : IntKind.i64.wrap ((s0.length : Int) + b.length) = (s0.length : Int) + b.length := i64_wrap (by omega) (by omega)
  have w1 : IntKind.i64.wrap ((s1.length : Int) + b.length) = (s1.length : Int) + b.length := i64_wrap (by omega) (by omega)
  unfold g_disk_Disk_Append_p00500000
  rcases hi with rfl | rfl
  · by_cases hl : s0.length + b.length > 2000000
    · have hl' : (s0.length : Int) + b.length > 2000000 := by omega
      simp [T_disk_Disk_Append_p00500000, Tr.val_c, Tr.val_r, val_opt, may_eq, w0, hl, hl']
    · have hl' : ¬ (s0.length : Int) + b.length > 2000000 := by omega
      simp [T_disk_Disk_Append_p00500000, Tr.val_c, Tr.val_r, val_opt, may_eq, w0, hl, hl', c0]
  · by_cases hl : s1.length + b.length > 2000000
    · have hl' : (s1.length : Int) + b.length > 2000000 := by omega
      simp [T_disk_Disk_Append_p00500000, Tr.val_c, Tr.val_r, val_opt, may_eq, w1, hl, hl']
    · have hl' : ¬ (s1.length : Int) + b.length > 2000000 := by omega
      simp [T_disk_Disk_Append_p00500000, Tr.val_c, Tr.val_r, val_opt, may_eq, w1, hl, hl', c1]

theorem Slot_own (i : Int) (s0 s1 : List AV) (l : Int) (td tn : Bool) (h0 : s0.length < 8796093022208) (h1 : s1.length < 8796093022208) :
    g_disk_Disk_Slot_p0500000 i s0 s1 l td tn = some (s0, s1, l, td, tn, if i = 0 then s0 else if i = 1 then s1 else []) := by
  have e : g_disk_Disk_slot_p0500000 i s0 s1 l td tn = some (if i = 0 then s0 else if i = 1 then s1 else [], s0, s1, l, td, tn) := by
    unfold g_disk_Disk_slot_p0500000
    simp only [T_disk_Disk_slot_p0500000, Tr.val_c, Tr.val_r]
    by_cases a1 : i < 0
    · simp [a1, show ¬ i = 0 by omega, show ¬ i = 1 by omega]
    · by_cases a2 : i ≥ 2
      · simp [a1, a2, show ¬ i = 0 by omega, show ¬ i = 1 by omega]
      · rcases (show i = 0 ∨ i = 1 by omega) with rfl | rfl <;> simp
  have hl : (if i = 0 then s0 else if i = 1 then s1 else []).length * 2 < 70368744177664 := by
    split
    · omega
    · split
      · omega
      · simp
  have e2 : g_disk_own_fslot_0p500000 i s0 s1 l td tn = some (s0, s1, l, td, tn, if i = 0 then s0 else if i = 1 then s1 else []) := by
    unfold g_disk_own_fslot_0p500000
    simp only [T_disk_own_fslot_0p500000, Tr.val_c, Tr.val_r, val_opt, e, Option.bind_some, hl, decide_true, cond_true, beq_self_eq_true]
  unfold g_disk_Disk_Slot_p0500000
  simp only [T_disk_Disk_Slot_p0500000, Tr.val_c, Tr.val_r, val_opt, e2, Option.bind_some, beq_self_eq_true, cond_true]

theorem awake22 : g_comptoirlaw22_awake = some true := by
  have a : g_disk_Disk_Append_p00500000 0 [.int .u8 1, .int .u8 2] [] [] 1 true false = some (24, [.int .u8 1], [], 0, true, true) := by
    have c0 := Concat_eq [] [.int .u8 1] (by simp)
    unfold g_disk_Disk_Append_p00500000
    have w : IntKind.i64.wrap 2 = 2 := rfl
    have w0 : IntKind.i64.wrap 0 = 0 := rfl
    simp [T_disk_Disk_Append_p00500000, Tr.val_c, Tr.val_r, val_opt, may_eq, c0, w, w0]
  have s := Slot_own 0 [.int .u8 1] [] 0 true true (by simp) (by simp)
  unfold g_comptoirlaw22_awake
  simp only [T_comptoirlaw22_awake, Tr.val_c, Tr.val_r, val_opt, a, s, Option.bind_some]
  rfl

theorem Append_torn (i : Int) (hi : i = 0 ∨ i = 1) (b s0 s1 : List AV) (l : Int) (td : Bool) : g_disk_Disk_Append_p00500000 i b s0 s1 l td true = some (24, s0, s1, l, td, true) := by
  unfold g_disk_Disk_Append_p00500000
  rcases hi with rfl | rfl <;> simp [T_disk_Disk_Append_p00500000, Tr.val_c, Tr.val_r, val_opt, may_eq]

theorem Append_less (i : Int) (hi : i = 0 ∨ i = 1) (b s0 s1 : List AV) (n : Nat) (hn : n < b.length) (hb : b.length < 10000) (h0 : s0.length < 10000) (h1 : s1.length < 10000) :
    g_disk_Disk_Append_p00500000 i b s0 s1 n true false = some (24, if i = 0 then s0 ++ b.take n else s0, if i = 0 then s1 else s1 ++ b.take n, 0, true, true) := by
  have c0 := Concat_eq s0 (b.take n) (by simp; omega)
  have c1 := Concat_eq s1 (b.take n) (by simp; omega)
  have w0 : IntKind.i64.wrap ((s0.length : Int) + b.length) = (s0.length : Int) + b.length := i64_wrap (by omega) (by omega)
  have w1 : IntKind.i64.wrap ((s1.length : Int) + b.length) = (s1.length : Int) + b.length := i64_wrap (by omega) (by omega)
  have hm : (if (n : Int) < b.length then (n : Int) else (b.length : Int)) = n := if_pos (by omega)
  have w2 : IntKind.i64.wrap 0 = 0 := rfl
  have q1 : (n : Int) < b.length := by omega
  have q2 : (n : Int) ≤ b.length := by omega
  have q3 : ¬ ((s0.length : Int) + b.length > 2000000) := by omega
  have q4 : ¬ ((s1.length : Int) + b.length > 2000000) := by omega
  unfold g_disk_Disk_Append_p00500000
  rcases hi with rfl | rfl
  · simp only [T_disk_Disk_Append_p00500000, Tr.val_c, Tr.val_r, val_opt, may_eq, hm, w0, q1, q2, q3, Int.sub_self, w2, Int.toNat_natCast, List.drop_zero]
    simp [c0, hn, Nat.le_of_lt hn, w2]
  · simp only [T_disk_Disk_Append_p00500000, Tr.val_c, Tr.val_r, val_opt, may_eq, hm, w1, q1, q2, q4, Int.sub_self, w2, Int.toNat_natCast, List.drop_zero]
    simp [c1, hn, Nat.le_of_lt hn, w2]

theorem Append_more (i : Int) (hi : i = 0 ∨ i = 1) (b s0 s1 : List AV) (n : Nat) (hn : ¬ n < b.length) (hn2 : n < 10000) (hb : b.length < 10000) (h0 : s0.length < 10000) (h1 : s1.length < 10000) :
    g_disk_Disk_Append_p00500000 i b s0 s1 n true false = some (0, if i = 0 then s0 ++ b else s0, if i = 0 then s1 else s1 ++ b, ((n - b.length : Nat) : Int), true, false) := by
  have c0 := Concat_eq s0 b (by omega)
  have c1 := Concat_eq s1 b (by omega)
  have w0 : IntKind.i64.wrap ((s0.length : Int) + b.length) = (s0.length : Int) + b.length := i64_wrap (by omega) (by omega)
  have w1 : IntKind.i64.wrap ((s1.length : Int) + b.length) = (s1.length : Int) + b.length := i64_wrap (by omega) (by omega)
  have hm : (if (n : Int) < b.length then (n : Int) else (b.length : Int)) = b.length := if_neg (by omega)
  have w2 : IntKind.i64.wrap ((n : Int) - b.length) = ((n - b.length : Nat) : Int) := by rw [i64_wrap (by omega) (by omega)]; omega
  have q1 : ¬ ((b.length : Int) < b.length) := by omega
  have q2 : (b.length : Int) ≤ b.length := by omega
  have q3 : ¬ ((s0.length : Int) + b.length > 2000000) := by omega
  have q4 : ¬ ((s1.length : Int) + b.length > 2000000) := by omega
  unfold g_disk_Disk_Append_p00500000
  rcases hi with rfl | rfl
  · simp only [T_disk_Disk_Append_p00500000, Tr.val_c, Tr.val_r, val_opt, may_eq, hm, w0, q1, q2, q3, w2, Int.toNat_natCast, List.drop_zero, List.take_length]
    simp [c0]
  · simp only [T_disk_Disk_Append_p00500000, Tr.val_c, Tr.val_r, val_opt, may_eq, hm, w1, q1, q2, q4, w2, Int.toNat_natCast, List.drop_zero, List.take_length]
    simp [c1]

theorem tears_eq (W A B : List AV) (x3 : Int) : g_comptoirlaw22_DiskTears W A B x3 = some true := by
  obtain ⟨b0, b1⟩ := u64_bounds x3
  obtain ⟨N, hN⟩ : ∃ N : Nat, (N : Int) = IntKind.u64.wrap x3 % 1200 := ⟨(IntKind.u64.wrap x3 % 1200).toNat, by omega⟩
  have hn : IntKind.i64.wrap (Int.tmod (IntKind.u64.wrap x3) 1200) = (N : Int) := by rw [tmod_eq b0, i64_wrap (by omega) (by omega), hN]
  have hN2 : N < 1200 := by omega
  unfold g_comptoirlaw22_DiskTears
  by_cases hbig : (W.length : Int) > 500 ∨ (A.length : Int) > 500 ∨ (B.length : Int) > 500
  · rw [run_inl (s := (.inl (true)))]
    · exact run_inr (by simp only [M_comptoirlaw22_DiskTears, Tr.val_c, Tr.val_r, val_opt, awake22, Option.bind_some, cond_true])
    · by_cases h1 : (W.length : Int) > 500
      · simp only [T_comptoirlaw22_DiskTears, Tr.val_c, Tr.val_r, h1, decide_true, cond_true]
      · by_cases h2 : (A.length : Int) > 500
        · simp only [T_comptoirlaw22_DiskTears, Tr.val_c, Tr.val_r, h1, h2, decide_true, decide_false, cond_true, cond_false]
        · have h3 : (B.length : Int) > 500 := by omega
          simp only [T_comptoirlaw22_DiskTears, Tr.val_c, Tr.val_r, h1, h2, h3, decide_true, decide_false, cond_false]
  have h1 : ¬ (W.length : Int) > 500 := by omega
  have h2 : ¬ (A.length : Int) > 500 := by omega
  have h3 : ¬ (B.length : Int) > 500 := by omega
  have F1 : g_disk_Disk_Append_p00500000 0 W [] [] 0 false false = some (0, W, [], 0, false, false) := by
    rw [Append_free 0 (.inl rfl) W [] [] 0 (by omega) (by simp) (by simp)]
    have : ¬ (2000000 < W.length) := by omega
    simp [this]
  rw [run_inl (s := (.inl (false))) (by simp only [T_comptoirlaw22_DiskTears, Tr.val_c, Tr.val_r, h1, h2, h3, decide_false, cond_false])]
  rw [run_inl (s := (.inr (.inl (false, W, [], 0, false, false)))) (by simp only [M_comptoirlaw22_DiskTears, Tr.val_c, Tr.val_r, val_opt, awake22, F1, Option.bind_some, cond_false, Bool.not_true, bne_self_eq_false])]
  have hmax : (if (0 : Int) > (N : Int) then 0 else (N : Int)) = N := if_neg (by omega)
  -- behind both writings
  have rest : ∀ (e f left : Int) (x y : Nat) (torn : Bool), x ≤ A.length → y ≤ B.length → (e == 0) = decide ((A.length : Int) ≤ N) → (f == 0) = !torn →
      run (M_comptoirlaw22_DiskTears W A B x3) (M_comptoirlaw22_DiskTears W A B x3 (.inr (.inr (.inr (.inl (e, f, (x : Int), (y : Int), W ++ A.take x, B.take y, left, true, torn, torn)))))) = some true := by
    intro e f left x y torn hx hy he hf
    have l0 : (W ++ A.take x).length ≤ 1000 := by simp; omega
    have l1 : (B.take y).length ≤ 500 := by simp; omega
    have s0 := Slot_own 0 (W ++ A.take x) (B.take y) left true torn (by omega) (by omega)
    have s1 := Slot_own 1 (W ++ A.take x) (B.take y) left true torn (by omega) (by omega)
    rw [if_pos rfl] at s0
    rw [if_neg (by decide), if_pos rfl] at s1
    have q1 : W.length * 2 < 70368744177664 := by omega
    have q2 : (0 : Int) ≤ x := by omega
    have q3 : (x : Int) ≤ A.length := by omega
    have q4 : (W ++ A.take x).length * 2 < 70368744177664 := by omega
    have q5 : (0 : Int) ≤ y := by omega
    have q6 : (y : Int) ≤ B.length := by omega
    rw [run_inl (s := (.inr (.inr (.inr (.inr (.inr (.inl (torn, W ++ A.take x, B.take y, left, true, torn, W ++ A.take x, W ++ A.take x, B.take y, false)))))))) (by
      simp only [M_comptoirlaw22_DiskTears, Tr.val_c, Tr.val_r, val_opt, s0, s1, Option.bind_some, q1, q2, q3, q4, q5, q6, he, hf, hn, Int.toNat_natCast, List.drop_zero, decide_true, cond_true, cond_false, beq_self_eq_true, Bool.not_true])]
    have last : ∀ z : List AV, run (M_comptoirlaw22_DiskTears W A B x3) (M_comptoirlaw22_DiskTears W A B x3 (.inr (.inr (.inr (.inr (.inr (.inr (torn, W ++ A.take x, B.take y, left, true, torn, z, W ++ A.take x, B.take y)))))))) = some true := by
      intro z
      refine run_inr ?_
      cases torn with
      | true =>
        have er : g_disk_Disk_Erase_p0500000 0 (W ++ A.take x) (B.take y) left true true = some (24, W ++ A.take x, B.take y, left, true, true) := by
          unfold g_disk_Disk_Erase_p0500000
          simp [T_disk_Disk_Erase_p0500000, Tr.val_c, Tr.val_r, val_opt, may_eq]
        have ap := Append_free 1 (.inr rfl) [.int .u8 1] (W ++ A.take x) (B.take y) 0 (by simp) (by omega) (by omega)
        rw [if_neg (by decide), if_neg (by simp only [List.length_cons, List.length_nil]; omega)] at ap
        simp only [M_comptoirlaw22_DiskTears, Tr.val_c, Tr.val_r, val_opt, er, ap, Option.bind_some]
        rfl
      | false =>
        have er : g_disk_Disk_Erase_p0500000 0 (W ++ A.take x) (B.take y) left true false = some (0, [], B.take y, left, true, false) := by
          unfold g_disk_Disk_Erase_p0500000
          simp [T_disk_Disk_Erase_p0500000, Tr.val_c, Tr.val_r, val_opt, may_eq]
        have ap := Append_free 1 (.inr rfl) [.int .u8 1] [] (B.take y) 0 (by simp) (by simp) (by omega)
        rw [if_neg (by decide), if_neg (by simp only [List.length_cons, List.length_nil]; omega)] at ap
        simp only [M_comptoirlaw22_DiskTears, Tr.val_c, Tr.val_r, val_opt, er, ap, Option.bind_some]
        rfl
    by_cases hz : ((W ++ A.take x).length : Int) > 0
    · have hz1 : 0 < (W ++ A.take x).length := by omega
      have hz2 : (0 : Int) < ((W ++ A.take x).length : Int) := by omega
      rw [run_inl (s := (.inr (.inr (.inr (.inr (.inr (.inr (torn, W ++ A.take x, B.take y, left, true, torn, (W ++ A.take x).set 0 (.int .u8 (bitsA .xor .u8 (getI ((W ++ A.take x).getD 0 (.int .u8 0))) 1)), W ++ A.take x, B.take y)))))))) (by
        simp only [M_comptoirlaw22_DiskTears, Tr.val_c, Tr.val_r, hz, hz1, hz2, decide_true, cond_true, cond_false, beq_self_eq_true])]
      exact last _
    · rw [run_inl (s := (.inr (.inr (.inr (.inr (.inr (.inr (torn, W ++ A.take x, B.take y, left, true, torn, W ++ A.take x, W ++ A.take x, B.take y)))))))) (by
        simp only [M_comptoirlaw22_DiskTears, Tr.val_c, Tr.val_r, hz, decide_false, cond_false])]
      exact last _
  by_cases hA : N < A.length
  · have f1 := Append_less 0 (.inl rfl) A W [] N hA (by omega) (by omega) (by simp)
    rw [if_pos rfl, if_pos rfl] at f1
    have f2 := Append_torn 1 (.inr rfl) B (W ++ A.take N) [] 0 true
    have p1 : (A.length : Int) > N := by omega
    have p2 : ¬ (A.length : Int) < N := by omega
    rw [run_inl (s := (.inr (.inr (.inl (24, 24, (N : Int), W ++ A.take N, [], 0, true, true, 0))))) (by
      simp only [M_comptoirlaw22_DiskTears, Tr.val_c, Tr.val_r, val_opt, hn, hmax, f1, f2, p1, p2, Option.bind_some, if_false, decide_true, cond_true, cond_false])]
    rw [run_inl (s := (.inr (.inr (.inr (.inl (24, 24, (N : Int), ((0 : Nat) : Int), W ++ A.take N, B.take 0, 0, true, true, true)))))) (by
      simp only [M_comptoirlaw22_DiskTears, Tr.val_c, Tr.val_r, hn, p1, decide_true, cond_true]; rfl)]
    refine rest 24 24 0 N 0 true (by omega) (by omega) ?_ rfl
    have : ¬ ((A.length : Int) ≤ N) := by omega
    simp [this]
  · have f1 := Append_more 0 (.inl rfl) A W [] N hA (by omega) (by omega) (by omega) (by simp)
    rw [if_pos rfl, if_pos rfl] at f1
    have p1 : ¬ (A.length : Int) > N := by omega
    have px : (if (A.length : Int) < N then (A.length : Int) else (N : Int)) = A.length := by split <;> omega
    have w5 : IntKind.i64.wrap ((N : Int) - A.length) = ((N - A.length : Nat) : Int) := by rw [i64_wrap (by omega) (by omega)]; omega
    have w6 : IntKind.i64.wrap ((A.length : Int) + B.length) = A.length + B.length := i64_wrap (by omega) (by omega)
    have hAl : A.take A.length = A := List.take_length
    have he : ((0 : Int) == 0) = decide ((A.length : Int) ≤ N) := by
      have : (A.length : Int) ≤ N := by omega
      simp [this]
    by_cases hB : N - A.length < B.length
    · have f2 := Append_less 1 (.inr rfl) B (W ++ A) [] (N - A.length) hB (by omega) (by simp; omega) (by simp)
      rw [if_neg (by decide), if_neg (by decide), List.nil_append] at f2
      have py : (if (B.length : Int) < ((N - A.length : Nat) : Int) then (B.length : Int) else ((N - A.length : Nat) : Int)) = ((N - A.length : Nat) : Int) := if_neg (by omega)
      rw [run_inl (s := (.inr (.inr (.inl (0, 24, (A.length : Int), W ++ A, B.take (N - A.length), 0, true, true, ((N - A.length : Nat) : Int)))))) (by
        simp only [M_comptoirlaw22_DiskTears, Tr.val_c, Tr.val_r, val_opt, hn, hmax, f1, f2, p1, px, w5, py, Option.bind_some, decide_false, cond_false])]
      have p5 : (A.length : Int) + B.length > N := by omega
      rw [run_inl (s := (.inr (.inr (.inr (.inl (0, 24, (A.length : Int), ((N - A.length : Nat) : Int), W ++ A, B.take (N - A.length), 0, true, true, true)))))) (by
        simp only [M_comptoirlaw22_DiskTears, Tr.val_c, Tr.val_r, hn, p1, w6, p5, decide_true, decide_false, cond_false])]
      have := rest 0 24 0 A.length (N - A.length) true (by omega) (by omega) he rfl
      rw [hAl] at this
      exact this
    · have f2 := Append_more 1 (.inr rfl) B (W ++ A) [] (N - A.length) hB (by omega) (by omega) (by simp; omega) (by simp)
      rw [if_neg (by decide), if_neg (by decide), List.nil_append] at f2
      have py : (if (B.length : Int) < ((N - A.length : Nat) : Int) then (B.length : Int) else ((N - A.length : Nat) : Int)) = B.length := by split <;> omega
      rw [run_inl (s := (.inr (.inr (.inl (0, 0, (A.length : Int), W ++ A, B, ((N - A.length - B.length : Nat) : Int), true, false, (B.length : Int)))))) (by
        simp only [M_comptoirlaw22_DiskTears, Tr.val_c, Tr.val_r, val_opt, hn, hmax, f1, f2, p1, px, w5, py, Option.bind_some, decide_false, cond_false])]
      have p5 : ¬ ((A.length : Int) + B.length > N) := by omega
      rw [run_inl (s := (.inr (.inr (.inr (.inl (0, 0, (A.length : Int), (B.length : Int), W ++ A, B, ((N - A.length - B.length : Nat) : Int), true, false, false)))))) (by
        simp only [M_comptoirlaw22_DiskTears, Tr.val_c, Tr.val_r, hn, p1, w6, p5, decide_false, cond_false])]
      have := rest 0 0 ((N - A.length - B.length : Nat) : Int) A.length B.length false (by omega) (by omega) he rfl
      rw [hAl, List.take_length] at this
      exact this

end Go.Proofs.Ythocnaabefdokaa
