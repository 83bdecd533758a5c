/- What the printed functions come to, plainly. -/
import Derived.Test.YtdkaampcgkjikaaYmG3
import Derived.Test.YtdkaampcgkjikaaCxPl3
import Derived.Test.YtdkaampcgkjikaaCxAm
namespace Go.Proofs.Ytdkaampcgkjikaa
open Go.Cx Go.Cx.AV
set_option linter.unusedSimpArgs false
set_option linter.unusedVariables false

/- slices.Concat of two. -/
theorem Grow_eq (n : Int) (h0 : 0 ≤ n) (h : n < 35184372088832) : g_slices_Grow_byte_byte n = some [] := by
  unfold g_slices_Grow_byte_byte
  have w : IntKind.i64.wrap (n - 0) = n := by rw [Int.sub_zero]; exact i64_wrap (by omega) (by omega)
  have hn0 : ¬ (n < 0) := by omega
  have hT : (T_slices_Grow_byte_byte n).val = some (.inl (.inl ())) := by simp only [T_slices_Grow_byte_byte, Tr.val_c, Tr.val_r, hn0]; rfl
  rw [run_inl hT]
  rw [run_inl (s := .inr ())]
  · exact run_inr rfl
  · simp only [M_slices_Grow_byte_byte, Tr.val_c, Tr.val_r, w, List.length_replicate]
    by_cases hn : n > 0
    · have : n.toNat * 2 < 70368744177664 := by omega
      simp [hn, this]
    · simp [hn]

theorem Concat_eq (a b : List AV) (h : a.length + b.length < 17592186044416) : g_slices_Concat_byte_byte [.slice 1 (.int .u8) a .ro, .slice 1 (.int .u8) b .ro] = some (a ++ b) := by
  have e0 : getXs (List.getD [AV.slice 1 (.int .u8) a .ro, .slice 1 (.int .u8) b .ro] (Int.toNat 0) (.slice 1 (.int .u8) [] .ro)) = a := rfl
  have e1 : getXs (List.getD [AV.slice 1 (.int .u8) a .ro, .slice 1 (.int .u8) b .ro] (Int.toNat 1) (.slice 1 (.int .u8) [] .ro)) = b := rfl
  have w0 : IntKind.i64.wrap (0 + (a.length : Int)) = a.length := by rw [Int.zero_add]; exact i64_wrap (by omega) (by omega)
  have w1 : IntKind.i64.wrap ((a.length : Int) + b.length) = ((a.length + b.length : Nat) : Int) := by rw [i64_wrap (by omega) (by omega)]; omega
  have w2 : IntKind.i64.wrap (0 + 1) = 1 := rfl
  have w3 : IntKind.i64.wrap (1 + 1) = 2 := rfl
  have n0 : ¬ ((a.length : Int) < 0) := by omega
  have n1 : ¬ (((a.length + b.length : Nat) : Int) < 0) := by omega
  have l0 : a.length * 2 < 70368744177664 := by omega
  have l1 : (a.length + b.length) * 2 < 70368744177664 := by omega
  have gr := Grow_eq (((a.length + b.length : Nat) : Int)) (by omega) (by omega)
  unfold g_slices_Concat_byte_byte
  rw [run_inl (s := .inl (0, 0)) rfl]
  rw [run_inl (s := .inl ((a.length : Int), 1)) (by simp only [M_slices_Concat_byte_byte, Tr.val_c, Tr.val_r, e0, w0, w2, n0]; rfl)]
  rw [run_inl (s := .inl (((a.length + b.length : Nat) : Int), 2)) (by simp only [M_slices_Concat_byte_byte, Tr.val_c, Tr.val_r, e1, w1, w3, n1]; rfl)]
  rw [run_inl (s := .inr ([], 0)) (by simp only [M_slices_Concat_byte_byte, Tr.val_c, Tr.val_r, gr, opt_some]; rfl)]
  rw [run_inl (s := .inr (a, 1)) (by simp only [M_slices_Concat_byte_byte, Tr.val_c, Tr.val_r, e0, w2, List.nil_append, l0, decide_true, beq_self_eq_true]; rfl)]
  rw [run_inl (s := .inr (a ++ b, 2)) (by simp only [M_slices_Concat_byte_byte, Tr.val_c, Tr.val_r, e1, w3, List.length_append, l1, decide_true, beq_self_eq_true]; rfl)]
  exact run_inr (by simp only [M_slices_Concat_byte_byte, Tr.val_c, Tr.val_r, beq_self_eq_true]; rfl)

/- copies with room behind them -/
theorem Plain_self (A : List AV) (hA : A.length < 8796093022208) : g_comptoirhelp_Plain_byte A A = some true := by
  have h : g_comptoirhelp_Same_byte_00fPlainbyte1_ A A = some true := by
    unfold g_comptoirhelp_Same_byte_00fPlainbyte1_
    rw [run_inl (s := (0 : Int)) (by simp only [T_comptoirhelp_Same_byte_00fPlainbyte1_, Tr.val_c, Tr.val_r, bne_self_eq_false, cond_false])]
    exact run_until (f := fun i => (i : Int)) (n := A.length) (fun i hi => by
      have q1 : (i : Int) < A.length := by omega
      have q2 : (0 : Int) ≤ i := by omega
      have w : IntKind.i64.wrap ((i : Int) + 1) = ((i + 1 : Nat) : Int) := by rw [i64_wrap (by omega) (by omega)]; omega
      simp only [M_comptoirhelp_Same_byte_00fPlainbyte1_, Tr.val_c, Tr.val_r, q1, q2, w, decide_true, cond_true, beq_self_eq_true, Bool.not_true, cond_false]) (by
      have q1 : ¬ ((A.length : Int) < A.length) := by omega
      simp only [M_comptoirhelp_Same_byte_00fPlainbyte1_, Tr.val_c, Tr.val_r, q1, decide_false, cond_false])
  unfold g_comptoirhelp_Plain_byte
  simp only [T_comptoirhelp_Plain_byte, Tr.val_c, Tr.val_r, val_opt, h, Option.bind_some]

theorem Kept_self (A : List AV) (x : Int) (hA : A.length < 8796093022208) : g_comptoirhelp_Kept_byte A [.int .u8 x, .int .u8 x, .int .u8 x] A x = some true := by
  have w : IntKind.i64.wrap ((A.length : Int) + 3) = ((A.length + 3 : Nat) : Int) := by rw [i64_wrap (by omega) (by omega)]; omega
  have l3 : (A ++ [AV.int .u8 x, .int .u8 x, .int .u8 x]).length = A.length + 3 := by simp
  have q1 : ¬ (((A.length + 3 : Nat) : Int) < ((A.length + 3 : Nat) : Int)) := by omega
  have q2 : (0 : Int) ≤ ((A.length + 3 : Nat) : Int) := by omega
  have q3 : ((A.length + 3 : Nat) : Int) ≤ ((A.length + 3 : Nat) : Int) := by omega
  have lx : [AV.int .u8 x, .int .u8 x, .int .u8 x].length = 3 := rfl
  have ht : List.take (A.length + 3) (A ++ [AV.int .u8 x, .int .u8 x, .int .u8 x]) = A ++ [AV.int .u8 x, .int .u8 x, .int .u8 x] := List.take_of_length_le (by rw [l3]; omega)
  have hd : List.drop (A.length + 3) (A ++ [AV.int .u8 x, .int .u8 x, .int .u8 x]) = [] := List.drop_of_length_le (by rw [l3]; omega)
  unfold g_comptoirhelp_Kept_byte
  rw [run_inl (s := (A ++ [AV.int .u8 x, .int .u8 x, .int .u8 x], [], (A.length : Int)))]
  · have step : ∀ j : Nat, j < 3 → (M_comptoirhelp_Kept_byte A [.int .u8 x, .int .u8 x, .int .u8 x] A x (A ++ [AV.int .u8 x, .int .u8 x, .int .u8 x], [], ((A.length + j : Nat) : Int))).val = some (.inl (A ++ [AV.int .u8 x, .int .u8 x, .int .u8 x], [], ((A.length + (j + 1) : Nat) : Int))) := by
      intro j hj
      have p1 : ((A.length + j : Nat) : Int) < ((A.length + 3 : Nat) : Int) := by omega
      have p2 : (0 : Int) ≤ ((A.length + j : Nat) : Int) := by omega
      have w1 : IntKind.i64.wrap (((A.length + j : Nat) : Int) + 1) = ((A.length + (j + 1) : Nat) : Int) := by rw [i64_wrap (by omega) (by omega)]; omega
      have hg : getI ((A ++ [AV.int .u8 x, .int .u8 x, .int .u8 x]).getD (A.length + j) (.int .u8 0)) = x := by
        rw [List.getD_eq_getElem?_getD, List.getElem?_append_right (by omega), Nat.add_sub_cancel_left]
        rcases (show j = 0 ∨ j = 1 ∨ j = 2 by omega) with rfl | rfl | rfl <;> rfl
      simp only [M_comptoirhelp_Kept_byte, Tr.val_c, Tr.val_r, l3, p1, p2, w1, Int.toNat_natCast, hg, decide_true, cond_true, bne_self_eq_false, cond_false]
    have e : (A.length : Int) = ((A.length + 0 : Nat) : Int) := rfl
    rw [e, run_inl (step 0 (by omega)), run_inl (step 1 (by omega)), run_inl (step 2 (by omega))]
    exact run_inr (by
      have p1 : ¬ (((A.length + (2 + 1) : Nat) : Int) < ((A.length + 3 : Nat) : Int)) := by omega
      simp only [M_comptoirhelp_Kept_byte, Tr.val_c, Tr.val_r, l3, p1, decide_false, cond_false])
  · simp only [T_comptoirhelp_Kept_byte, Tr.val_c, Tr.val_r, val_opt, Plain_self A hA, Option.bind_some, Bool.not_true, cond_false, w, lx, l3, q1, q2, q3, decide_true, decide_false, cond_true, Int.toNat_natCast, List.drop_zero, ht, hd]

/- the disk -/
theorem may_eq (s0 s1 : List AV) (l : Int) (td tn : Bool) (i : Int) : g_disk_Disk_may_p0 s0 s1 l td tn i = some (if i < 0 then 1 else if i ≥ 2 then 1 else if tn = true then 24 else 0) := by
  unfold g_disk_Disk_may_p0
  simp only [T_disk_Disk_may_p0, Tr.val_c, Tr.val_r]
  by_cases h1 : i < 0
  · simp [h1]
  · by_cases h2 : i ≥ 2
    · simp [h1, h2]
    · cases tn <;> simp [h1, h2]

theorem Slot_own (i : Int) (s0 s1 : List AV) (l : Int) (td tn : Bool) (h0 : s0.length < 8796093022208) (h1 : s1.length < 8796093022208) :
    g_disk_Disk_Slot_p0500000 i s0 s1 l td tn = some (if i = 0 then s0 else if i = 1 then s1 else [], s0, s1, l, td, tn) := by
  have e : g_disk_Disk_slot_p0500000 i s0 s1 l td tn = some (if i = 0 then s0 else if i = 1 then s1 else [], s0, s1, l, td, tn) := by
    unfold g_disk_Disk_slot_p0500000
    simp only [T_disk_Disk_slot_p0500000, Tr.val_c, Tr.val_r]
    by_cases a1 : i < 0
    · simp [a1, show ¬ i = 0 by omega, show ¬ i = 1 by omega]
    · by_cases a2 : i ≥ 2
      · simp [a1, a2, show ¬ i = 0 by omega, show ¬ i = 1 by omega]
      · rcases (show i = 0 ∨ i = 1 by omega) with rfl | rfl <;> simp
  have hl : (if i = 0 then s0 else if i = 1 then s1 else []).length * 2 < 70368744177664 := by
    split
    · omega
    · split
      · omega
      · simp
  have e2 : g_disk_own_fslot_0p500000 i s0 s1 l td tn = some (if i = 0 then s0 else if i = 1 then s1 else [], s0, s1, l, td, tn) := by
    unfold g_disk_own_fslot_0p500000
    simp only [T_disk_own_fslot_0p500000, Tr.val_c, Tr.val_r, val_opt, e, Option.bind_some, hl, decide_true, cond_true, beq_self_eq_true]
  unfold g_disk_Disk_Slot_p0500000
  simp only [T_disk_Disk_Slot_p0500000, Tr.val_c, Tr.val_r, val_opt, e2, Option.bind_some, beq_self_eq_true, cond_true]


/- two disks, the same -/
abbrev DS := List AV × List AV × Int × Bool × Bool
def apS (i : Int) (b s0 s1 : List AV) (l : Int) (td tn : Bool) : Int × List AV × List AV × Int × Bool × Bool :=
  if i = 0 then (if tn = true then (24, s0, s1, l, td, tn) else if s0.length + b.length > 2000000 then (4, s0, s1, l, td, tn) else if td = true then (if l < b.length then (24, s0 ++ b.take l.toNat, s1, 0, td, true) else (0, s0 ++ b, s1, l - b.length, td, tn)) else (0, s0 ++ b, s1, l, td, tn))
  else if i = 1 then (if tn = true then (24, s0, s1, l, td, tn) else if s1.length + b.length > 2000000 then (4, s0, s1, l, td, tn) else if td = true then (if l < b.length then (24, s0, s1 ++ b.take l.toNat, 0, td, true) else (0, s0, s1 ++ b, l - b.length, td, tn)) else (0, s0, s1 ++ b, l, td, tn))
  else (1, s0, s1, l, td, tn)
set_option maxRecDepth 100000 in
theorem apD (i : Int) (b s0 s1 : List AV) (l : Int) (td tn : Bool) (hb : b.length ≤ 3000) (h0 : s0.length ≤ 2000000) (h1 : s1.length ≤ 2000000) (hl0 : 0 ≤ l) (hl1 : l < 9223372036854775808) : g_disk_Disk_Append_p00500000 i b s0 s1 l td tn = some (apS i b s0 s1 l td tn) := by
  have d01 : decide ((0 : Int) = 1) = false := rfl
  have d10 : decide ((1 : Int) = 0) = false := rfl
  have d00 : decide ((0 : Int) = 0) = true := rfl
  have d11 : decide ((1 : Int) = 1) = true := rfl
  have b00 : ((0 : Int) != 0) = false := rfl
  have b10 : ((1 : Int) != 0) = true := rfl
  have b11 : ((1 : Int) != 1) = false := rfl
  have b01 : ((0 : Int) != 1) = true := rfl
  have b24 : ((24 : Int) != 0) = true := rfl
  obtain ⟨m, rfl⟩ : ∃ m : Nat, l = (m : Int) := ⟨l.toNat, by omega⟩
  have may := may_eq s0 s1 (m : Int) td tn i
  unfold apS
  unfold g_disk_Disk_Append_p00500000
  by_cases hi0 : i = 0
  · subst hi0
    rw [if_pos rfl]
    rw [if_neg (by decide), if_neg (by decide)] at may
    cases tn with
    | true => exact (by simp only [T_disk_Disk_Append_p00500000, Tr.val_c, Tr.val_r, val_opt, d01, d10, d00, d11, b00, b10, b11, b01, b24, may, if_true, Option.bind_some, decide_true, decide_false, cond_true, cond_false, beq_self_eq_true, bne_self_eq_false])
    | false =>
      have w : IntKind.i64.wrap ((s0.length : Int) + (b.length : Int)) = ((s0.length + b.length : Nat) : Int) := by rw [i64_wrap (by omega) (by omega)]; omega
      by_cases hbig : s0.length + b.length > 2000000
      · have q : ((s0.length + b.length : Nat) : Int) > 2000000 := by omega
        simp only [T_disk_Disk_Append_p00500000, Tr.val_c, Tr.val_r, val_opt, d01, d10, d00, d11, b00, b10, b11, b01, b24, may, w, q, hbig, if_true, if_false, Bool.false_eq_true, Option.bind_some, decide_true, decide_false, cond_true, cond_false, beq_self_eq_true, bne_self_eq_false]
      · have q : ¬ ((s0.length + b.length : Nat) : Int) > 2000000 := by omega
        cases td with
        | true =>
          by_cases hlt : (m : Int) < (b.length : Int)
          · have e1 : (if (m : Int) < (b.length : Int) then (m : Int) else (b.length : Int)) = (m : Int) := if_pos hlt
            have g1 : (b.length : Int) > (m : Int) := hlt
            have k1 : (0 : Int) ≤ (m : Int) := by omega
            have k2 : (m : Int) ≤ (b.length : Int) := by omega
            have c := Concat_eq s0 (b.take m) (by rw [List.length_take]; omega)
            have w2 : IntKind.i64.wrap ((m : Int) - (m : Int)) = 0 := by rw [i64_wrap (by omega) (by omega)]; omega
            have l1 : s0.length * 2 < 70368744177664 := by omega
            have l2 : (s0 ++ b.take m).length * 2 < 70368744177664 := by rw [List.length_append, List.length_take]; omega
            simp only [T_disk_Disk_Append_p00500000, Tr.val_c, Tr.val_r, val_opt, d01, d10, d00, d11, b00, b10, b11, b01, b24, may, w, q, hbig, e1, g1, hlt, k1, k2, c, w2, l1, l2, Int.toNat_natCast, List.drop_zero, if_true, if_false, Bool.false_eq_true, Option.bind_some, decide_true, decide_false, cond_true, cond_false, beq_self_eq_true, bne_self_eq_false]
          · have e1 : (if (m : Int) < (b.length : Int) then (m : Int) else (b.length : Int)) = (b.length : Int) := if_neg hlt
            have g1 : ¬ (b.length : Int) > (m : Int) := hlt
            have k1 : (0 : Int) ≤ (b.length : Int) := by omega
            have k2 : (b.length : Int) ≤ (b.length : Int) := by omega
            have k3 : ¬ ((b.length : Int) < (b.length : Int)) := by omega
            have c := Concat_eq s0 b (by omega)
            have w2 : IntKind.i64.wrap ((m : Int) - (b.length : Int)) = (m : Int) - (b.length : Int) := i64_wrap (by omega) (by omega)
            have l1 : s0.length * 2 < 70368744177664 := by omega
            have l2 : (s0 ++ b).length * 2 < 70368744177664 := by rw [List.length_append]; omega
            simp only [T_disk_Disk_Append_p00500000, Tr.val_c, Tr.val_r, val_opt, d01, d10, d00, d11, b00, b10, b11, b01, b24, may, w, q, hbig, e1, g1, hlt, k1, k2, k3, c, w2, l1, l2, Int.toNat_natCast, List.drop_zero, List.take_length, if_true, if_false, Bool.false_eq_true, Option.bind_some, decide_true, decide_false, cond_true, cond_false, beq_self_eq_true, bne_self_eq_false]
        | false =>
          have k2 : (b.length : Int) ≤ (b.length : Int) := by omega
          have c := Concat_eq s0 b (by omega)
          have l1 : s0.length * 2 < 70368744177664 := by omega
          have l2 : (s0 ++ b).length * 2 < 70368744177664 := by rw [List.length_append]; omega
          simp only [T_disk_Disk_Append_p00500000, Tr.val_c, Tr.val_r, val_opt, d01, d10, d00, d11, b00, b10, b11, b01, b24, may, w, q, hbig, k2, c, l1, l2, List.drop_zero, List.take_length, if_true, if_false, Bool.false_eq_true, Option.bind_some, decide_true, decide_false, cond_true, cond_false, beq_self_eq_true, bne_self_eq_false]
  by_cases hi1 : i = 1
  · subst hi1
    rw [if_neg (by decide)]
    rw [if_pos rfl]
    rw [if_neg (by decide), if_neg (by decide)] at may
    cases tn with
    | true => exact (by simp only [T_disk_Disk_Append_p00500000, Tr.val_c, Tr.val_r, val_opt, d01, d10, d00, d11, b00, b10, b11, b01, b24, may, if_true, Option.bind_some, decide_true, decide_false, cond_true, cond_false, beq_self_eq_true, bne_self_eq_false])
    | false =>
      have w : IntKind.i64.wrap ((s1.length : Int) + (b.length : Int)) = ((s1.length + b.length : Nat) : Int) := by rw [i64_wrap (by omega) (by omega)]; omega
      by_cases hbig : s1.length + b.length > 2000000
      · have q : ((s1.length + b.length : Nat) : Int) > 2000000 := by omega
        simp only [T_disk_Disk_Append_p00500000, Tr.val_c, Tr.val_r, val_opt, d01, d10, d00, d11, b00, b10, b11, b01, b24, may, w, q, hbig, if_true, if_false, Bool.false_eq_true, Option.bind_some, decide_true, decide_false, cond_true, cond_false, beq_self_eq_true, bne_self_eq_false]
      · have q : ¬ ((s1.length + b.length : Nat) : Int) > 2000000 := by omega
        cases td with
        | true =>
          by_cases hlt : (m : Int) < (b.length : Int)
          · have e1 : (if (m : Int) < (b.length : Int) then (m : Int) else (b.length : Int)) = (m : Int) := if_pos hlt
            have g1 : (b.length : Int) > (m : Int) := hlt
            have k1 : (0 : Int) ≤ (m : Int) := by omega
            have k2 : (m : Int) ≤ (b.length : Int) := by omega
            have c := Concat_eq s1 (b.take m) (by rw [List.length_take]; omega)
            have w2 : IntKind.i64.wrap ((m : Int) - (m : Int)) = 0 := by rw [i64_wrap (by omega) (by omega)]; omega
            have l1 : s1.length * 2 < 70368744177664 := by omega
            have l2 : (s1 ++ b.take m).length * 2 < 70368744177664 := by rw [List.length_append, List.length_take]; omega
            simp only [T_disk_Disk_Append_p00500000, Tr.val_c, Tr.val_r, val_opt, d01, d10, d00, d11, b00, b10, b11, b01, b24, may, w, q, hbig, e1, g1, hlt, k1, k2, c, w2, l1, l2, Int.toNat_natCast, List.drop_zero, if_true, if_false, Bool.false_eq_true, Option.bind_some, decide_true, decide_false, cond_true, cond_false, beq_self_eq_true, bne_self_eq_false]
          · have e1 : (if (m : Int) < (b.length : Int) then (m : Int) else (b.length : Int)) = (b.length : Int) := if_neg hlt
            have g1 : ¬ (b.length : Int) > (m : Int) := hlt
            have k1 : (0 : Int) ≤ (b.length : Int) := by omega
            have k2 : (b.length : Int) ≤ (b.length : Int) := by omega
            have k3 : ¬ ((b.length : Int) < (b.length : Int)) := by omega
            have c := Concat_eq s1 b (by omega)
            have w2 : IntKind.i64.wrap ((m : Int) - (b.length : Int)) = (m : Int) - (b.length : Int) := i64_wrap (by omega) (by omega)
            have l1 : s1.length * 2 < 70368744177664 := by omega
            have l2 : (s1 ++ b).length * 2 < 70368744177664 := by rw [List.length_append]; omega
            simp only [T_disk_Disk_Append_p00500000, Tr.val_c, Tr.val_r, val_opt, d01, d10, d00, d11, b00, b10, b11, b01, b24, may, w, q, hbig, e1, g1, hlt, k1, k2, k3, c, w2, l1, l2, Int.toNat_natCast, List.drop_zero, List.take_length, if_true, if_false, Bool.false_eq_true, Option.bind_some, decide_true, decide_false, cond_true, cond_false, beq_self_eq_true, bne_self_eq_false]
        | false =>
          have k2 : (b.length : Int) ≤ (b.length : Int) := by omega
          have c := Concat_eq s1 b (by omega)
          have l1 : s1.length * 2 < 70368744177664 := by omega
          have l2 : (s1 ++ b).length * 2 < 70368744177664 := by rw [List.length_append]; omega
          simp only [T_disk_Disk_Append_p00500000, Tr.val_c, Tr.val_r, val_opt, d01, d10, d00, d11, b00, b10, b11, b01, b24, may, w, q, hbig, k2, c, l1, l2, List.drop_zero, List.take_length, if_true, if_false, Bool.false_eq_true, Option.bind_some, decide_true, decide_false, cond_true, cond_false, beq_self_eq_true, bne_self_eq_false]
  rw [if_neg hi0, if_neg hi1]
  have b1 : ((1 : Int) != 0) = true := rfl
  have may2 : g_disk_Disk_may_p0 s0 s1 (m : Int) td tn i = some 1 := by
    rw [may]
    by_cases h : i < 0
    · rw [if_pos h]
    · rw [if_neg h, if_pos (by omega)]
  simp only [T_disk_Disk_Append_p00500000, Tr.val_c, Tr.val_r, val_opt, may2, b1, Option.bind_some, cond_true]
set_option maxRecDepth 100000 in
theorem apR (i : Int) (b s0 s1 : List AV) (l : Int) (td tn : Bool) (hb : b.length ≤ 3000) (h0 : s0.length ≤ 2000000) (h1 : s1.length ≤ 2000000) (hl0 : 0 ≤ l) (hl1 : l < 9223372036854775808) : g_comptoirref21_Disk_Append_p00500000 i b s0 s1 l td tn = some (apS i b s0 s1 l td tn) := by
  have d01 : decide ((0 : Int) = 1) = false := rfl
  have d10 : decide ((1 : Int) = 0) = false := rfl
  have d00 : decide ((0 : Int) = 0) = true := rfl
  have d11 : decide ((1 : Int) = 1) = true := rfl
  have b00 : ((0 : Int) != 0) = false := rfl
  have b10 : ((1 : Int) != 0) = true := rfl
  have b11 : ((1 : Int) != 1) = false := rfl
  have b01 : ((0 : Int) != 1) = true := rfl
  have b24 : ((24 : Int) != 0) = true := rfl
  obtain ⟨m, rfl⟩ : ∃ m : Nat, l = (m : Int) := ⟨l.toNat, by omega⟩
  unfold apS
  unfold g_comptoirref21_Disk_Append_p00500000
  by_cases hi0 : i = 0
  · subst hi0
    rw [if_pos rfl]
    cases tn with
    | true => exact (by simp only [T_comptoirref21_Disk_Append_p00500000, Tr.val_c, Tr.val_r, val_opt, d01, d10, d00, d11, b00, b10, b11, b01, b24, if_true, Option.bind_some, decide_true, decide_false, cond_true, cond_false, beq_self_eq_true, bne_self_eq_false])
    | false =>
      have w : IntKind.i64.wrap ((s0.length : Int) + (b.length : Int)) = ((s0.length + b.length : Nat) : Int) := by rw [i64_wrap (by omega) (by omega)]; omega
      by_cases hbig : s0.length + b.length > 2000000
      · have q : ((s0.length + b.length : Nat) : Int) > 2000000 := by omega
        simp only [T_comptoirref21_Disk_Append_p00500000, Tr.val_c, Tr.val_r, val_opt, d01, d10, d00, d11, b00, b10, b11, b01, b24, w, q, hbig, if_true, if_false, Bool.false_eq_true, Option.bind_some, decide_true, decide_false, cond_true, cond_false, beq_self_eq_true, bne_self_eq_false]
      · have q : ¬ ((s0.length + b.length : Nat) : Int) > 2000000 := by omega
        cases td with
        | true =>
          by_cases hlt : (m : Int) < (b.length : Int)
          · have e1 : (if (m : Int) < (b.length : Int) then (m : Int) else (b.length : Int)) = (m : Int) := if_pos hlt
            have g1 : (b.length : Int) > (m : Int) := hlt
            have k1 : (0 : Int) ≤ (m : Int) := by omega
            have k2 : (m : Int) ≤ (b.length : Int) := by omega
            have c := Concat_eq s0 (b.take m) (by rw [List.length_take]; omega)
            have w2 : IntKind.i64.wrap ((m : Int) - (m : Int)) = 0 := by rw [i64_wrap (by omega) (by omega)]; omega
            have l1 : s0.length * 2 < 70368744177664 := by omega
            have l2 : (s0 ++ b.take m).length * 2 < 70368744177664 := by rw [List.length_append, List.length_take]; omega
            simp only [T_comptoirref21_Disk_Append_p00500000, Tr.val_c, Tr.val_r, val_opt, d01, d10, d00, d11, b00, b10, b11, b01, b24, w, q, hbig, e1, g1, hlt, k1, k2, c, w2, l1, l2, Int.toNat_natCast, List.drop_zero, if_true, if_false, Bool.false_eq_true, Option.bind_some, decide_true, decide_false, cond_true, cond_false, beq_self_eq_true, bne_self_eq_false]
          · have e1 : (if (m : Int) < (b.length : Int) then (m : Int) else (b.length : Int)) = (b.length : Int) := if_neg hlt
            have g1 : ¬ (b.length : Int) > (m : Int) := hlt
            have k1 : (0 : Int) ≤ (b.length : Int) := by omega
            have k2 : (b.length : Int) ≤ (b.length : Int) := by omega
            have k3 : ¬ ((b.length : Int) < (b.length : Int)) := by omega
            have c := Concat_eq s0 b (by omega)
            have w2 : IntKind.i64.wrap ((m : Int) - (b.length : Int)) = (m : Int) - (b.length : Int) := i64_wrap (by omega) (by omega)
            have l1 : s0.length * 2 < 70368744177664 := by omega
            have l2 : (s0 ++ b).length * 2 < 70368744177664 := by rw [List.length_append]; omega
            simp only [T_comptoirref21_Disk_Append_p00500000, Tr.val_c, Tr.val_r, val_opt, d01, d10, d00, d11, b00, b10, b11, b01, b24, w, q, hbig, e1, g1, hlt, k1, k2, k3, c, w2, l1, l2, Int.toNat_natCast, List.drop_zero, List.take_length, if_true, if_false, Bool.false_eq_true, Option.bind_some, decide_true, decide_false, cond_true, cond_false, beq_self_eq_true, bne_self_eq_false]
        | false =>
          have k2 : (b.length : Int) ≤ (b.length : Int) := by omega
          have c := Concat_eq s0 b (by omega)
          have l1 : s0.length * 2 < 70368744177664 := by omega
          have l2 : (s0 ++ b).length * 2 < 70368744177664 := by rw [List.length_append]; omega
          simp only [T_comptoirref21_Disk_Append_p00500000, Tr.val_c, Tr.val_r, val_opt, d01, d10, d00, d11, b00, b10, b11, b01, b24, w, q, hbig, k2, c, l1, l2, List.drop_zero, List.take_length, if_true, if_false, Bool.false_eq_true, Option.bind_some, decide_true, decide_false, cond_true, cond_false, beq_self_eq_true, bne_self_eq_false]
  by_cases hi1 : i = 1
  · subst hi1
    rw [if_neg (by decide)]
    rw [if_pos rfl]
    cases tn with
    | true => exact (by simp only [T_comptoirref21_Disk_Append_p00500000, Tr.val_c, Tr.val_r, val_opt, d01, d10, d00, d11, b00, b10, b11, b01, b24, if_true, Option.bind_some, decide_true, decide_false, cond_true, cond_false, beq_self_eq_true, bne_self_eq_false])
    | false =>
      have w : IntKind.i64.wrap ((s1.length : Int) + (b.length : Int)) = ((s1.length + b.length : Nat) : Int) := by rw [i64_wrap (by omega) (by omega)]; omega
      by_cases hbig : s1.length + b.length > 2000000
      · have q : ((s1.length + b.length : Nat) : Int) > 2000000 := by omega
        simp only [T_comptoirref21_Disk_Append_p00500000, Tr.val_c, Tr.val_r, val_opt, d01, d10, d00, d11, b00, b10, b11, b01, b24, w, q, hbig, if_true, if_false, Bool.false_eq_true, Option.bind_some, decide_true, decide_false, cond_true, cond_false, beq_self_eq_true, bne_self_eq_false]
      · have q : ¬ ((s1.length + b.length : Nat) : Int) > 2000000 := by omega
        cases td with
        | true =>
          by_cases hlt : (m : Int) < (b.length : Int)
          · have e1 : (if (m : Int) < (b.length : Int) then (m : Int) else (b.length : Int)) = (m : Int) := if_pos hlt
            have g1 : (b.length : Int) > (m : Int) := hlt
            have k1 : (0 : Int) ≤ (m : Int) := by omega
            have k2 : (m : Int) ≤ (b.length : Int) := by omega
            have c := Concat_eq s1 (b.take m) (by rw [List.length_take]; omega)
            have w2 : IntKind.i64.wrap ((m : Int) - (m : Int)) = 0 := by rw [i64_wrap (by omega) (by omega)]; omega
            have l1 : s1.length * 2 < 70368744177664 := by omega
            have l2 : (s1 ++ b.take m).length * 2 < 70368744177664 := by rw [List.length_append, List.length_take]; omega
            simp only [T_comptoirref21_Disk_Append_p00500000, Tr.val_c, Tr.val_r, val_opt, d01, d10, d00, d11, b00, b10, b11, b01, b24, w, q, hbig, e1, g1, hlt, k1, k2, c, w2, l1, l2, Int.toNat_natCast, List.drop_zero, if_true, if_false, Bool.false_eq_true, Option.bind_some, decide_true, decide_false, cond_true, cond_false, beq_self_eq_true, bne_self_eq_false]
          · have e1 : (if (m : Int) < (b.length : Int) then (m : Int) else (b.length : Int)) = (b.length : Int) := if_neg hlt
            have g1 : ¬ (b.length : Int) > (m : Int) := hlt
            have k1 : (0 : Int) ≤ (b.length : Int) := by omega
            have k2 : (b.length : Int) ≤ (b.length : Int) := by omega
            have k3 : ¬ ((b.length : Int) < (b.length : Int)) := by omega
            have c := Concat_eq s1 b (by omega)
            have w2 : IntKind.i64.wrap ((m : Int) - (b.length : Int)) = (m : Int) - (b.length : Int) := i64_wrap (by omega) (by omega)
            have l1 : s1.length * 2 < 70368744177664 := by omega
            have l2 : (s1 ++ b).length * 2 < 70368744177664 := by rw [List.length_append]; omega
            simp only [T_comptoirref21_Disk_Append_p00500000, Tr.val_c, Tr.val_r, val_opt, d01, d10, d00, d11, b00, b10, b11, b01, b24, w, q, hbig, e1, g1, hlt, k1, k2, k3, c, w2, l1, l2, Int.toNat_natCast, List.drop_zero, List.take_length, if_true, if_false, Bool.false_eq_true, Option.bind_some, decide_true, decide_false, cond_true, cond_false, beq_self_eq_true, bne_self_eq_false]
        | false =>
          have k2 : (b.length : Int) ≤ (b.length : Int) := by omega
          have c := Concat_eq s1 b (by omega)
          have l1 : s1.length * 2 < 70368744177664 := by omega
          have l2 : (s1 ++ b).length * 2 < 70368744177664 := by rw [List.length_append]; omega
          simp only [T_comptoirref21_Disk_Append_p00500000, Tr.val_c, Tr.val_r, val_opt, d01, d10, d00, d11, b00, b10, b11, b01, b24, w, q, hbig, k2, c, l1, l2, List.drop_zero, List.take_length, if_true, if_false, Bool.false_eq_true, Option.bind_some, decide_true, decide_false, cond_true, cond_false, beq_self_eq_true, bne_self_eq_false]
  rw [if_neg hi0, if_neg hi1]
  have c0 : (i != 0) = true := by rw [bne_iff_ne]; exact hi0
  have c1 : (i != 1) = true := by rw [bne_iff_ne]; exact hi1
  simp only [T_comptoirref21_Disk_Append_p00500000, Tr.val_c, Tr.val_r, c0, c1, cond_true]
set_option maxRecDepth 100000 in
theorem erD (i : Int) (s0 s1 : List AV) (l : Int) (td tn : Bool) : g_disk_Disk_Erase_p0500000 i s0 s1 l td tn = some (if i = 0 then (if tn = true then (24, s0, s1, l, td, tn) else (0, [], s1, l, td, tn)) else if i = 1 then (if tn = true then (24, s0, s1, l, td, tn) else (0, s0, [], l, td, tn)) else (1, s0, s1, l, td, tn)) := by
  have d01 : decide ((0 : Int) = 1) = false := rfl
  have d10 : decide ((1 : Int) = 0) = false := rfl
  have d00 : decide ((0 : Int) = 0) = true := rfl
  have d11 : decide ((1 : Int) = 1) = true := rfl
  have b00 : ((0 : Int) != 0) = false := rfl
  have b10 : ((1 : Int) != 0) = true := rfl
  have b11 : ((1 : Int) != 1) = false := rfl
  have b01 : ((0 : Int) != 1) = true := rfl
  have b24 : ((24 : Int) != 0) = true := rfl
  have a0 : ((0 : Int) == 0) = true := rfl
  have a1 : ((1 : Int) == 0) = false := rfl
  have a24 : ((24 : Int) == 0) = false := rfl
  have may := may_eq s0 s1 l td tn i
  unfold g_disk_Disk_Erase_p0500000
  by_cases hi0 : i = 0
  · subst hi0
    rw [if_pos rfl]
    rw [if_neg (by decide), if_neg (by decide)] at may
    cases tn <;> simp only [T_disk_Disk_Erase_p0500000, Tr.val_c, Tr.val_r, val_opt, d01, d10, d00, d11, b00, b10, b11, b01, b24, a0, a1, a24, may, if_true, if_false, Bool.false_eq_true, Option.bind_some, decide_true, decide_false, cond_true, cond_false]
  by_cases hi1 : i = 1
  · subst hi1
    rw [if_neg (by decide)]
    rw [if_pos rfl]
    rw [if_neg (by decide), if_neg (by decide)] at may
    cases tn <;> simp only [T_disk_Disk_Erase_p0500000, Tr.val_c, Tr.val_r, val_opt, d01, d10, d00, d11, b00, b10, b11, b01, b24, a0, a1, a24, may, if_true, if_false, Bool.false_eq_true, Option.bind_some, decide_true, decide_false, cond_true, cond_false]
  rw [if_neg hi0, if_neg hi1]
  have may2 : g_disk_Disk_may_p0 s0 s1 l td tn i = some 1 := by
    rw [may]
    by_cases h : i < 0
    · rw [if_pos h]
    · rw [if_neg h, if_pos (by omega)]
  simp only [T_disk_Disk_Erase_p0500000, Tr.val_c, Tr.val_r, val_opt, may2, a1, Option.bind_some, cond_false]
set_option maxRecDepth 100000 in
theorem erR (i : Int) (s0 s1 : List AV) (l : Int) (td tn : Bool) : g_comptoirref21_Disk_Erase_p0500000 i s0 s1 l td tn = some (if i = 0 then (if tn = true then (24, s0, s1, l, td, tn) else (0, [], s1, l, td, tn)) else if i = 1 then (if tn = true then (24, s0, s1, l, td, tn) else (0, s0, [], l, td, tn)) else (1, s0, s1, l, td, tn)) := by
  have d01 : decide ((0 : Int) = 1) = false := rfl
  have d10 : decide ((1 : Int) = 0) = false := rfl
  have d00 : decide ((0 : Int) = 0) = true := rfl
  have d11 : decide ((1 : Int) = 1) = true := rfl
  have b00 : ((0 : Int) != 0) = false := rfl
  have b10 : ((1 : Int) != 0) = true := rfl
  have b11 : ((1 : Int) != 1) = false := rfl
  have b01 : ((0 : Int) != 1) = true := rfl
  have b24 : ((24 : Int) != 0) = true := rfl
  have a0 : ((0 : Int) == 0) = true := rfl
  have a1 : ((1 : Int) == 0) = false := rfl
  have a24 : ((24 : Int) == 0) = false := rfl
  unfold g_comptoirref21_Disk_Erase_p0500000
  by_cases hi0 : i = 0
  · subst hi0
    rw [if_pos rfl]
    cases tn <;> simp only [T_comptoirref21_Disk_Erase_p0500000, Tr.val_c, Tr.val_r, val_opt, d01, d10, d00, d11, b00, b10, b11, b01, b24, a0, a1, a24, if_true, if_false, Bool.false_eq_true, Option.bind_some, decide_true, decide_false, cond_true, cond_false]
  by_cases hi1 : i = 1
  · subst hi1
    rw [if_neg (by decide)]
    rw [if_pos rfl]
    cases tn <;> simp only [T_comptoirref21_Disk_Erase_p0500000, Tr.val_c, Tr.val_r, val_opt, d01, d10, d00, d11, b00, b10, b11, b01, b24, a0, a1, a24, if_true, if_false, Bool.false_eq_true, Option.bind_some, decide_true, decide_false, cond_true, cond_false]
  rw [if_neg hi0, if_neg hi1]
  have c0 : (i != 0) = true := by rw [bne_iff_ne]; exact hi0
  have c1 : (i != 1) = true := by rw [bne_iff_ne]; exact hi1
  simp only [T_comptoirref21_Disk_Erase_p0500000, Tr.val_c, Tr.val_r, c0, c1, cond_true]
theorem awake22 : g_comptoirlaw22_awake = some true := by
  have a := apD 0 [.int .u8 1, .int .u8 2] [] [] 1 true false (by simp) (by simp) (by simp) (by omega) (by omega)
  have e : apS 0 [.int .u8 1, .int .u8 2] [] [] 1 true false = (24, [.int .u8 1], [], 0, true, true) := by unfold apS; simp
  rw [e] at a
  have s := Slot_own 0 [.int .u8 1] [] 0 true true (by simp) (by simp)
  rw [if_pos rfl] at s
  unfold g_comptoirlaw22_awake
  simp only [T_comptoirlaw22_awake, Tr.val_c, Tr.val_r, val_opt, a, s, Option.bind_some, beq_self_eq_true, cond_true]
  rfl
/-- What a disk is. -/
def DOk (s0 s1 : List AV) (l : Int) : Prop := s0.length ≤ 2000000 ∧ s1.length ≤ 2000000 ∧ 0 ≤ l ∧ l < 9223372036854775808
theorem apS_ok (i : Int) (b s0 s1 : List AV) (l : Int) (td tn : Bool) (hb : b.length ≤ 3000) (h : DOk s0 s1 l) : DOk (apS i b s0 s1 l td tn).2.1 (apS i b s0 s1 l td tn).2.2.1 (apS i b s0 s1 l td tn).2.2.2.1 := by
  obtain ⟨h0, h1, h2, h3⟩ := h
  unfold apS DOk
  split
  · split
    · exact ⟨h0, h1, h2, h3⟩
    split
    · exact ⟨h0, h1, h2, h3⟩
    split
    · split
      · exact ⟨by simp only [List.length_append, List.length_take]; omega, h1, by simp, by simp⟩
      · exact ⟨by simp only [List.length_append]; omega, h1, by simp only; omega, by simp only; omega⟩
    · exact ⟨by simp only [List.length_append]; omega, h1, h2, h3⟩
  split
  · split
    · exact ⟨h0, h1, h2, h3⟩
    split
    · exact ⟨h0, h1, h2, h3⟩
    split
    · split
      · exact ⟨h0, by simp only [List.length_append, List.length_take]; omega, by simp, by simp⟩
      · exact ⟨h0, by simp only [List.length_append]; omega, by simp only; omega, by simp only; omega⟩
    · exact ⟨h0, by simp only [List.length_append]; omega, h2, h3⟩
  · exact ⟨h0, h1, h2, h3⟩
section
variable (L : List AV)
noncomputable abbrev dpRun (s) := run (M_comptoirlaw22_DiskPlays L) (M_comptoirlaw22_DiskPlays L s)
theorem beq_bool (b : Bool) : (b == b) = true := by cases b <;> rfl
set_option maxRecDepth 100000 in
theorem dp_loop (hL : ∀ y ∈ L, Wf (.agg [.int .i64, .int .i64, .int .i64, .slice 1 (.int .u8)]) y) : ∀ (m i : Nat) (s0 s1 : List AV) (l : Int) (td tn : Bool), 81 ≤ i + m → i ≤ 81 → DOk s0 s1 l →
    dpRun L (.inr (.inl (((i : Int), s0, s1, l, td, tn, s0, s1, l, td, tn)))) = some true := by
  intro m
  induction m with
  | zero =>
    intro i s0 s1 l td tn hm hi h
    have q : ¬ (i : Int) < 80 := by omega
    unfold dpRun
    by_cases c : (i : Int) < (L.length : Int)
    · exact run_inr (by simp only [M_comptoirlaw22_DiskPlays, Tr.val_c, Tr.val_r, c, q, decide_true, decide_false, cond_true, cond_false])
    · exact run_inr (by simp only [M_comptoirlaw22_DiskPlays, Tr.val_c, Tr.val_r, c, decide_false, cond_false])
  | succ m ih =>
    intro i s0 s1 l td tn hm hi h
    unfold dpRun
    by_cases c : (i : Int) < (L.length : Int)
    case neg => exact run_inr (by simp only [M_comptoirlaw22_DiskPlays, Tr.val_c, Tr.val_r, c, decide_false, cond_false])
    by_cases q : (i : Int) < 80
    case neg => exact run_inr (by simp only [M_comptoirlaw22_DiskPlays, Tr.val_c, Tr.val_r, c, q, decide_true, decide_false, cond_true, cond_false])
    rw [run_inl (s := (.inr (.inr (.inl (((i : Int), s0, s1, l, td, tn, s0, s1, l, td, tn)))))) (by simp only [M_comptoirlaw22_DiskPlays, Tr.val_c, Tr.val_r, c, q, decide_true, cond_true])]
    -- what both say, and go on
    have go : ∀ (s0 s1 : List AV) (l : Int) (td tn : Bool), DOk s0 s1 l → run (M_comptoirlaw22_DiskPlays L) (M_comptoirlaw22_DiskPlays L (.inr (.inr (.inr (.inl ((true, s0, s1, l, td, tn, s0, s1, l, td, tn, (i : Int)))))))) = some true := by
      intro s0 s1 l td tn h
      obtain ⟨h0, h1, h2, h3⟩ := h
      have a0 := Slot_own 0 s0 s1 l td tn (by omega) (by omega)
      have a1 := Slot_own 1 s0 s1 l td tn (by omega) (by omega)
      have w : IntKind.i64.wrap ((i : Int) + 1) = ((i + 1 : Nat) : Int) := by rw [i64_wrap (by omega) (by omega)]; omega
      rw [if_pos rfl] at a0
      rw [if_neg (by decide), if_pos rfl] at a1
      rw [run_inl (s := (.inr (.inr (.inr (.inr ((s0, s1, l, td, tn, s0, s1, l, td, tn, false, (i : Int)))))))) (by
        simp only [M_comptoirlaw22_DiskPlays, Tr.val_c, Tr.val_r, val_opt, a0, a1, beq_bool, Option.bind_some, Bool.not_true, beq_self_eq_true, cond_false])]
      rw [run_inl (s := (.inr (.inl ((((i + 1 : Nat) : Int), s0, s1, l, td, tn, s0, s1, l, td, tn))))) (by
        simp only [M_comptoirlaw22_DiskPlays, Tr.val_c, Tr.val_r, w, cond_false])]
      exact ih (i + 1) s0 s1 l td tn (by omega) (by omega) ⟨h0, h1, h2, h3⟩
    have q0 : (0 : Int) ≤ (i : Int) := by omega
    have hi2 : i < L.length := by omega
    have e : ∀ d, L.getD i d = L[i] := fun d => by simp [List.getD_eq_getElem?_getD, hi2]
    have hx := hL L[i] (List.getElem_mem hi2)
    generalize L[i] = x at e hx
    by_cases k1 : getI (getF x 0) = 1
    · have b1 : (getI (getF x 0) == 1) = true := by rw [k1]; rfl
      have d := erD (getI (getF x 1)) s0 s1 l td tn
      have r := erR (getI (getF x 1)) s0 s1 l td tn
      obtain ⟨h0, h1, h2, h3⟩ := h
      generalize hz : (if getI (getF x 1) = 0 then (if tn = true then ((24 : Int), s0, s1, l, td, tn) else (0, [], s1, l, td, tn)) else if getI (getF x 1) = 1 then (if tn = true then (24, s0, s1, l, td, tn) else (0, s0, [], l, td, tn)) else (1, s0, s1, l, td, tn)) = z at d r
      have hok : DOk z.2.1 z.2.2.1 z.2.2.2.1 := by
        subst hz
        unfold DOk
        split
        · split
          · exact ⟨h0, h1, h2, h3⟩
          · exact ⟨by simp, h1, h2, h3⟩
        split
        · split
          · exact ⟨h0, h1, h2, h3⟩
          · exact ⟨h0, by simp, h2, h3⟩
        · exact ⟨h0, h1, h2, h3⟩
      rw [run_inl (s := (.inr (.inr (.inr (.inl ((true, z.2.1, z.2.2.1, z.2.2.2.1, z.2.2.2.2.1, z.2.2.2.2.2, z.2.1, z.2.2.1, z.2.2.2.1, z.2.2.2.2.1, z.2.2.2.2.2, (i : Int)))))))) (by
        simp only [M_comptoirlaw22_DiskPlays, Tr.val_c, Tr.val_r, val_opt, c, q0, e, b1, d, r, Int.toNat_natCast, decide_true, beq_self_eq_true, Option.bind_some, cond_true])]
      exact go _ _ _ _ _ hok
    have b1 : (getI (getF x 0) == 1) = false := by rw [beq_eq_false_iff_ne]; exact k1
    by_cases k2 : getI (getF x 0) = 2
    · have b2 : (getI (getF x 0) == 2) = true := by rw [k2]; rfl
      have wn : -9223372036854775808 ≤ getI (getF x 2) ∧ getI (getF x 2) < 9223372036854775808 := by
        obtain ⟨cs, hcs, hw⟩ : ∃ cs, x = .agg cs ∧ WfL [.int .i64, .int .i64, .int .i64, .slice 1 (.int .u8)] cs := hx
        subst hcs
        obtain ⟨n, hn, hwf⟩ : Wf (.int .i64) (cs.getD 2 .junk) := wfL_get hw 2 _ rfl
        have : getF (.agg cs) 2 = .int .i64 n := hn
        rw [this]
        simp [Lit.wf, IntKind.min, IntKind.max, IntKind.signed, IntKind.bits] at hwf
        simp only [getI]
        omega
      have em : (if getI (getF x 2) > 0 then getI (getF x 2) else 0) = (if 0 > getI (getF x 2) then 0 else getI (getF x 2)) := by
        by_cases hh : getI (getF x 2) > 0
        · rw [if_pos hh, if_neg (by omega)]
        · rw [if_neg hh]; split <;> omega
      obtain ⟨h0, h1, h2, h3⟩ := h
      generalize hz : (if 0 > getI (getF x 2) then 0 else getI (getF x 2)) = z at em
      have hok : DOk s0 s1 z := ⟨h0, h1, by rw [← hz]; split <;> omega, by rw [← hz]; split <;> omega⟩
      rw [run_inl (s := (.inr (.inr (.inr (.inl ((true, s0, s1, z, true, tn, s0, s1, z, true, tn, (i : Int)))))))) (by
        simp only [M_comptoirlaw22_DiskPlays, Tr.val_c, Tr.val_r, val_opt, c, q0, e, b1, b2, em, hz, Int.toNat_natCast, decide_true, cond_true, cond_false])]
      exact go _ _ _ _ _ hok
    have b2 : (getI (getF x 0) == 2) = false := by rw [beq_eq_false_iff_ne]; exact k2
    by_cases k3 : getI (getF x 0) = 3
    · have b3 : (getI (getF x 0) == 3) = true := by rw [k3]; rfl
      obtain ⟨h0, h1, h2, h3⟩ := h
      rw [run_inl (s := (.inr (.inr (.inr (.inl ((true, s0, s1, 0, false, false, s0, s1, 0, false, false, (i : Int)))))))) (by
        simp only [M_comptoirlaw22_DiskPlays, Tr.val_c, Tr.val_r, val_opt, c, q0, e, b1, b2, b3, Int.toNat_natCast, decide_true, cond_true, cond_false])]
      exact go _ _ _ _ _ ⟨h0, h1, by omega, by omega⟩
    have b3 : (getI (getF x 0) == 3) = false := by rw [beq_eq_false_iff_ne]; exact k3
    by_cases kb : ((getXs (getF x 3)).length : Int) > 3000
    · exact run_inr (by simp only [M_comptoirlaw22_DiskPlays, Tr.val_c, Tr.val_r, val_opt, c, q0, e, b1, b2, b3, kb, Int.toNat_natCast, decide_true, cond_true, cond_false])
    · have hb : (getXs (getF x 3)).length ≤ 3000 := by omega
      have lb : (getXs (getF x 3)).length * 4 < 70368744177600 := by omega
      have d := apD (getI (getF x 1)) (getXs (getF x 3)) s0 s1 l td tn hb h.1 h.2.1 h.2.2.1 h.2.2.2
      have r := apR (getI (getF x 1)) (getXs (getF x 3)) s0 s1 l td tn hb h.1 h.2.1 h.2.2.1 h.2.2.2
      have hok := apS_ok (getI (getF x 1)) (getXs (getF x 3)) s0 s1 l td tn hb h
      have kp := Kept_self (getXs (getF x 3)) 71 (by omega)
      generalize apS (getI (getF x 1)) (getXs (getF x 3)) s0 s1 l td tn = z at d r hok
      rw [run_inl (s := (.inr (.inr (.inr (.inl ((true, z.2.1, z.2.2.1, z.2.2.2.1, z.2.2.2.2.1, z.2.2.2.2.2, z.2.1, z.2.2.1, z.2.2.2.1, z.2.2.2.2.1, z.2.2.2.2.2, (i : Int)))))))) (by
        simp only [M_comptoirlaw22_DiskPlays, Tr.val_c, Tr.val_r, val_opt, c, q0, e, b1, b2, b3, kb, lb, d, r, kp, Int.toNat_natCast, decide_true, decide_false, beq_self_eq_true, Option.bind_some, cond_true, cond_false])]
      exact go _ _ _ _ _ hok
end
set_option maxRecDepth 100000 in
theorem dplays_eq (L : List AV) (hL : ∀ y ∈ L, Wf (.agg [.int .i64, .int .i64, .int .i64, .slice 1 (.int .u8)]) y) : g_comptoirlaw22_DiskPlays L = some true := by
  unfold g_comptoirlaw22_DiskPlays
  rw [run_inl (s := (.inl (false))) (by simp only [T_comptoirlaw22_DiskPlays, Tr.val_c, Tr.val_r, val_opt, awake22, Option.bind_some, Bool.not_true, cond_false])]
  rw [run_inl (s := (.inr (.inl ((((0 : Nat) : Int), [], [], 0, false, false, [], [], 0, false, false))))) (by simp only [M_comptoirlaw22_DiskPlays, Tr.val_c, Tr.val_r, cond_false]; rfl)]
  exact dp_loop L hL 81 0 [] [] 0 false false (by omega) (by omega) ⟨by simp, by simp, by omega, by omega⟩

end Go.Proofs.Ytdkaampcgkjikaa
