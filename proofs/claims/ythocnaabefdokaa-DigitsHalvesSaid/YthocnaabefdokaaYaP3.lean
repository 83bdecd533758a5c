/- A part of the proof. -/
import Derived.Test.YthocnaabefdokaaYaG1
import Derived.Test.YthocnaabefdokaaCxP
namespace Go.Proofs.Ythocnaabefdokaa
open Go.Cx Go.Cx.AV
set_option linter.unusedSimpArgs false

/- awake -/
theorem g47_123 : g47 [49, 50, 51] [48, 49, 50, 51, 52, 53, 54, 55, 56, 57] = some true := run_some.2 ⟨10, by kernel_rfl⟩
theorem g47_5 : g47 [53] [48, 49, 50, 51, 52, 53, 54, 55, 56, 57] = some true := run_some.2 ⟨10, by kernel_rfl⟩
theorem g18_123 : g18 [49, 50, 51] 0 100 = some true := by unfold g18 T18; rw [g47_123]; rfl
theorem g18_5 : g18 [53] 1 1 = some true := by unfold g18 T18; rw [g47_5]; rfl
theorem g16_123 : g16 [49, 50, 51] = some ([.int .u8 1, .int .u8 35], 0) := by
  unfold g16 T16; rw [g18_123]
  exact run_some.2 ⟨10, by kernel_rfl⟩
theorem g45_171 : g45 [.int .u8 171] = some [65, 66] := run_some.2 ⟨10, by kernel_rfl⟩
theorem g13_eq : g13 = some true := by
  unfold g13 T13; rw [g16_123, g18_5, g45_171]; rfl

/- halves of bytes -/
def good (c : UInt8) : Bool := decide (c.toNat / 16 ≤ 9) && decide (c.toNat % 16 ≤ 9)
def txt (b : List UInt8) : List AV := b.flatMap fun c => [.int .u8 ((48 + c.toNat / 16 : Nat) : Int), .int .u8 ((48 + c.toNat % 16 : Nat) : Int)]
theorem txt_length (b : List UInt8) : (txt b).length = 2 * b.length := by
  induction b with
  | nil => rfl
  | cons c b ih => simp only [txt, List.flatMap_cons, List.length_append, List.length_cons, List.length_nil] at ih ⊢; omega

def fin14 (skip : Int) (l : List AV) : List UInt8 × Int :=
  if skip = 1 then (if getI (l.getD 0 (.int .u8 0)) = 48 then (bytesOf (l.drop 1), 0) else ([], 5)) else (bytesOf l, 0)

theorem loop14 (b : List UInt8) (hb : 1 ≤ b.length) (hl : b.length ≤ 100) (skip : Int) (hs : skip = 0 ∨ skip = 1) : ∀ (k i : Nat), i + k = b.length → (b.take i).all good = true →
    run (M14 (bl b) (2 * b.length - skip)) (M14 (bl b) (2 * b.length - skip) ((i : Int), txt (b.take i))) = some (if b.all good = true then fin14 skip (txt b) else ([], 5))
  | 0, i, hi, hg => by
    have hi : i = b.length := by omega
    subst hi
    rw [List.take_length] at hg ⊢
    rw [run_unfold]
    have e0 : IntKind.i64.wrap (2 * ((bl b).length : Int)) = 2 * b.length := by rw [bl_length]; exact i64_wrap (by omega) (by omega)
    have e1 : IntKind.i64.wrap (2 * (b.length : Int) - (2 * b.length - skip)) = skip := by rw [i64_wrap (by omega) (by omega)]; omega
    have hlt : ¬ ((b.length : Int) < (bl b).length) := by rw [bl_length]; omega
    have ht := txt_length b
    simp only [M14, e0, e1, hlt, decide_false, Tr.fold, cond_false, beq_self_eq_true, cond_true, hg, if_true, List.take_length, Int.le_refl, decide_true]
    rcases hs with rfl | rfl
    · have h1 : (0 : Int) ≤ (txt b).length := by omega
      simp [fin14, h1]
    · have h1 : (0 : Int) < (txt b).length := by omega
      have h2 : 0 < (txt b).length := by omega
      have h3 : (1 : Int) ≤ (txt b).length := by omega
      simp only [h1, h2, h3, decide_true, cond_true, fin14]
      by_cases h4 : getI ((txt b).getD 0 (.int .u8 0)) = 48
      · have h5 : (getI ((txt b).getD 0 (.int .u8 0)) != 48) = false := by rw [h4]; rfl
        simp only [Int.toNat_zero, h5, cond_false, if_true, if_pos h4, Tr.fold, Sum.elim_inr, Int.toNat_one]
        simp
      · have h5 : (getI ((txt b).getD 0 (.int .u8 0)) != 48) = true := by simpa using h4
        simp only [Int.toNat_zero, h5, cond_true, if_true, if_neg h4, Tr.fold, Sum.elim_inr]
        rfl
  | k + 1, i, hi, hg => by
    have hlt : i < b.length := by omega
    have h1 : (i : Int) < (bl b).length := by rw [bl_length]; omega
    have h2 : (0 : Int) ≤ i := by omega
    have hget := bl_get hlt
    have h3 : b[i].toNat < 256 := b[i].toNat_lt
    generalize hF : M14 (bl b) (2 * b.length - skip) = F
    have hstep : ∀ s, M14 (bl b) (2 * b.length - skip) s = F s := fun s => by rw [hF]
    rw [← hstep, run_unfold]
    simp only [M14, h1, h2, decide_true, cond_true, Tr.fold, Int.toNat_natCast, hget, getI, shr4, and15 h3]
    have hmem : b[i] ∈ b := List.getElem_mem hlt
    by_cases c1 : b[i].toNat / 16 ≤ 9
    · by_cases c2 : b[i].toNat % 16 ≤ 9
      · have d1 : ¬ (((b[i].toNat / 16 : Nat) : Int) > 9) := by omega
        have d2 : ¬ (((b[i].toNat % 16 : Nat) : Int) > 9) := by omega
        have w1 : IntKind.u8.wrap (48 + ((b[i].toNat / 16 : Nat) : Int)) = ((48 + b[i].toNat / 16 : Nat) : Int) := by rw [u8_wrap (by omega) (by omega)]; omega
        have w2 : IntKind.u8.wrap (48 + ((b[i].toNat % 16 : Nat) : Int)) = ((48 + b[i].toNat % 16 : Nat) : Int) := by rw [u8_wrap (by omega) (by omega)]; omega
        have w3 : IntKind.i64.wrap ((i : Int) + 1) = ((i + 1 : Nat) : Int) := by rw [i64_wrap (by omega) (by omega)]; omega
        have hts : b.take (i + 1) = b.take i ++ [b[i]] := by rw [List.take_succ_eq_append_getElem hlt]
        have htx : txt (b.take i) ++ [.int .u8 ((48 + b[i].toNat / 16 : Nat) : Int), .int .u8 ((48 + b[i].toNat % 16 : Nat) : Int)] = txt (b.take (i + 1)) := by rw [hts]; simp only [txt, List.flatMap_append, List.flatMap_cons, List.flatMap_nil, List.append_nil]
        have hlen : (txt (b.take (i + 1))).length * 2 < 70368744177664 := by rw [txt_length, List.length_take]; omega
        simp only [d1, d2, decide_false, cond_false, beq_self_eq_true, cond_true, w1, w2, w3, htx, hlen, decide_true, Sum.elim_inl]
        rw [← hF]
        refine loop14 b hb hl skip hs k (i + 1) (by omega) ?_
        rw [hts, List.all_append, hg]
        simp [good, c1, c2]
      · have d1 : ¬ (((b[i].toNat / 16 : Nat) : Int) > 9) := by omega
        have d2 : (((b[i].toNat % 16 : Nat) : Int) > 9) := by omega
        have hng : b.all good = false := by rw [List.all_eq_false]; exact ⟨_, hmem, by simp [good, c2]⟩
        simp only [d1, d2, hng, decide_false, decide_true, cond_false, cond_true, Sum.elim_inr]
        rfl
    · have d1 : (((b[i].toNat / 16 : Nat) : Int) > 9) := by omega
      have hng : b.all good = false := by rw [List.all_eq_false]; exact ⟨_, hmem, by simp [good, c1]⟩
      simp only [d1, hng, decide_true, cond_true, Sum.elim_inr]
      rfl

theorem g14_eq (b : List UInt8) (hb : 1 ≤ b.length) (hl : b.length ≤ 100) (skip : Int) (hs : skip = 0 ∨ skip = 1) : g14 (bl b) (2 * b.length - skip) = some (if b.all good = true then fin14 skip (txt b) else ([], 5)) := by
  unfold g14
  rw [run_unfold]
  have e0 : IntKind.i64.wrap (2 * ((bl b).length : Int)) = 2 * b.length := by rw [bl_length]; exact i64_wrap (by omega) (by omega)
  have e1 : IntKind.i64.wrap (2 * (b.length : Int) - (2 * b.length - skip)) = skip := by rw [i64_wrap (by omega) (by omega)]; omega
  have h1 : ¬ (2 * (b.length : Int) - skip < 0) := by omega
  have h2 : ¬ (skip < 0) := by omega
  have h3 : ¬ (skip > 1) := by omega
  simp only [T14, e0, e1, h1, h2, h3, decide_false, Tr.fold, cond_false, Sum.elim_inl]
  exact loop14 b hb hl skip hs b.length 0 (by omega) rfl

theorem g14_off (b : List UInt8) (hb : 1 ≤ b.length) (hl : b.length ≤ 100) (skip : Int) (hs : skip = -1 ∨ skip = 2) : g14 (bl b) (2 * b.length - skip) = some ([], 1) := by
  unfold g14
  rw [run_unfold]
  have e0 : IntKind.i64.wrap (2 * ((bl b).length : Int)) = 2 * b.length := by rw [bl_length]; exact i64_wrap (by omega) (by omega)
  have e1 : IntKind.i64.wrap (2 * (b.length : Int) - (2 * b.length - skip)) = skip := by rw [i64_wrap (by omega) (by omega)]; omega
  have h1 : ¬ (2 * (b.length : Int) - skip < 0) := by omega
  simp only [T14, e0, e1, h1, decide_false, Tr.fold, cond_false, Sum.elim_inl]
  rcases hs with rfl | rfl <;> rfl

theorem txt_drop1 {b : List UInt8} (hb : 1 ≤ b.length) (h : b[0].toNat / 16 = 0) : bytesOf (txt b) = [48] ++ bytesOf ((txt b).drop 1) := by
  cases b with
  | nil => simp at hb
  | cons c b =>
    simp only [List.getElem_cons_zero] at h
    simp only [txt, List.flatMap_cons, bytesOf, List.cons_append, List.map_cons, List.drop_succ_cons, List.drop_zero, h]
    rfl
theorem txt_head {b : List UInt8} (hb : 1 ≤ b.length) : getI ((txt b).getD 0 (.int .u8 0)) = 48 + ((b[0].toNat / 16 : Nat) : Int) := by
  cases b with
  | nil => simp at hb
  | cons c b => simp [txt, getI]

theorem bool_self : ∀ x : Bool, (x == x) = true := by decide

theorem loop3 (b : List UInt8) (hb : 1 ≤ b.length) (hl : b.length ≤ 100) : ∀ (k i : Nat), i + k = b.length → run (M3 (bl b)) (M3 (bl b) ((b.take i).all good, (i : Int))) = some true
  | 0, i, hi => by
    have hi : i = b.length := by omega
    subst hi
    rw [List.take_length, run_unfold]
    have hlt : ¬ ((b.length : Int) < (bl b).length) := by rw [bl_length]; omega
    have h0 : (0 : Int) < (bl b).length := by rw [bl_length]; omega
    have w0 : IntKind.i64.wrap (2 * ((bl b).length : Int)) = 2 * b.length - 0 := by rw [bl_length, i64_wrap (by omega) (by omega)]; omega
    have w1 : IntKind.i64.wrap (2 * (b.length : Int) - 0 - 1) = 2 * b.length - 1 := by rw [i64_wrap (by omega) (by omega)]; omega
    have w2 : IntKind.i64.wrap (2 * (b.length : Int) - 0 - 2) = 2 * b.length - 2 := by rw [i64_wrap (by omega) (by omega)]; omega
    have w3 : IntKind.i64.wrap (2 * (b.length : Int) - 0 + 1) = 2 * b.length - (-1) := by rw [i64_wrap (by omega) (by omega)]; omega
    have hget : (bl b).getD 0 (.int .u8 0) = .int .u8 (b[0].toNat : Int) := bl_get (by omega)
    simp only [M3, hlt, h0, w0, w1, w2, w3, g14_eq b hb hl 0 (.inl rfl), g14_eq b hb hl 1 (.inr rfl), g14_off b hb hl (-1) (.inl rfl), g14_off b hb hl 2 (.inr rfl), g13_eq, Option.isSome_some, Option.getD_some, decide_false, decide_true, cond_false, cond_true, Tr.fold, hget, getI, shr4]
    by_cases hg : b.all good = true
    · simp only [hg, if_true, cond_true, fin14, if_neg (show ¬ ((0 : Int) = 1) by decide)]
      by_cases hz : b[0].toNat / 16 = 0
      · have t1 : (((b[0].toNat / 16 : Nat) : Int) == 0) = true := by rw [hz]; rfl
        have t2 : getI ((txt b).getD 0 (.int .u8 0)) = 48 := by rw [txt_head hb, hz]; rfl
        have t3 : (bytesOf (txt b) == [48] ++ bytesOf ((txt b).drop 1)) = true := by rw [← txt_drop1 hb hz]; exact beq_self_eq_true _
        have t4 : 1 + (bytesOf ((txt b).drop 1)).length < 70368744177664 := by
          have := txt_length b
          simp only [bytesOf, List.length_map, List.length_drop]; omega
        simp only [t1, t2, t3, t4, if_true, beq_self_eq_true, cond_true, decide_true, Bool.not_true, cond_false, Sum.elim_inr]
      · have t1 : (((b[0].toNat / 16 : Nat) : Int) == 0) = false := by simp; omega
        have t2 : ¬ getI ((txt b).getD 0 (.int .u8 0)) = 48 := by rw [txt_head hb]; omega
        have t3 : ((5 : Int) == 0) = false := rfl
        simp only [t1, if_neg t2, t3, beq_self_eq_true, cond_true, Bool.not_false, Sum.elim_inr]
    · have hg : b.all good = false := by simpa using hg
      have t3 : ((5 : Int) == 0) = false := rfl
      simp only [hg, t3, beq_self_eq_true, cond_true, cond_false, Sum.elim_inr, Bool.false_eq_true, if_false]
  | k + 1, i, hi => by
    have hlt : i < b.length := by omega
    have h1 : (i : Int) < (bl b).length := by rw [bl_length]; omega
    have h2 : (0 : Int) ≤ i := by omega
    have hget := bl_get hlt
    have h3 : b[i].toNat < 256 := b[i].toNat_lt
    have w3 : IntKind.i64.wrap ((i : Int) + 1) = ((i + 1 : Nat) : Int) := by rw [i64_wrap (by omega) (by omega)]; omega
    have hts : (b.take (i + 1)).all good = ((b.take i).all good && good b[i]) := by rw [List.take_succ_eq_append_getElem hlt, List.all_append]; simp
    have IH := loop3 b hb hl k (i + 1) (by omega)
    rw [hts] at IH
    generalize hF : M3 (bl b) = F at IH ⊢
    have hstep : ∀ s, M3 (bl b) s = F s := fun s => by rw [hF]
    rw [← hstep, run_unfold]
    simp only [M3, h1, h2, decide_true, cond_true, Tr.fold, Int.toNat_natCast, hget, getI, shr4, and15 h3, w3, Sum.elim_inl]
    cases hg : (b.take i).all good
    · rw [hg] at IH; exact IH
    · rw [hg] at IH
      by_cases c1 : b[i].toNat / 16 ≤ 9
      · have d1 : ((b[i].toNat / 16 : Nat) : Int) < 10 := by omega
        by_cases c2 : b[i].toNat % 16 ≤ 9
        · have d2 : ((b[i].toNat % 16 : Nat) : Int) < 10 := by omega
          simp only [d1, d2, decide_true, cond_true]
          simpa only [good, c1, c2, decide_true, Bool.and_self] using IH
        · have d2 : ¬ ((b[i].toNat % 16 : Nat) : Int) < 10 := by omega
          simp only [d1, d2, decide_true, decide_false, cond_true]
          simpa only [good, c1, c2, decide_true, decide_false, Bool.and_false] using IH
      · have d1 : ¬ ((b[i].toNat / 16 : Nat) : Int) < 10 := by omega
        simp only [d1, decide_false, cond_true, cond_false]
        simpa only [good, c1, decide_false, Bool.and_false, Bool.false_and] using IH

theorem g3_eq (b : List UInt8) : g3 (bl b) = some true := by
  unfold g3
  rw [run_unfold]
  by_cases h1 : ((bl b).length : Int) < 1
  · simp only [T3, h1, decide_true, Tr.fold, cond_true, g13_eq, Option.isSome_some, Option.getD_some, Sum.elim_inr]
  · by_cases h2 : ((bl b).length : Int) > 100
    · simp only [T3, h1, h2, decide_true, decide_false, Tr.fold, cond_true, cond_false, g13_eq, Option.isSome_some, Option.getD_some, Sum.elim_inr]
    · simp only [T3, h1, h2, decide_false, Tr.fold, cond_false, Sum.elim_inl]
      rw [bl_length] at h1 h2
      exact loop3 b (by omega) (by omega) b.length 0 (by omega)

end Go.Proofs.Ythocnaabefdokaa
