/- Summaries written by hand: strings.TrimLeft, strings.Trim at signs below 128; strings.Replace of one sign, once, by nothing. -/
import Derived.Test.YtcnalhganahiiaaGreatDoorYsB1
import Derived.Shelf.Strings.SlTrimAscii
namespace Go.Proofs.YtcnalhganahiiaaGreatDoor
open Go.Cx Go.Cx.AV Go.RowKit
set_option linter.unusedSimpArgs false
set_option linter.unusedVariables false
def lowB (cs : List UInt8) : Bool := cs.all fun b => decide (b.toNat < 128)
theorem dropW_le (p : UInt8 → Bool) : ∀ l : List UInt8, (l.dropWhile p).length ≤ l.length
  | [] => Nat.le_refl _
  | b :: l => by
    rw [List.dropWhile_cons]
    split
    · exact Nat.le_succ_of_le (dropW_le p l)
    · exact Nat.le_refl _
theorem trimLeftS_le (l cs : List UInt8) : (Lib.trimLeftS l cs).length ≤ l.length := dropW_le _ l
theorem trimRightS_le (l cs : List UInt8) : (Lib.trimRightS l cs).length ≤ l.length := by
  show ((l.reverse.dropWhile (cs.contains ·)).reverse).length ≤ _
  rw [List.length_reverse]
  exact Nat.le_trans (dropW_le _ _) (by simp)
theorem trimS_le (l cs : List UInt8) : (Lib.trimS l cs).length ≤ l.length := Nat.le_trans (trimLeftS_le _ _) (trimRightS_le _ _)
noncomputable def S2 (f : List UInt8 → List UInt8 → List UInt8) : Cx.Spec := fun args hp => match args with
  | [AV.str s, AV.str cs] => .c (decide (cs.length ≤ 1000)) (.c (lowB cs) (.r (.str (f s cs), hp, .pure)) .bad) .bad
  | _ => .bad
theorem S2_inv {f : List UInt8 → List UInt8 → List UInt8} {args : List AV} {hp : List Ob} {r : AV} {hp' : List Ob} {c : Cls} (h : (S2 f args hp).val = some (r, hp', c)) :
    ∃ (s cs : List UInt8), args = [.str s, .str cs] ∧ cs.length ≤ 1000 ∧ lowB cs = true ∧ r = .str (f s cs) ∧ hp' = hp ∧ c = .pure := by
  unfold S2 at h
  split at h
  · rename_i s cs
    obtain ⟨h1, h⟩ := val_if_bad h
    obtain ⟨h2, h⟩ := val_if_bad h
    have h4 := val_ret h
    simp only [Prod.mk.injEq, decide_eq_true_eq] at h1 h4
    obtain ⟨rfl, rfl, rfl⟩ := h4
    exact ⟨s, cs, rfl, h1, h2, rfl, rfl, rfl⟩
  · cases h
theorem S2_val {f : List UInt8 → List UInt8 → List UInt8} (s cs : List UInt8) (h1 : cs.length ≤ 1000) (h2 : lowB cs = true) (hp : List Ob) : (S2 f [.str s, .str cs] hp).val = some (.str (f s cs), hp, .pure) := by
  simp only [S2, val_if, h1, h2, decide_true, cond_true]
  rfl
theorem S2_flat (f : List UInt8 → List UInt8 → List UInt8) : Flat (S2 f) := ⟨fun args hp r hp' c h => by
  obtain ⟨s, cs, rfl, h1, h2, rfl, rfl, rfl⟩ := S2_inv h
  exact ⟨rfl, rfl, fun hq => S2_val s cs h1 h2 hq⟩⟩
noncomputable def STrl : Cx.Spec := S2 Lib.trimLeftS
theorem STrl_ok : Sound Tryz.prog 34 STrl := by
  refine sound_new Tryz.func34 (c := Tryz.f34.body.getD .skip) (by kernel_rfl) (by kernel_rfl) (S2_flat _) ?_
  intro args hp r hp' c h g w vs hL hv
  obtain ⟨s, cs, rfl, h1, h2, rfl, -, -⟩ := S2_inv h
  obtain ⟨v1, vs, rfl, hv1, hv⟩ := hv.cons_inv
  obtain ⟨v2, vs, rfl, hv2, hv⟩ := hv.cons_inv
  obtain rfl := hv.nil_inv
  obtain ⟨rfl, hs⟩ := str_inv hv1
  obtain ⟨rfl, -⟩ := str_inv hv2
  refine (Any.strings_TrimLeft_laid Tryz.lays161 (by kernel_rfl) ⟨⟨s⟩⟩ ⟨⟨cs⟩⟩ w (Nat.lt_of_le_of_lt h1 (by decide)) (ascii_of_all h2)).mono ?_
  rintro e w' ⟨rfl, hbel⟩
  exact ⟨_, rfl, hbel, fun g' => .str _ (Nat.lt_of_le_of_lt (trimLeftS_le s cs) hs)⟩
noncomputable def STrm : Cx.Spec := S2 Lib.trimS
theorem STrm_ok : Sound Tryz.prog 118 STrm := by
  refine sound_new Tryz.func118 (c := Tryz.f118.body.getD .skip) (by kernel_rfl) (by kernel_rfl) (S2_flat _) ?_
  intro args hp r hp' c h g w vs hL hv
  obtain ⟨s, cs, rfl, h1, h2, rfl, -, -⟩ := S2_inv h
  obtain ⟨v1, vs, rfl, hv1, hv⟩ := hv.cons_inv
  obtain ⟨v2, vs, rfl, hv2, hv⟩ := hv.cons_inv
  obtain rfl := hv.nil_inv
  obtain ⟨rfl, hs⟩ := str_inv hv1
  obtain ⟨rfl, -⟩ := str_inv hv2
  refine (Any.strings_Trim_laid Tryz.lays160 (by kernel_rfl) ⟨⟨s⟩⟩ ⟨⟨cs⟩⟩ w (by have : (⟨⟨s⟩⟩ : ByteArray).size = s.length := rfl; unfold TOP at hs; omega) (Nat.lt_of_le_of_lt h1 (by decide)) (ascii_of_all h2)).mono ?_
  rintro e w' ⟨rfl, hbel⟩
  exact ⟨_, rfl, hbel, fun g' => .str _ (Nat.lt_of_le_of_lt (trimS_le s cs) hs)⟩
theorem index_one (c : UInt8) : ∀ s : List UInt8, Lib.index s [c] = if c ∈ s then ((s.idxOf c : Nat) : Int) else -1
  | [] => by simp [Lib.index]
  | b :: l => by
    have ih := index_one c l
    by_cases hb : b = c
    · subst hb
      simp [Lib.index, List.isPrefixOf]
    · have hb' : ¬ c = b := fun h => hb h.symm
      have h1 : List.isPrefixOf [c] (b :: l) = false := by simp [List.isPrefixOf, hb']
      rw [Lib.index, h1, ih]
      by_cases hm : c ∈ l
      · have : ¬ (((l.idxOf c : Nat) : Int) == -1) = true := by simp
        have hbb : (b == c) = false := by simpa using hb
        simp [hm, hb, hb', hbb, List.idxOf_cons]
      · simp [hm, hb, hb']
theorem replace_one (c : UInt8) (s : List UInt8) : Lib.replace s [c] [] 1 = s.erase c := by
  have hne : (([c] : List UInt8) == []) = false := rfl
  unfold Lib.replace
  rw [hne]
  by_cases h : c ∈ s
  · have hi : Lib.index s [c] = ((s.idxOf c : Nat) : Int) := by rw [index_one, if_pos h]
    have hc := Lib.count_hit (sub := [c]) (by simp) hi
    have hn : Lib.replaceNum s [c] 1 = 1 := by
      unfold Lib.replaceNum
      rw [if_neg (by omega)]
      rfl
    rw [if_neg (by decide), hn, Lib.replaceK_hit _ _ 0 _ _ hi, List.erase_eq_eraseIdx_of_idxOf (l := s) (a := c) rfl, List.eraseIdx_eq_take_drop_succ]
    simp [Lib.replaceK]
  · have hi : Lib.index s [c] = -1 := by rw [index_one, if_neg h]
    have hn : Lib.replaceNum s [c] 1 = 0 := by
      unfold Lib.replaceNum
      rw [Lib.count_miss hi]
      rfl
    rw [if_neg (by decide), hn, List.erase_of_not_mem h]
    rfl
noncomputable def SRpl : Cx.Spec := fun args hp => match args with
  | [AV.str s, AV.str [c], AV.str [], AV.int .i64 n] => .c (decide (s.length < 4294967281)) (.c (decide (n = 1)) (.r (.str (s.erase c), hp, .pure)) .bad) .bad
  | _ => .bad
theorem SRpl_inv {args : List AV} {hp : List Ob} {r : AV} {hp' : List Ob} {k : Cls} (h : (SRpl args hp).val = some (r, hp', k)) :
    ∃ (s : List UInt8) (c : UInt8), args = [.str s, .str [c], .str [], .int .i64 1] ∧ s.length < 4294967281 ∧ r = .str (s.erase c) ∧ hp' = hp ∧ k = .pure := by
  unfold SRpl at h
  split at h
  · rename_i s c n
    obtain ⟨h1, h⟩ := val_if_bad h
    obtain ⟨h2, h⟩ := val_if_bad h
    have h4 := val_ret h
    simp only [Prod.mk.injEq, decide_eq_true_eq] at h1 h2 h4
    obtain ⟨rfl, rfl, rfl⟩ := h4
    subst h2
    exact ⟨s, c, rfl, h1, rfl, rfl, rfl⟩
  · cases h
theorem SRpl_val (s : List UInt8) (c : UInt8) (h : s.length < 4294967281) (hp : List Ob) : (SRpl [.str s, .str [c], .str [], .int .i64 1] hp).val = some (.str (s.erase c), hp, .pure) := by
  have h2 : decide ((1 : Int) = 1) = true := rfl
  simp only [SRpl, val_if, h, h2, decide_true, cond_true]
  rfl
theorem SRpl_flat : Flat SRpl := ⟨fun args hp r hp' k e => by
  obtain ⟨s, c, rfl, h, rfl, rfl, rfl⟩ := SRpl_inv e
  exact ⟨rfl, rfl, fun hq => SRpl_val s c h hq⟩⟩
theorem SRpl_ok : Sound Tryz.prog 28 SRpl := by
  refine sound_new Tryz.func28 (c := Tryz.f28.body.getD .skip) (by kernel_rfl) (by kernel_rfl) SRpl_flat ?_
  intro args hp r hp' k h g w vs hL hv
  obtain ⟨s, c, rfl, h1, rfl, -, -⟩ := SRpl_inv h
  obtain ⟨v1, vs, rfl, hv1, hv⟩ := hv.cons_inv
  obtain ⟨v2, vs, rfl, hv2, hv⟩ := hv.cons_inv
  obtain ⟨v3, vs, rfl, hv3, hv⟩ := hv.cons_inv
  obtain ⟨v4, vs, rfl, hv4, hv⟩ := hv.cons_inv
  obtain rfl := hv.nil_inv
  obtain ⟨rfl, hs⟩ := str_inv hv1
  obtain ⟨rfl, -⟩ := str_inv hv2
  obtain ⟨rfl, -⟩ := str_inv hv3
  obtain rfl := int_inv hv4
  obtain ⟨m, hm⟩ := hL.2.1 0 (by kernel_rfl)
  have z1 : (⟨⟨([] : List UInt8)⟩⟩ : ByteArray).size = 0 := rfl
  have z2 : (⟨⟨s⟩⟩ : ByteArray).size = s.length := rfl
  refine (Tryz.strings_Replace ⟨⟨s⟩⟩ ⟨⟨[c]⟩⟩ ⟨⟨[]⟩⟩ 1 m w h1 hm (Nat.le_refl 1) (by rw [z1, z2]; omega)).mono ?_
  rintro e w' ⟨rfl, hbel⟩
  have er : Lib.replace s [c] [] 1 = s.erase c := replace_one c s
  refine ⟨_, rfl, hbel, fun g' => ?_⟩
  rw [show (⟨⟨s⟩⟩ : ByteArray).data.toList = s from rfl, show (⟨⟨[c]⟩⟩ : ByteArray).data.toList = [c] from rfl, show (⟨⟨([] : List UInt8)⟩⟩ : ByteArray).data.toList = [] from rfl, er]
  exact .str _ (Nat.lt_of_le_of_lt (by rw [List.length_erase]; split <;> omega) hs)
end Go.Proofs.YtcnalhganahiiaaGreatDoor
