/- Summaries written by hand: runes: utf8.ValidString, utf8.RuneCountInString, strings.IndexFunc of text.may; strings.HasPrefix, HasSuffix. -/
import Derived.Test.YtcnalhganahiiaaGreatDoorYsB3
import Derived.WalkKit
namespace Go.Proofs.YtcnalhganahiiaaGreatDoor
open Go.Cx Go.Cx.AV Go.RowKit
set_option linter.unusedSimpArgs false
set_option linter.unusedVariables false
noncomputable def S1 (f : List UInt8 → AV) : Cx.Spec := fun args hp => match args with
  | [AV.str s] => .r (f s, hp, .pure)
  | _ => .bad
theorem S1_inv {f : List UInt8 → AV} {args : List AV} {hp : List Ob} {r : AV} {hp' : List Ob} {c : Cls} (h : (S1 f args hp).val = some (r, hp', c)) :
    ∃ s : List UInt8, args = [.str s] ∧ r = f s ∧ hp' = hp ∧ c = .pure := by
  unfold S1 at h
  split at h
  · rename_i s
    have h4 := val_ret h
    simp only [Prod.mk.injEq] at h4
    obtain ⟨rfl, rfl, rfl⟩ := h4
    exact ⟨s, rfl, rfl, rfl, rfl⟩
  · cases h
theorem S1_flat (f : List UInt8 → AV) : Flat (S1 f) := ⟨fun args hp r hp' c h => by
  obtain ⟨s, rfl, rfl, rfl, rfl⟩ := S1_inv h
  exact ⟨rfl, rfl, fun hq => rfl⟩⟩
noncomputable def SVal : Cx.Spec := S1 fun s => .bool (Lib.validD s)
theorem SVal_ok : Sound Tryz.prog 135 SVal := by
  refine sound_new Tryz.func135 (c := Tryz.f135.body.getD .skip) (by kernel_rfl) (by kernel_rfl) (S1_flat _) ?_
  intro args hp r hp' c h g w vs hL hv
  obtain ⟨s, rfl, rfl, -, -⟩ := S1_inv h
  obtain ⟨v1, vs, rfl, hv1, hv⟩ := hv.cons_inv
  obtain rfl := hv.nil_inv
  obtain ⟨rfl, hs⟩ := str_inv hv1
  refine (Tryz.utf8_ValidString ⟨⟨s⟩⟩ w (by have : (⟨⟨s⟩⟩ : ByteArray).size = s.length := rfl; unfold TOP at hs; omega) (hL.2.2 1 2 (by kernel_rfl) (by kernel_rfl))).mono ?_
  rintro e w' ⟨rfl, hbel⟩
  exact ⟨_, rfl, hbel, fun g' => .bool _⟩
noncomputable def SRun : Cx.Spec := fun args hp => match args with
  | [AV.str s] => .c (decide (s.length < 70368744177664)) (.r (.int .i64 (Lib.runeCountL s : Int), hp, .pure)) .bad
  | _ => .bad
theorem SRun_inv {args : List AV} {hp : List Ob} {r : AV} {hp' : List Ob} {c : Cls} (h : (SRun args hp).val = some (r, hp', c)) :
    ∃ s : List UInt8, args = [.str s] ∧ s.length < 70368744177664 ∧ r = .int .i64 (Lib.runeCountL s : Int) ∧ hp' = hp ∧ c = .pure := by
  unfold SRun at h
  split at h
  · rename_i s
    obtain ⟨h1, h⟩ := val_if_bad h
    have h4 := val_ret h
    simp only [Prod.mk.injEq, decide_eq_true_eq] at h1 h4
    obtain ⟨rfl, rfl, rfl⟩ := h4
    exact ⟨s, rfl, h1, rfl, rfl, rfl⟩
  · cases h
theorem SRun_val (s : List UInt8) (h : s.length < 70368744177664) (hp : List Ob) : (SRun [.str s] hp).val = some (.int .i64 (Lib.runeCountL s : Int), hp, .pure) := by
  simp only [SRun, val_if, h, decide_true, cond_true]
  rfl
theorem SRun_flat : Flat SRun := ⟨fun args hp r hp' c h => by
  obtain ⟨s, rfl, h1, rfl, rfl, rfl⟩ := SRun_inv h
  exact ⟨rfl, rfl, fun hq => SRun_val s h1 hq⟩⟩
theorem SRun_ok : Sound Tryz.prog 75 SRun := by
  refine sound_new Tryz.func75 (c := Tryz.f75.body.getD .skip) (by kernel_rfl) (by kernel_rfl) SRun_flat ?_
  intro args hp r hp' c h g w vs hL hv
  obtain ⟨s, rfl, h1, rfl, -, -⟩ := SRun_inv h
  obtain ⟨v1, vs, rfl, hv1, hv⟩ := hv.cons_inv
  obtain rfl := hv.nil_inv
  obtain ⟨rfl, hs⟩ := str_inv hv1
  have hz : (⟨⟨s⟩⟩ : ByteArray).size < 9223372036854775807 := by show s.length < _; omega
  refine (Tryz.utf8_RuneCountInString ⟨⟨s⟩⟩ w hz).mono ?_
  rintro e w' ⟨rfl, pos, rfl⟩
  exact ⟨_, rfl, ((Below.refl _ _).alloc (Nat.le_refl _) _), fun g' => .int _ _⟩
def FPre : List AV → Option AV
  | [.str s, .str p] => some (.bool (Lib.hasPrefix s p))
  | _ => none
def SPre : Cx.Spec := flatS FPre
theorem SPre_ok : Sound Tryz.prog 83 SPre := by
  refine sound_contract Tryz.func83 (c := Tryz.f83.body.getD .skip) (by kernel_rfl) (by kernel_rfl) ?_
  intro args r h g w vs hv
  unfold FPre at h
  split at h
  · simp only [Option.some.injEq] at h
    subst h
    obtain ⟨v1, vs, rfl, h1, hv⟩ := hv.cons_inv
    obtain ⟨v2, vs, rfl, h2, hv⟩ := hv.cons_inv
    obtain rfl := hv.nil_inv
    obtain ⟨rfl, -⟩ := str_inv h1
    obtain ⟨rfl, -⟩ := str_inv h2
    refine (Tryz.strings_HasPrefix _ _ _).mono ?_
    rintro e w' ⟨rfl, rfl⟩
    exact ⟨_, rfl, rfl, .bool _⟩
  · simp at h
def FSuf : List AV → Option AV
  | [.str s, .str p] => some (.bool (Lib.hasSuffix s p))
  | _ => none
def SSuf : Cx.Spec := flatS FSuf
theorem SSuf_ok : Sound Tryz.prog 117 SSuf := by
  refine sound_contract Tryz.func117 (c := Tryz.f117.body.getD .skip) (by kernel_rfl) (by kernel_rfl) ?_
  intro args r h g w vs hv
  unfold FSuf at h
  split at h
  · rename_i s p
    simp only [Option.some.injEq] at h
    subst h
    obtain ⟨v1, vs, rfl, h1, hv⟩ := hv.cons_inv
    obtain ⟨v2, vs, rfl, h2, hv⟩ := hv.cons_inv
    obtain rfl := hv.nil_inv
    obtain ⟨rfl, hs⟩ := str_inv h1
    obtain ⟨rfl, -⟩ := str_inv h2
    refine (Tryz.strings_HasSuffix _ _ _ (by have : (⟨⟨s⟩⟩ : ByteArray).size = s.length := rfl; unfold TOP at hs; omega)).mono ?_
    rintro e w' ⟨rfl, rfl⟩
    exact ⟨_, rfl, rfl, .bool _⟩
  · simp at h
def mayB (x : Nat) : Bool := x == 9 || x == 10 || x == 13 || (decide (32 ≤ x) && x != 65534 && x != 65535)
theorem may_walk (x : Nat) (hx : x ≤ 1114111) (W : World) : Calls Tryz.prog 138 #[.int .i32 x] W fun e w' => e = .returned (.bool (mayB x)) ∧ w' = W := by
  have e9 : ((x : Int) == 9) = (x == 9) := by rw [Bool.eq_iff_iff]; simp; omega
  have e10 : ((x : Int) == 10) = (x == 10) := by rw [Bool.eq_iff_iff]; simp; omega
  have e13 : ((x : Int) == 13) = (x == 13) := by rw [Bool.eq_iff_iff]; simp; omega
  by_cases h9 : x = 9
  · subst h9
    go_enter Tryz.func138, Tryz.ntmps138
    go_wp2
    go_ret
    exact ⟨rfl, rfl⟩
  by_cases h10 : x = 10
  · subst h10
    go_enter Tryz.func138, Tryz.ntmps138
    go_wp2
    go_ret
    exact ⟨rfl, rfl⟩
  by_cases h13 : x = 13
  · subst h13
    go_enter Tryz.func138, Tryz.ntmps138
    go_wp2
    go_ret
    exact ⟨rfl, rfl⟩
  have i9 : ¬ (x : Int) = 9 := by omega
  have i10 : ¬ (x : Int) = 10 := by omega
  have i13 : ¬ (x : Int) = 13 := by omega
  by_cases h32 : 32 ≤ x
  · have i32 : (32 : Int) ≤ (x : Int) := by omega
    by_cases h4 : x = 65534
    · subst h4
      go_enter Tryz.func138, Tryz.ntmps138
      go_wp2
      go_ret
      exact ⟨rfl, rfl⟩
    · have i4 : ¬ (x : Int) = 65534 := by omega
      by_cases h5 : x = 65535
      · subst h5
        go_enter Tryz.func138, Tryz.ntmps138
        go_wp2
        go_ret
        exact ⟨rfl, rfl⟩
      · have i5 : ¬ (x : Int) = 65535 := by omega
        have m : mayB x = true := by simp [mayB, h32, h4, h5]
        rw [m]
        go_enter Tryz.func138, Tryz.ntmps138
        go_wp2
        go_ret
        exact ⟨congrArg (fun b => Ending.returned (Value.bool b)) (show (x == 9 || x == 10 || x == 13 || (x : Int) != 65534 && (x : Int) != 65535) = true by simp [bne_iff_ne.2 i4, bne_iff_ne.2 i5]), rfl⟩
  · have i32 : ¬ (32 : Int) ≤ (x : Int) := by omega
    have m : mayB x = false := by simp [mayB, h32, h9, h10, h13]
    rw [m]
    go_enter Tryz.func138, Tryz.ntmps138
    go_wp2
    go_ret
    exact ⟨congrArg (fun b => Ending.returned (Value.bool b)) (show (x == 9 || x == 10 || x == 13) = false by simp [h9, h10, h13]), rfl⟩
theorem not_walk (x : Nat) (hx : x ≤ 1114111) (W : World) : Calls Tryz.prog 137 #[.int .i32 x] W fun e w' => e = .returned (.bool (!mayB x)) ∧ w' = W := by
  have c := may_walk x hx W
  generalize mayB x = b at c ⊢
  go_enter Tryz.func137, Tryz.ntmps137
  go_wp2_with (go_at_call 138; refine c.mono ?_; rintro e w' ⟨rfl, rfl⟩)
  go_ret
  exact ⟨rfl, rfl⟩
noncomputable def SIdx : Cx.Spec := fun args hp => match args with
  | [AV.str s, AV.func f [] []] => .c (decide (f = 137)) (.r (.int .i64 (Lib.idxFunc (fun x => !mayB x) true ⟨⟨s⟩⟩), hp, .pure)) .bad
  | _ => .bad
theorem SIdx_inv {args : List AV} {hp : List Ob} {r : AV} {hp' : List Ob} {c : Cls} (h : (SIdx args hp).val = some (r, hp', c)) :
    ∃ s : List UInt8, args = [.str s, .func 137 [] []] ∧ r = .int .i64 (Lib.idxFunc (fun x => !mayB x) true ⟨⟨s⟩⟩) ∧ hp' = hp ∧ c = .pure := by
  unfold SIdx at h
  split at h
  · rename_i s f
    obtain ⟨h1, h⟩ := val_if_bad h
    have h4 := val_ret h
    simp only [Prod.mk.injEq, decide_eq_true_eq] at h1 h4
    obtain ⟨rfl, rfl, rfl⟩ := h4
    subst h1
    exact ⟨s, rfl, rfl, rfl, rfl⟩
  · cases h
theorem SIdx_flat : Flat SIdx := ⟨fun args hp r hp' c h => by
  obtain ⟨s, rfl, rfl, rfl, rfl⟩ := SIdx_inv h
  exact ⟨rfl, rfl, fun hq => rfl⟩⟩
theorem func_nil_inv {g : Gh} {f : FuncId} {v : Value} (h : V g (.func f [] []) v) : v = .func (.func f) #[] #[] := by
  cases h with
  | func f pre post vs ws h1 _ h2 _ =>
    obtain rfl := Array.eq_empty_of_size_eq_zero h1.symm
    obtain rfl := Array.eq_empty_of_size_eq_zero h2.symm
    rfl
theorem SIdx_ok : Sound Tryz.prog 136 SIdx := by
  refine sound_new Tryz.func136 (c := Tryz.f136.body.getD .skip) (by kernel_rfl) (by kernel_rfl) SIdx_flat ?_
  intro args hp r hp' c h g w vs hL hv
  obtain ⟨s, rfl, rfl, -, -⟩ := SIdx_inv h
  obtain ⟨v1, vs, rfl, hv1, hv⟩ := hv.cons_inv
  obtain ⟨v2, vs, rfl, hv2, hv⟩ := hv.cons_inv
  obtain rfl := hv.nil_inv
  obtain ⟨rfl, hs⟩ := str_inv hv1
  obtain rfl := func_nil_inv hv2
  refine (Tryz.strings_IndexFunc_grows 137 #[] (enters_of Tryz.func137 (by kernel_rfl) rfl) (fun x => !mayB x) ⟨⟨s⟩⟩ w (fun W x hx hb => (not_walk x hx W).mono ?_)).mono ?_
  · rintro e w' ⟨rfl, rfl⟩
    exact ⟨rfl, Below.refl _ _⟩
  · rintro e w' ⟨rfl, hbel⟩
    exact ⟨_, rfl, hbel, fun g' => .int _ _⟩
end Go.Proofs.YtcnalhganahiiaaGreatDoor
