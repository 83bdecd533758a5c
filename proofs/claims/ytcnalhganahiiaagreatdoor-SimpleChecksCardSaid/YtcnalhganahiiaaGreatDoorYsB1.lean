/- Summaries written by hand: the library's numerals, copies, signs. -/
import Derived.Test.YtcnalhganahiiaaGreatDoorCxAv
import Derived.Test.YtcnalhganahiiaaGreatDoorYsW
import Derived.Test.YtcnalhganahiiaaGreatDoorChecked
import Derived.Lib.AppendIntMem
namespace Go.Proofs.YtcnalhganahiiaaGreatDoor
open Go.Cx Go.Cx.AV Go.RowKit
set_option linter.unusedSimpArgs false
set_option linter.unusedVariables false
theorem mixed : Tryz.prog.follows .mixedOrders = true := by kernel_rfl
def F28 : List AV → Option AV
  | [.str s, .int .u8 c] => some (.int .i64 (Lib.indexByte s c.toNat.toUInt8))
  | _ => none
def S28 : Cx.Spec := flatS F28
theorem S28_ok : Sound Tryz.prog 87 S28 := by
  refine sound_contract Tryz.func87 (c := Tryz.f87.body.getD .skip) (by kernel_rfl) (by kernel_rfl) ?_
  intro args r h g w vs hv
  unfold F28 at h
  split at h
  · simp only [Option.some.injEq] at h
    subst h
    obtain ⟨v1, vs, rfl, h1, hv⟩ := hv.cons_inv
    obtain ⟨v2, vs, rfl, h2, hv⟩ := hv.cons_inv
    obtain rfl := hv.nil_inv
    obtain ⟨rfl, -⟩ := str_inv h1
    obtain rfl := int_inv h2
    refine (Tryz.strings_IndexByte _ _ _).mono ?_
    rintro e w' ⟨rfl, rfl⟩
    exact ⟨_, rfl, rfl, .int _ _⟩
  · simp at h
noncomputable def SFmt : Cx.Spec := fun args hp => match args with
  | [AV.int .u64 v, AV.int .i64 b] => .c (decide (0 ≤ v)) (.c (decide (v < 18446744073709551616)) (.c (decide (b = 10)) (.r (.str (Lib.decDigits v.toNat), hp, .pure)) .bad) .bad) .bad
  | _ => .bad
theorem SFmt_inv {args : List AV} {hp : List Ob} {r : AV} {hp' : List Ob} {c : Cls} (h : (SFmt args hp).val = some (r, hp', c)) :
    ∃ v : Nat, args = [.int .u64 (v : Int), .int .i64 10] ∧ v < 18446744073709551616 ∧ r = .str (Lib.decDigits v) ∧ hp' = hp ∧ c = .pure := by
  unfold SFmt at h
  split at h
  · rename_i v b
    obtain ⟨h1, h⟩ := val_if_bad h
    obtain ⟨h2, h⟩ := val_if_bad h
    obtain ⟨h3, h⟩ := val_if_bad h
    have h4 := val_ret h
    simp only [Prod.mk.injEq, decide_eq_true_eq] at h1 h2 h3 h4
    obtain ⟨rfl, rfl, rfl⟩ := h4
    obtain ⟨n, rfl⟩ : ∃ n : Nat, v = n := ⟨v.toNat, by omega⟩
    subst h3
    exact ⟨n, rfl, by omega, by simp, rfl, rfl⟩
  · cases h
theorem SFmt_val (v : Nat) (h : v < 18446744073709551616) (hp : List Ob) : (SFmt [.int .u64 (v : Int), .int .i64 10] hp).val = some (.str (Lib.decDigits v), hp, .pure) := by
  have h1 : decide ((0 : Int) ≤ (v : Int)) = true := by simp
  have h2 : decide ((v : Int) < 18446744073709551616) = true := by simp; omega
  simp only [SFmt, val_if, h1, h2, cond_true, Int.toNat_natCast]
  rfl
theorem SFmt_flat : Flat SFmt := ⟨fun args hp r hp' c h => by
  obtain ⟨v, rfl, hv, rfl, rfl, rfl⟩ := SFmt_inv h
  exact ⟨rfl, rfl, fun h2 => SFmt_val v hv h2⟩⟩
theorem SFmt_ok : Sound Tryz.prog 54 SFmt := by
  refine sound_new Tryz.func54 (c := Tryz.f54.body.getD .skip) (by kernel_rfl) (by kernel_rfl) SFmt_flat ?_
  intro args hp r hp' c h g w vs hL hv
  obtain ⟨v, rfl, hv64, rfl, -, -⟩ := SFmt_inv h
  obtain ⟨v1, vs, rfl, h1, hv⟩ := hv.cons_inv
  obtain ⟨v2, vs, rfl, h2, hv⟩ := hv.cons_inv
  obtain rfl := hv.nil_inv
  obtain rfl := int_inv h1
  obtain rfl := int_inv h2
  refine (fmt23 v hv64 w (hL.1 3 (by kernel_rfl))).mono ?_
  rintro e w' ⟨rfl, k, os, rfl⟩
  exact ⟨_, rfl, Lib.below_grow _ w (Nat.le_refl _) k os, fun g' => .str _ (by
    rw [Lib.decDigits_length]
    by_cases h0 : v = 0
    · subst h0; rw [Lib.nDigits_small (by decide)]; decide
    · have := Lib.numDigits_eq v (by omega) hv64
      unfold TOP; split at this <;> omega)⟩
noncomputable def SRep : Cx.Spec := fun args hp => match args with
  | [AV.str s, AV.int .i64 n] => .c (decide (0 ≤ n)) (.c (decide (n ≤ 1000000000)) (.c (decide (s.length ≤ 1000)) (.r (.str (Lib.repeatL s n.toNat), hp, .pure)) .bad) .bad) .bad
  | _ => .bad
theorem SRep_inv {args : List AV} {hp : List Ob} {r : AV} {hp' : List Ob} {c : Cls} (h : (SRep args hp).val = some (r, hp', c)) :
    ∃ (s : List UInt8) (n : Nat), args = [.str s, .int .i64 (n : Int)] ∧ n ≤ 1000000000 ∧ s.length ≤ 1000 ∧ r = .str (Lib.repeatL s n) ∧ hp' = hp ∧ c = .pure := by
  unfold SRep at h
  split at h
  · rename_i s v
    obtain ⟨h1, h⟩ := val_if_bad h
    obtain ⟨h2, h⟩ := val_if_bad h
    obtain ⟨h3, h⟩ := val_if_bad h
    have h4 := val_ret h
    simp only [Prod.mk.injEq, decide_eq_true_eq] at h1 h2 h3 h4
    obtain ⟨rfl, rfl, rfl⟩ := h4
    obtain ⟨n, rfl⟩ : ∃ n : Nat, v = n := ⟨v.toNat, by omega⟩
    exact ⟨s, n, rfl, by omega, h3, by simp, rfl, rfl⟩
  · cases h
theorem SRep_val (s : List UInt8) (n : Nat) (h : n ≤ 1000000000) (hs : s.length ≤ 1000) (hp : List Ob) : (SRep [.str s, .int .i64 (n : Int)] hp).val = some (.str (Lib.repeatL s n), hp, .pure) := by
  have h1 : decide ((0 : Int) ≤ (n : Int)) = true := by simp
  have h2 : decide ((n : Int) ≤ 1000000000) = true := by simp; omega
  simp only [SRep, val_if, h1, h2, hs, decide_true, cond_true, Int.toNat_natCast]
  rfl
theorem SRep_flat : Flat SRep := ⟨fun args hp r hp' c h => by
  obtain ⟨s, n, rfl, hn, hs, rfl, rfl, rfl⟩ := SRep_inv h
  exact ⟨rfl, rfl, fun h2 => SRep_val s n hn hs h2⟩⟩
theorem SRep_ok : Sound Tryz.prog 55 SRep := by
  refine sound_new Tryz.func55 (c := Tryz.f55.body.getD .skip) (by kernel_rfl) (by kernel_rfl) SRep_flat ?_
  intro args hp r hp' c h g w vs hL hv
  obtain ⟨s, n, rfl, hn, hs, rfl, -, -⟩ := SRep_inv h
  obtain ⟨v1, vs, rfl, h1, hv⟩ := hv.cons_inv
  obtain ⟨v2, vs, rfl, h2, hv⟩ := hv.cons_inv
  obtain rfl := hv.nil_inv
  obtain ⟨rfl, -⟩ := str_inv h1
  obtain rfl := int_inv h2
  have hsz : (⟨⟨s⟩⟩ : ByteArray).size = s.length := rfl
  have hb : s.length * n ≤ 1000 * 1000000000 := Nat.mul_le_mul hs hn
  refine (Tryz.strings_Repeat ⟨⟨s⟩⟩ n w (by omega) (by rw [hsz]; omega)).mono ?_
  rintro e w' ⟨rfl, hbel⟩
  exact ⟨_, rfl, hbel, fun g' => .str _ (by rw [Lib.repeatL_length, Nat.mul_comm]; unfold TOP; omega)⟩
noncomputable def SDig (n : Nat) : Cx.Spec := fun args hp => match args with
  | [AV.int .u64 v] => .c (decide (0 ≤ v)) (.c (decide (v < (n : Int))) (.r (.str (Lib.decDigits v.toNat), hp, .pure)) .bad) .bad
  | _ => .bad
theorem SDig_inv {n : Nat} {args : List AV} {hp : List Ob} {r : AV} {hp' : List Ob} {c : Cls} (h : (SDig n args hp).val = some (r, hp', c)) :
    ∃ v : Nat, args = [.int .u64 (v : Int)] ∧ v < n ∧ r = .str (Lib.decDigits v) ∧ hp' = hp ∧ c = .pure := by
  unfold SDig at h
  split at h
  · rename_i v
    obtain ⟨h1, h⟩ := val_if_bad h
    obtain ⟨h2, h⟩ := val_if_bad h
    have h4 := val_ret h
    simp only [Prod.mk.injEq, decide_eq_true_eq] at h1 h2 h4
    obtain ⟨rfl, rfl, rfl⟩ := h4
    obtain ⟨k, rfl⟩ : ∃ k : Nat, v = k := ⟨v.toNat, by omega⟩
    exact ⟨k, rfl, by omega, by simp, rfl, rfl⟩
  · cases h
theorem SDig_val {n : Nat} (v : Nat) (h : v < n) (hp : List Ob) : (SDig n [.int .u64 (v : Int)] hp).val = some (.str (Lib.decDigits v), hp, .pure) := by
  have h1 : decide ((0 : Int) ≤ (v : Int)) = true := by simp
  have h2 : decide ((v : Int) < (n : Int)) = true := by simp; omega
  simp only [SDig, val_if, h1, h2, cond_true, Int.toNat_natCast]
  rfl
theorem SDig_flat (n : Nat) : Flat (SDig n) := ⟨fun args hp r hp' c h => by
  obtain ⟨v, rfl, hv, rfl, rfl, rfl⟩ := SDig_inv h
  exact ⟨rfl, rfl, fun h2 => SDig_val v hv h2⟩⟩
noncomputable def TDt (n : Nat) : FuncId → Option Cx.Spec := addT (fun _ => none) 23 (SDig n)
noncomputable def EDig (n : Nat) : En := enK Tryz.prog (TDt n) [] [] [] [] 0
noncomputable def TrDig (n : Nat) (x0 : Int) : Tr (List UInt8) := (.c (Decidable.decide (x0 < (10 : Int))) (.r ([toB (AV.int .u8 (IntKind.wrap .u8 (IntKind.wrap .u64 ((48 : Int) + x0))))])) (.c (Decidable.decide ((0 : Int) ≤ IntKind.wrap .u64 (Int.tdiv x0 (10 : Int)))) (.c (Decidable.decide (IntKind.wrap .u64 (Int.tdiv x0 (10 : Int)) < (n : Int))) (.c (Decidable.decide (List.length (Lib.decDigits (Int.toNat (IntKind.wrap .u64 (Int.tdiv x0 (10 : Int))))) + (1 : Nat) < (70368744177664 : Nat))) (.r (Lib.decDigits (Int.toNat (IntKind.wrap .u64 (Int.tdiv x0 (10 : Int)))) ++ [toB (AV.int .u8 (IntKind.wrap .u8 (IntKind.wrap .u64 ((48 : Int) + Int.tmod x0 (10 : Int)))))])) .bad) .bad) .bad))
set_option maxRecDepth 100000 in
theorem c_Dig (n : Nat) (ls : List AV) (Rv : List UInt8 → Prop) : callA (EDig n) Tryz.f23 (instL ls [.leaf (.int .u64)] 0) [] (outP (.leaf .str) fun ls => Rv (getS (ls.getD 0 .junk))) = (TrDig n (getI (ls.getD 0 .junk))).fold False Rv := by kernel_rfl
noncomputable def SDn (n : Nat) : Cx.Spec := pureS (patF [.leaf (.int .u64)] fun ls => opt ((TrDig n (getI (ls.getD 0 .junk))).val) fun x => .r (.str x))
set_option maxRecDepth 100000 in
theorem SDn_ok (n : Nat) (h : Sound Tryz.prog 23 (SDig n)) : Sound Tryz.prog 23 (SDn n) :=
  pure_flat (E := EDig n) (TblOK.enK ((TblOK.none _).add h) _ _ _ _ _) mixed rfl Tryz.func23 (c := Tryz.f23.body.getD .skip) (by kernel_rfl) (by kernel_rfl) (pats := [.leaf (.int .u64)]) (O := .leaf .str) (tup := fun ls => getS (ls.getD 0 .junk)) (res := fun x => .str x) (g := fun ls => (TrDig n (getI (ls.getD 0 .junk))).val) (T := fun ls => TrDig n (getI (ls.getD 0 .junk))) (fun _ => rfl) (fun ls => by kernel_rfl) (c_Dig n)
theorem nDigits_le (v : Nat) (h : v < 18446744073709551616) : (Lib.decDigits v).length ≤ 20 := by
  rw [Lib.decDigits_length]
  by_cases h0 : v = 0
  · subst h0; rw [Lib.nDigits_small (by decide)]; decide
  · have := Lib.numDigits_eq v (by omega) h
    split at this <;> omega
theorem TrDig_val (n v : Nat) (hn : n < 18446744073709551616) (h : v < n + 1) : (TrDig n (v : Int)).val = some (Lib.decDigits v) := by
  have u64w : ∀ {x : Int}, 0 ≤ x → x < 18446744073709551616 → IntKind.u64.wrap x = x := fun h0 h => by simp [IntKind.wrap, IntKind.signed, IntKind.bits]; omega
  have u8w : ∀ {x : Int}, 0 ≤ x → x < 256 → IntKind.u8.wrap x = x := fun h0 h => by simp [IntKind.wrap, IntKind.signed, IntKind.bits]; omega
  unfold TrDig
  rw [Lib.decDigits.eq_def v]
  by_cases h10 : v < 10
  · rw [dif_pos h10]
    have d1 : decide ((v : Int) < 10) = true := by simp; omega
    rw [u64w (by omega) (by omega), u8w (by omega) (by omega), val_if, d1]
    have e : toB (AV.int .u8 ((48 : Int) + (v : Int))) = UInt8.ofNat (48 + v) := by
      show UInt8.ofNat ((48 : Int) + (v : Int)).toNat = _
      congr 1
    rw [e]; rfl
  · rw [dif_neg h10]
    have d1 : decide ((v : Int) < 10) = false := by simp; omega
    have q : Int.tdiv (v : Int) 10 = ((v / 10 : Nat) : Int) := by rw [Int.tdiv_eq_ediv_of_nonneg (by omega)]; omega
    have m : Int.tmod (v : Int) 10 = ((v % 10 : Nat) : Int) := by rw [Int.tmod_eq_emod_of_nonneg (by omega)]; omega
    have d2 : decide ((0 : Int) ≤ ((v / 10 : Nat) : Int)) = true := by simp; omega
    have d3 : decide (((v / 10 : Nat) : Int) < (n : Int)) = true := by simp only [decide_eq_true_eq]; omega
    have d4 : decide ((Lib.decDigits (v / 10)).length + 1 < 70368744177664) = true := by have := nDigits_le (v / 10) (by omega); simp only [decide_eq_true_eq]; omega
    have e : toB (AV.int .u8 ((48 : Int) + ((v % 10 : Nat) : Int))) = UInt8.ofNat (48 + v % 10) := by
      show UInt8.ofNat ((48 : Int) + ((v % 10 : Nat) : Int)).toNat = _
      congr 1
    have w1 : IntKind.u64.wrap (((v / 10 : Nat) : Int)) = ((v / 10 : Nat) : Int) := u64w (by omega) (by omega)
    have w2 : IntKind.u64.wrap ((48 : Int) + ((v % 10 : Nat) : Int)) = (48 : Int) + ((v % 10 : Nat) : Int) := u64w (by omega) (by omega)
    have w3 : IntKind.u8.wrap ((48 : Int) + ((v % 10 : Nat) : Int)) = (48 : Int) + ((v % 10 : Nat) : Int) := u8w (by omega) (by omega)
    rw [q, m, w1, w2, w3, e]
    simp only [val_if, d1, d2, d3, Int.toNat_natCast, d4, cond_true, cond_false]
    rfl
theorem SDn_val (n v : Nat) (hn : n < 18446744073709551616) (h : v < n + 1) (hp : List Ob) : (SDn n [.int .u64 (v : Int)] hp).val = some (.str (Lib.decDigits v), hp, .pure) := by
  have e : SDn n [.int .u64 (v : Int)] hp = (opt ((TrDig n (v : Int)).val) fun x => Tr.r (AV.str x)).map fun r => (r, hp, Cls.pure) := rfl
  rw [e, TrDig_val n v hn h]
  rfl
theorem SDig_ok : ∀ n : Nat, n ≤ 18446744073709551616 → Sound Tryz.prog 23 (SDig n)
  | 0, _ => Sound.never Tryz.func23 (c := Tryz.f23.body.getD .skip) (by kernel_rfl) (by kernel_rfl) fun args hp => by
    cases h : (SDig 0 args hp).val with
    | none => rfl
    | some x => obtain ⟨r, hp', c⟩ := x; obtain ⟨v, -, hv, -⟩ := SDig_inv h; omega
  | n + 1, h => (SDn_ok n (SDig_ok n (by omega))).weaker (SDig_flat (n + 1)) fun args hp r hp' c e => by
    obtain ⟨v, rfl, hv, rfl, rfl, rfl⟩ := SDig_inv e
    exact SDn_val n v (by omega) hv hp'
noncomputable def SDg : Cx.Spec := SDig 18446744073709551616
theorem SDg_ok : Sound Tryz.prog 23 SDg := SDig_ok _ (Nat.le_refl _)
end Go.Proofs.YtcnalhganahiiaaGreatDoor
