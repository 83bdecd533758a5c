/- The law ElementKinds holds of the given program, with what its row lists tied to the program's text. No condition beyond the given statement. -/
import Derived.Test.YthapkffhmekmcaaDoorYeP6
import Derived.Test.YthapkffhmekmcaaDoorCxAm
import Derived.Test.YthapkffhmekmcaaDoorRows
import Derived.Test.YthapkffhmekmcaaDoorTie
import Derived.Test.YthapkffhmekmcaaDoorCards
import Derived.Lay
import Derived.LaidOnce
import Derived.SevenTiedAt
import Derived.Stop.LaidErr
import Derived.Lib.AppendIntMem
import Derived.WalkKit
import Derived.ProofKit
import Derived.OpenShut
import Derived.ShutString
import Derived.ChangeOld
import Derived.Below
namespace Go.Proofs.YthapkffhmekmcaaDoor.ElementKindsDone
open Go.Proofs.YthapkffhmekmcaaDoor
open Go.Cx Go.Cx.AV Go.ChangeShapes Go.WideShapes Go.ChangeAt Go.RowKit
set_option linter.unusedVariables false

theorem own : ownKnob Tryd.prog.godebug = none := by kernel_rfl
theorem laidOut : laidOutB Tryd.prog = true := by kernel_rfl

section
attribute [local irreducible] Tr.fold T_comptoirlaw16_ElementKinds E_comptoirlaw16_ElementKinds bodyK headC headL stepC stepL wpX callA M_comptoirlaw16_ElementKinds L_comptoirlaw16_ElementKinds b_comptoirlaw16_ElementKinds
set_option maxRecDepth 100000 in
theorem law (ls : List AV) (h : WfArgs Tryd.prog 8 Tryd.f6.params.toList ls) : callA E_comptoirlaw16_ElementKinds Tryd.f6 ls [] (fun r _ => r = .bool true) := by
  have hp : Tryd.f6.params.toList.map (shA Tryd.prog 8) = [.int .u8] := by kernel_rfl
  generalize hts : Tryd.f6.params.toList = ts at h hp
  match ts, ls, h, hp with
  | [t0], [a0], h, hp =>
    simp only [List.map_cons, List.map_nil, List.cons.injEq, and_true] at hp
    simp only [WfArgs, and_true] at h
    have p0 := hp
    have q0 := h
    rw [p0] at q0
    obtain ⟨n0, rfl, w0⟩ := q0
    have c : ∀ Rv : Bool → Prop, callA E_comptoirlaw16_ElementKinds Tryd.f6 [.int .u8 n0] [] (outP (.leaf .bool) fun ls => Rv (getB (ls.getD 0 .junk))) = (T_comptoirlaw16_ElementKinds n0).fold False (Sum.elim (L_comptoirlaw16_ElementKinds n0 Rv) Rv) := fun Rv => by kernel_rfl
    have g : g_comptoirlaw16_ElementKinds n0 = some true := by have h := lit_u8 w0; obtain ⟨k, rfl⟩ : ∃ k : UInt8, n0 = (k.toNat : Int) := ⟨UInt8.ofNat n0.toNat, by rw [UInt8.toNat_ofNat_of_lt' (by simp [UInt8.size]; omega)]; omega⟩; exact ekinds_eq k
    exact law_mach (step := M_comptoirlaw16_ElementKinds n0) (T := T_comptoirlaw16_ElementKinds n0) (L := L_comptoirlaw16_ElementKinds n0) c (fun Rv => h_comptoirlaw16_ElementKinds n0 Rv) g
end

noncomputable abbrev tabNo : Nat := (Tryd.prog.globalNamed "internal/strconv.uint64pow10").getD 0
noncomputable abbrev tabTy : TypeId := ((Tryd.prog.globals[tabNo]?).map (·.type)).getD 0
noncomputable abbrev tabEl : TypeId := match Tryd.prog.underlying tabTy with | some (.array _ e) => e | _ => 0
theorem tabAt : Tryd.prog.globalNamed "internal/strconv.uint64pow10" = some tabNo := by kernel_rfl
theorem tab {W : World} (h : laidMetH Tryd.prog Rows.elementKindsRow.laid W) : Lib.TabIs Tryd.prog W "internal/strconv.uint64pow10" .u64 Lib.pow10Tab := by
  rw [MakeChecks.laidMetH_plain _ _ _ (by kernel_rfl)] at h
  have hL : laidMet Tryd.prog Rows.elementKindsRow.laid W := h
  exact Lib.tabIs_of_head (n := 20) (t := tabTy) (e := tabEl) tabAt (by kernel_rfl) (by kernel_rfl) (by kernel_rfl) (by kernel_rfl) (by kernel_rfl) hL.tail.tail

set_option maxRecDepth 100000 in
theorem lifted (os : Os) (started : os.Started) (H : Type) (enc : TypeId × Value → H) :
    ReturnsInHanded {} Tryd.checked os 6 .any (fun w args => (Rows.elementKindsSpec.pre enc Tryd.prog Tryd.f6 [] false w args ∧ laidMetH Tryd.prog Rows.elementKindsRow.laid w) ∧ sizedMet enc Tryd.prog Tryd.f6 (OpenSpec.ofChange Rows.elementKindsSpec) false w args)
      (Rows.elementKindsSpec.post enc Tryd.prog Tryd.f6 false true false false) := by
  refine returnsInHanded_of_change_and (C := Tryd.checked) (X := fun w _ => laidMetH Tryd.prog Rows.elementKindsRow.laid w) (fun _ _ _ hh h => h.of_heap hh) own started (by kernel_rfl) Tryd.func6
    (ChangeSpec.witness_shaped (enc := enc) (C := Tryd.checked) (os := os) (X := fun w _ => laidMetH Tryd.prog Rows.elementKindsRow.laid w) false (World.laidAll Tryd.prog os Rows.elementKindsRow.laid) #[.int .u8 0] 8 (World.laidAll_os _ _ _)
      (World.shaped_of_ZipB (by kernel_rfl) (by kernel_rfl)) (by kernel_rfl) (by kernel_rfl) (by kernel_rfl)
      (by rw [MakeChecks.laidMetH_plain _ _ _ (by kernel_rfl)]; exact laidMet_laidAll _ (by kernel_rfl) (by kernel_rfl))) ?_
  intro W base args ds gs before hval hW _ _ hL _
  exact law_end (E := E_comptoirlaw16_ElementKinds) eok_comptoirlaw16_ElementKinds mixed rfl Tryd.func6 (c := Tryd.f6.body.getD .skip) (by kernel_rfl) laidOut (by kernel_rfl) (tb := Tryd.f6.resultTypes.getD 0 0) (by kernel_rfl) (by kernel_rfl) law rfl
    (fun ds hl => by
      obtain ⟨d0, rfl⟩ : ∃ d0, ds = [d0] := by
        have : Tryd.f6.params.toList.length = 1 := by kernel_rfl
        rw [this] at hl
        match ds, hl with
        | [d0], _ => exact ⟨d0, rfl⟩
      rfl) hval hW
    (fun w hb m e => by
      obtain rfl := Option.some.inj (tabAt.symm.trans e)
      exact Lib.tabBelow_of_tabIs (tab hL) w hb)

theorem over : Rows.elementKindsRow.holds Tryd.pinned (OpenSpec.ofChange Rows.elementKindsSpec) :=
  OpenClaim.holds_of_wide 6 Tryd.f6 rfl rfl rfl rfl rfl rfl rfl ⟨rfl, rfl, rfl, rfl, rfl⟩ rfl rfl rfl rfl rfl (by kernel_rfl) Tryd.func6 (by kernel_rfl)
    (of_decide_eq_true (by kernel_rfl)) (by unfold Func.isWrapper; first | (rw [if_pos (by decide +kernel)]; kernel_rfl) | (rw [if_neg (by decide +kernel)]; exact ⟨rfl, rfl⟩))
    (fun os started H enc _ => lifted os started H enc)

theorem card : Claim7.holds Tryd.pinned (.plain (OpenSpec.ofChange Rows.elementKindsSpec)) Rows.elementKindsCard :=
  Claim7.holds_tied_plain_at .later [] [.data, .data, .data] true (true, "e8f7017bf10c58642677cd5da4ea5cfec9f60fd28a370e88b3ee1a7d83b0ee54") false over (fun _ h => by cases h) (by kernel_rfl) (fun _ h => by cases h) elementKinds_row_tie rfl ⟨rfl, rfl⟩ (by kernel_rfl) rfl
    (fun f fn hf hfn => by
      obtain rfl : f = 6 := Option.some.inj ((show Tryd.prog.funcNamed "comptoir/comptoirlaw16.ElementKinds" = some 6 by kernel_rfl).symm.trans hf) |>.symm
      obtain rfl : fn = Tryd.f6 := (Option.some.inj (Tryd.func6.symm.trans hfn)).symm
      exact ⟨by kernel_rfl, fun j t ht => by
        have hm : t ∈ Tryd.f6.params.toList := by simpa using Array.mem_of_getElem? ht
        have hall : (Tryd.f6.params.toList.all fun u => !Tryd.prog.wantsStandIn u) = true := by kernel_rfl
        have := List.all_eq_true.1 hall t hm
        rw [Bool.not_eq_true'] at this
        exact this⟩)
    (by kernel_rfl)

theorem proved : Rows.ElementKindsCardSaid := card

end Go.Proofs.YthapkffhmekmcaaDoor.ElementKindsDone
