/- The law ElementDigits holds of the given program, with what its row lists tied to the program's text. No condition beyond the given statement. -/
import Derived.Test.YthapkffhmekmcaaDoorYeP8
import Derived.Test.YthapkffhmekmcaaDoorCxAm
import Derived.Test.YthapkffhmekmcaaDoorRows
import Derived.Test.YthapkffhmekmcaaDoorTie
import Derived.Test.YthapkffhmekmcaaDoorCards
import Derived.Lay
import Derived.LaidOnce
import Derived.SevenTiedAt
import Derived.Stop.LaidErr
import Derived.Lib.AppendIntMem
import Derived.WalkKit
import Derived.ProofKit
import Derived.OpenShut
import Derived.ShutString
import Derived.ChangeOld
import Derived.Below
namespace Go.Proofs.YthapkffhmekmcaaDoor.ElementDigitsDone
open Go.Proofs.YthapkffhmekmcaaDoor
open Go.Cx Go.Cx.AV Go.ChangeShapes Go.WideShapes Go.ChangeAt Go.RowKit
set_option linter.unusedVariables false

theorem own : ownKnob Tryd.prog.godebug = none := by kernel_rfl
theorem laidOut : laidOutB Tryd.prog = true := by kernel_rfl

section
attribute [local irreducible] Tr.fold T_comptoirlaw16_ElementDigits E_comptoirlaw16_ElementDigits bodyK headC headL stepC stepL wpX callA M_comptoirlaw16_ElementDigits L_comptoirlaw16_ElementDigits b_comptoirlaw16_ElementDigits
set_option maxRecDepth 100000 in
theorem law (ls : List AV) (h : WfArgs Tryd.prog 8 Tryd.f8.params.toList ls) : callA E_comptoirlaw16_ElementDigits Tryd.f8 ls [] (fun r _ => r = .bool true) := by
  have hp : Tryd.f8.params.toList.map (shA Tryd.prog 8) = [.int .i64, .int .i64] := by kernel_rfl
  generalize hts : Tryd.f8.params.toList = ts at h hp
  match ts, ls, h, hp with
  | [t0, t1], [a0, a1], h, hp =>
    simp only [List.map_cons, List.map_nil, List.cons.injEq, and_true] at hp
    simp only [WfArgs, and_true] at h
    obtain ⟨p0, p1⟩ := hp
    obtain ⟨q0, q1⟩ := h
    rw [p0] at q0
    rw [p1] at q1
    obtain ⟨n0, rfl, w0⟩ := q0
    obtain ⟨n1, rfl, w1⟩ := q1
    have c : ∀ Rv : Bool → Prop, callA E_comptoirlaw16_ElementDigits Tryd.f8 [.int .i64 n0, .int .i64 n1] [] (outP (.leaf .bool) fun ls => Rv (getB (ls.getD 0 .junk))) = (T_comptoirlaw16_ElementDigits n0 n1).fold False (Sum.elim (L_comptoirlaw16_ElementDigits n0 n1 Rv) Rv) := fun Rv => by kernel_rfl
    have g : g_comptoirlaw16_ElementDigits n0 n1 = some true := edigits_eq n0 n1
    exact law_mach (step := M_comptoirlaw16_ElementDigits n0 n1) (T := T_comptoirlaw16_ElementDigits n0 n1) (L := L_comptoirlaw16_ElementDigits n0 n1) c (fun Rv => h_comptoirlaw16_ElementDigits n0 n1 Rv) g
end

noncomputable abbrev tabNo : Nat := (Tryd.prog.globalNamed "internal/strconv.uint64pow10").getD 0
noncomputable abbrev tabTy : TypeId := ((Tryd.prog.globals[tabNo]?).map (·.type)).getD 0
noncomputable abbrev tabEl : TypeId := match Tryd.prog.underlying tabTy with | some (.array _ e) => e | _ => 0
theorem tabAt : Tryd.prog.globalNamed "internal/strconv.uint64pow10" = some tabNo := by kernel_rfl
theorem tab {W : World} (h : laidMetH Tryd.prog Rows.elementDigitsRow.laid W) : Lib.TabIs Tryd.prog W "internal/strconv.uint64pow10" .u64 Lib.pow10Tab := by
  rw [MakeChecks.laidMetH_plain _ _ _ (by kernel_rfl)] at h
  have hL : laidMet Tryd.prog Rows.elementDigitsRow.laid W := h
  exact Lib.tabIs_of_head (n := 20) (t := tabTy) (e := tabEl) tabAt (by kernel_rfl) (by kernel_rfl) (by kernel_rfl) (by kernel_rfl) (by kernel_rfl) hL.tail.tail

set_option maxRecDepth 100000 in
theorem lifted (os : Os) (started : os.Started) (H : Type) (enc : TypeId × Value → H) :
    ReturnsInHanded {} Tryd.checked os 8 .any (fun w args => (Rows.elementDigitsSpec.pre enc Tryd.prog Tryd.f8 [] false w args ∧ laidMetH Tryd.prog Rows.elementDigitsRow.laid w) ∧ sizedMet enc Tryd.prog Tryd.f8 (OpenSpec.ofChange Rows.elementDigitsSpec) false w args)
      (Rows.elementDigitsSpec.post enc Tryd.prog Tryd.f8 false true false false) := by
  refine returnsInHanded_of_change_and (C := Tryd.checked) (X := fun w _ => laidMetH Tryd.prog Rows.elementDigitsRow.laid w) (fun _ _ _ hh h => h.of_heap hh) own started (by kernel_rfl) Tryd.func8
    (ChangeSpec.witness_shaped (enc := enc) (C := Tryd.checked) (os := os) (X := fun w _ => laidMetH Tryd.prog Rows.elementDigitsRow.laid w) false (World.laidAll Tryd.prog os Rows.elementDigitsRow.laid) #[.int .i64 0, .int .i64 0] 8 (World.laidAll_os _ _ _)
      (World.shaped_of_ZipB (by kernel_rfl) (by kernel_rfl)) (by kernel_rfl) (by kernel_rfl) (by kernel_rfl)
      (by rw [MakeChecks.laidMetH_plain _ _ _ (by kernel_rfl)]; exact laidMet_laidAll _ (by kernel_rfl) (by kernel_rfl))) ?_
  intro W base args ds gs before hval hW _ _ hL _
  exact law_end (E := E_comptoirlaw16_ElementDigits) eok_comptoirlaw16_ElementDigits mixed rfl Tryd.func8 (c := Tryd.f8.body.getD .skip) (by kernel_rfl) laidOut (by kernel_rfl) (tb := Tryd.f8.resultTypes.getD 0 0) (by kernel_rfl) (by kernel_rfl) law rfl
    (fun ds hl => by
      obtain ⟨d0, d1, rfl⟩ : ∃ d0 d1, ds = [d0, d1] := by
        have : Tryd.f8.params.toList.length = 2 := by kernel_rfl
        rw [this] at hl
        match ds, hl with
        | [d0, d1], _ => exact ⟨d0, d1, rfl⟩
      rfl) hval hW
    (fun w hb m e => by
      obtain rfl := Option.some.inj (tabAt.symm.trans e)
      exact Lib.tabBelow_of_tabIs (tab hL) w hb)

theorem over : Rows.elementDigitsRow.holds Tryd.pinned (OpenSpec.ofChange Rows.elementDigitsSpec) :=
  OpenClaim.holds_of_wide 8 Tryd.f8 rfl rfl rfl rfl rfl rfl rfl ⟨rfl, rfl, rfl, rfl, rfl⟩ rfl rfl rfl rfl rfl (by kernel_rfl) Tryd.func8 (by kernel_rfl)
    (of_decide_eq_true (by kernel_rfl)) (by unfold Func.isWrapper; first | (rw [if_pos (by decide +kernel)]; kernel_rfl) | (rw [if_neg (by decide +kernel)]; exact ⟨rfl, rfl⟩))
    (fun os started H enc _ => lifted os started H enc)

theorem card : Claim7.holds Tryd.pinned (.plain (OpenSpec.ofChange Rows.elementDigitsSpec)) Rows.elementDigitsCard :=
  Claim7.holds_tied_plain_at .later [] [.data, .data, .data] true (true, "e8f7017bf10c58642677cd5da4ea5cfec9f60fd28a370e88b3ee1a7d83b0ee54") false over (fun _ h => by cases h) (by kernel_rfl) (fun _ h => by cases h) elementDigits_row_tie rfl ⟨rfl, rfl⟩ (by kernel_rfl) rfl
    (fun f fn hf hfn => by
      obtain rfl : f = 8 := Option.some.inj ((show Tryd.prog.funcNamed "comptoir/comptoirlaw16.ElementDigits" = some 8 by kernel_rfl).symm.trans hf) |>.symm
      obtain rfl : fn = Tryd.f8 := (Option.some.inj (Tryd.func8.symm.trans hfn)).symm
      exact ⟨by kernel_rfl, fun j t ht => by
        have hm : t ∈ Tryd.f8.params.toList := by simpa using Array.mem_of_getElem? ht
        have hall : (Tryd.f8.params.toList.all fun u => !Tryd.prog.wantsStandIn u) = true := by kernel_rfl
        have := List.all_eq_true.1 hall t hm
        rw [Bool.not_eq_true'] at this
        exact this⟩)
    (by kernel_rfl)

theorem proved : Rows.ElementDigitsCardSaid := card

end Go.Proofs.YthapkffhmekmcaaDoor.ElementDigitsDone
