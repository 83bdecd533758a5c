/- The law IsoNeeds holds of the given program, with what its row lists tied to the program's text. No condition beyond the given statement. -/
import Derived.Test.YtajknlhbfhemlaaDoorYiP5
import Derived.Test.YtajknlhbfhemlaaDoorCxAm
import Derived.Test.YtajknlhbfhemlaaDoorRows
import Derived.Test.YtajknlhbfhemlaaDoorTie
import Derived.Test.YtajknlhbfhemlaaDoorCards
import Derived.Lay
import Derived.LaidOnce
import Derived.SevenTiedAt
import Derived.Stop.LaidErr
import Derived.Lib.AppendIntMem
import Derived.WalkKit
import Derived.ProofKit
import Derived.OpenShut
import Derived.ShutString
import Derived.ChangeOld
import Derived.Below
namespace Go.Proofs.YtajknlhbfhemlaaDoor.IsoNeedsDone
open Go.Proofs.YtajknlhbfhemlaaDoor
open Go.Cx Go.Cx.AV Go.ChangeShapes Go.WideShapes Go.ChangeAt Go.RowKit
set_option linter.unusedVariables false

theorem own : ownKnob Tryd.prog.godebug = none := by kernel_rfl
theorem laidOut : laidOutB Tryd.prog = true := by kernel_rfl

section
attribute [local irreducible] Tr.fold T_comptoirlaw17_IsoNeeds E_comptoirlaw17_IsoNeeds bodyK headC headL stepC stepL wpX callA
set_option maxRecDepth 100000 in
theorem law (ls : List AV) (h : WfArgs Tryd.prog 8 Tryd.f5.params.toList ls) : callA E_comptoirlaw17_IsoNeeds Tryd.f5 ls [] (fun r _ => r = .bool true) := by
  have hp : Tryd.f5.params.toList.map (shA Tryd.prog 8) = [.int .i64] := by kernel_rfl
  generalize hts : Tryd.f5.params.toList = ts at h hp
  match ts, ls, h, hp with
  | [t0], [a0], h, hp =>
    simp only [List.map_cons, List.map_nil, List.cons.injEq, and_true] at hp
    simp only [WfArgs, and_true] at h
    have p0 := hp
    have q0 := h
    rw [p0] at q0
    obtain ⟨n0, rfl, w0⟩ := q0
    have c : ∀ Rv : Bool → Prop, callA E_comptoirlaw17_IsoNeeds Tryd.f5 [.int .i64 n0] [] (outP (.leaf .bool) fun ls => Rv (getB (ls.getD 0 .junk))) = (T_comptoirlaw17_IsoNeeds n0).fold False Rv := fun Rv => by kernel_rfl
    have g : g_comptoirlaw17_IsoNeeds n0 = some true := ineeds_eq n0
    exact law_flat (T := T_comptoirlaw17_IsoNeeds n0) c g
end

noncomputable abbrev tabNo : Nat := (Tryd.prog.globalNamed "internal/strconv.uint64pow10").getD 0
noncomputable abbrev tabTy : TypeId := ((Tryd.prog.globals[tabNo]?).map (·.type)).getD 0
noncomputable abbrev tabEl : TypeId := match Tryd.prog.underlying tabTy with | some (.array _ e) => e | _ => 0
theorem tabAt : Tryd.prog.globalNamed "internal/strconv.uint64pow10" = some tabNo := by kernel_rfl
theorem tab {W : World} (h : laidMetH Tryd.prog Rows.isoNeedsRow.laid W) : Lib.TabIs Tryd.prog W "internal/strconv.uint64pow10" .u64 Lib.pow10Tab := by
  rw [MakeChecks.laidMetH_plain _ _ _ (by kernel_rfl)] at h
  have hL : laidMet Tryd.prog Rows.isoNeedsRow.laid W := h
  exact Lib.tabIs_of_head (n := 20) (t := tabTy) (e := tabEl) tabAt (by kernel_rfl) (by kernel_rfl) (by kernel_rfl) (by kernel_rfl) (by kernel_rfl) hL.tail.tail

set_option maxRecDepth 100000 in
theorem lifted (os : Os) (started : os.Started) (H : Type) (enc : TypeId × Value → H) :
    ReturnsInHanded {} Tryd.checked os 5 .any (fun w args => (Rows.isoNeedsSpec.pre enc Tryd.prog Tryd.f5 [] false w args ∧ laidMetH Tryd.prog Rows.isoNeedsRow.laid w) ∧ sizedMet enc Tryd.prog Tryd.f5 (OpenSpec.ofChange Rows.isoNeedsSpec) false w args)
      (Rows.isoNeedsSpec.post enc Tryd.prog Tryd.f5 false true false false) := by
  refine returnsInHanded_of_change_and (C := Tryd.checked) (X := fun w _ => laidMetH Tryd.prog Rows.isoNeedsRow.laid w) (fun _ _ _ hh h => h.of_heap hh) own started (by kernel_rfl) Tryd.func5
    (ChangeSpec.witness_shaped (enc := enc) (C := Tryd.checked) (os := os) (X := fun w _ => laidMetH Tryd.prog Rows.isoNeedsRow.laid w) false (World.laidAll Tryd.prog os Rows.isoNeedsRow.laid) #[.int .i64 0] 8 (World.laidAll_os _ _ _)
      (World.shaped_of_ZipB (by kernel_rfl) (by kernel_rfl)) (by kernel_rfl) (by kernel_rfl) (by kernel_rfl)
      (by rw [MakeChecks.laidMetH_plain _ _ _ (by kernel_rfl)]; exact laidMet_laidAll _ (by kernel_rfl) (by kernel_rfl))) ?_
  intro W base args ds gs before hval hW _ _ hL _
  exact law_end (E := E_comptoirlaw17_IsoNeeds) eok_comptoirlaw17_IsoNeeds mixed rfl Tryd.func5 (c := Tryd.f5.body.getD .skip) (by kernel_rfl) laidOut (by kernel_rfl) (tb := Tryd.f5.resultTypes.getD 0 0) (by kernel_rfl) (by kernel_rfl) law rfl
    (fun ds hl => by
      obtain ⟨d0, rfl⟩ : ∃ d0, ds = [d0] := by
        have : Tryd.f5.params.toList.length = 1 := by kernel_rfl
        rw [this] at hl
        match ds, hl with
        | [d0], _ => exact ⟨d0, rfl⟩
      rfl) hval hW
    (fun w hb m e => by
      obtain rfl := Option.some.inj (tabAt.symm.trans e)
      exact Lib.tabBelow_of_tabIs (tab hL) w hb)

theorem over : Rows.isoNeedsRow.holds Tryd.pinned (OpenSpec.ofChange Rows.isoNeedsSpec) :=
  OpenClaim.holds_of_wide 5 Tryd.f5 rfl rfl rfl rfl rfl rfl rfl ⟨rfl, rfl, rfl, rfl, rfl⟩ rfl rfl rfl rfl rfl (by kernel_rfl) Tryd.func5 (by kernel_rfl)
    (of_decide_eq_true (by kernel_rfl)) (by unfold Func.isWrapper; first | (rw [if_pos (by decide +kernel)]; kernel_rfl) | (rw [if_neg (by decide +kernel)]; exact ⟨rfl, rfl⟩))
    (fun os started H enc _ => lifted os started H enc)

theorem card : Claim7.holds Tryd.pinned (.plain (OpenSpec.ofChange Rows.isoNeedsSpec)) Rows.isoNeedsCard :=
  Claim7.holds_tied_plain_at .later [] [.data, .data, .data] true (true, "bc2b5c9fc8cbfefe853349ef1fb4c414b28d74e3aa7943d86338a7e3d25f99a6") false over (fun _ h => by cases h) (by kernel_rfl) (fun _ h => by cases h) isoNeeds_row_tie rfl ⟨rfl, rfl⟩ (by kernel_rfl) rfl
    (fun f fn hf hfn => by
      obtain rfl : f = 5 := Option.some.inj ((show Tryd.prog.funcNamed "comptoir/comptoirlaw17.IsoNeeds" = some 5 by kernel_rfl).symm.trans hf) |>.symm
      obtain rfl : fn = Tryd.f5 := (Option.some.inj (Tryd.func5.symm.trans hfn)).symm
      exact ⟨by kernel_rfl, fun j t ht => by
        have hm : t ∈ Tryd.f5.params.toList := by simpa using Array.mem_of_getElem? ht
        have hall : (Tryd.f5.params.toList.all fun u => !Tryd.prog.wantsStandIn u) = true := by kernel_rfl
        have := List.all_eq_true.1 hall t hm
        rw [Bool.not_eq_true'] at this
        exact this⟩)
    (by kernel_rfl)

theorem proved : Rows.IsoNeedsCardSaid := card

end Go.Proofs.YtajknlhbfhemlaaDoor.IsoNeedsDone
