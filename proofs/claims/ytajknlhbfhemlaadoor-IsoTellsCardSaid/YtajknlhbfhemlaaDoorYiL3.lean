/- The law IsoTells holds of the given program, with what its row lists tied to the program's text. No condition beyond the given statement. -/
import Derived.Test.YtajknlhbfhemlaaDoorYiP3
import Derived.Test.YtajknlhbfhemlaaDoorCxAm
import Derived.Test.YtajknlhbfhemlaaDoorRows
import Derived.Test.YtajknlhbfhemlaaDoorTie
import Derived.Test.YtajknlhbfhemlaaDoorCards
import Derived.Lay
import Derived.LaidOnce
import Derived.SevenTiedAt
import Derived.Stop.LaidErr
import Derived.Lib.AppendIntMem
import Derived.WalkKit
import Derived.ProofKit
import Derived.OpenShut
import Derived.ShutString
import Derived.ChangeOld
import Derived.Below
namespace Go.Proofs.YtajknlhbfhemlaaDoor.IsoTellsDone
open Go.Proofs.YtajknlhbfhemlaaDoor
open Go.Cx Go.Cx.AV Go.ChangeShapes Go.WideShapes Go.ChangeAt Go.RowKit
set_option linter.unusedVariables false

theorem own : ownKnob Tryd.prog.godebug = none := by kernel_rfl
theorem laidOut : laidOutB Tryd.prog = true := by kernel_rfl

section
attribute [local irreducible] Tr.fold T_comptoirlaw17_IsoTells E_comptoirlaw17_IsoTells bodyK headC headL stepC stepL wpX callA
set_option maxRecDepth 100000 in
theorem law (ls : List AV) (h : WfArgs Tryd.prog 8 Tryd.f3.params.toList ls) : callA E_comptoirlaw17_IsoTells Tryd.f3 ls [] (fun r _ => r = .bool true) := by
  have hp : Tryd.f3.params.toList.map (shA Tryd.prog 8) = [.slice 1 (.int .u8), .agg [.str, (.slice 2 (.agg [.int .i64, .slice 1 (.int .u8)]))]] := by kernel_rfl
  generalize hts : Tryd.f3.params.toList = ts at h hp
  match ts, ls, h, hp with
  | [t0, t1], [a0, a1], h, hp =>
    simp only [List.map_cons, List.map_nil, List.cons.injEq, and_true] at hp
    simp only [WfArgs, and_true] at h
    obtain ⟨p0, p1⟩ := hp
    obtain ⟨q0, q1⟩ := h
    rw [p0] at q0
    rw [p1] at q1
    obtain ⟨b0, rfl, w0⟩ := wf_bytes q0
    obtain ⟨cs1, rfl, hw1⟩ : ∃ cs, a1 = .agg cs ∧ WfL [(.str), (.slice 2 (.agg [.int .i64, .slice 1 (.int .u8)]))] cs := q1
    have hl1 : cs1.length = 2 := WfL.length hw1
    obtain ⟨e1_0, e1_1, rfl⟩ : ∃ e1_0 e1_1, cs1 = [e1_0, e1_1] := by
      match cs1, hl1 with
      | [e1_0, e1_1], _ => exact ⟨e1_0, e1_1, rfl⟩
    have p1_0 : Wf (.str) e1_0 := wfL_get hw1 0 _ rfl
    obtain ⟨s1_0, rfl, w1_0⟩ := p1_0
    have p1_1 : Wf (.slice 2 (.agg [.int .i64, .slice 1 (.int .u8)])) e1_1 := wfL_get hw1 1 _ rfl
    obtain ⟨x1_1, rfl, w1_1, v1_1⟩ := p1_1
    have c : ∀ Rv : Bool → Prop, callA E_comptoirlaw17_IsoTells Tryd.f3 [.slice 1 (.int .u8) (bl b0) .ro, .agg [.str s1_0, .slice 2 (.agg [.int .i64, .slice 1 (.int .u8)]) x1_1 .ro]] [] (outP (.leaf .bool) fun ls => Rv (getB (ls.getD 0 .junk))) = (T_comptoirlaw17_IsoTells (bl b0) s1_0 x1_1).fold False Rv := fun Rv => by kernel_rfl
    have g : g_comptoirlaw17_IsoTells (bl b0) s1_0 x1_1 = some true := by obtain ⟨l, hl, _⟩ := els_of v1_1; rw [hl]; exact itells_eq b0 s1_0 l w1_0
    exact law_flat (T := T_comptoirlaw17_IsoTells (bl b0) s1_0 x1_1) c g
end

noncomputable abbrev tabNo : Nat := (Tryd.prog.globalNamed "internal/strconv.uint64pow10").getD 0
noncomputable abbrev tabTy : TypeId := ((Tryd.prog.globals[tabNo]?).map (·.type)).getD 0
noncomputable abbrev tabEl : TypeId := match Tryd.prog.underlying tabTy with | some (.array _ e) => e | _ => 0
theorem tabAt : Tryd.prog.globalNamed "internal/strconv.uint64pow10" = some tabNo := by kernel_rfl
theorem tab {W : World} (h : laidMetH Tryd.prog Rows.isoTellsRow.laid W) : Lib.TabIs Tryd.prog W "internal/strconv.uint64pow10" .u64 Lib.pow10Tab := by
  rw [MakeChecks.laidMetH_plain _ _ _ (by kernel_rfl)] at h
  have hL : laidMet Tryd.prog Rows.isoTellsRow.laid W := h
  exact Lib.tabIs_of_head (n := 20) (t := tabTy) (e := tabEl) tabAt (by kernel_rfl) (by kernel_rfl) (by kernel_rfl) (by kernel_rfl) (by kernel_rfl) hL.tail.tail

set_option maxRecDepth 100000 in
theorem lifted (os : Os) (started : os.Started) (H : Type) (enc : TypeId × Value → H) :
    ReturnsInHanded {} Tryd.checked os 3 .any (fun w args => (Rows.isoTellsSpec.pre enc Tryd.prog Tryd.f3 [] false w args ∧ laidMetH Tryd.prog Rows.isoTellsRow.laid w) ∧ sizedMet enc Tryd.prog Tryd.f3 (OpenSpec.ofChange Rows.isoTellsSpec) false w args)
      (Rows.isoTellsSpec.post enc Tryd.prog Tryd.f3 false true false false) := by
  refine returnsInHanded_of_change_and (C := Tryd.checked) (X := fun w _ => laidMetH Tryd.prog Rows.isoTellsRow.laid w) (fun _ _ _ hh h => h.of_heap hh) own started (by kernel_rfl) Tryd.func3
    (ChangeSpec.witness_shaped (enc := enc) (C := Tryd.checked) (os := os) (X := fun w _ => laidMetH Tryd.prog Rows.isoTellsRow.laid w) false (World.laidAll Tryd.prog os Rows.isoTellsRow.laid) #[.slice none 0 0, .agg #[.string .empty, .slice none 0 0]] 8 (World.laidAll_os _ _ _)
      (World.shaped_of_ZipB (by kernel_rfl) (by kernel_rfl)) (by kernel_rfl) (by kernel_rfl) (by kernel_rfl)
      (by rw [MakeChecks.laidMetH_plain _ _ _ (by kernel_rfl)]; exact laidMet_laidAll _ (by kernel_rfl) (by kernel_rfl))) ?_
  intro W base args ds gs before hval hW _ _ hL _
  exact law_end (E := E_comptoirlaw17_IsoTells) eok_comptoirlaw17_IsoTells mixed rfl Tryd.func3 (c := Tryd.f3.body.getD .skip) (by kernel_rfl) laidOut (by kernel_rfl) (tb := Tryd.f3.resultTypes.getD 0 0) (by kernel_rfl) (by kernel_rfl) law rfl
    (fun ds hl => by
      obtain ⟨d0, d1, rfl⟩ : ∃ d0 d1, ds = [d0, d1] := by
        have : Tryd.f3.params.toList.length = 2 := by kernel_rfl
        rw [this] at hl
        match ds, hl with
        | [d0, d1], _ => exact ⟨d0, d1, rfl⟩
      rfl) hval hW
    (fun w hb m e => by
      obtain rfl := Option.some.inj (tabAt.symm.trans e)
      exact Lib.tabBelow_of_tabIs (tab hL) w hb)

theorem over : Rows.isoTellsRow.holds Tryd.pinned (OpenSpec.ofChange Rows.isoTellsSpec) :=
  OpenClaim.holds_of_wide 3 Tryd.f3 rfl rfl rfl rfl rfl rfl rfl ⟨rfl, rfl, rfl, rfl, rfl⟩ rfl rfl rfl rfl rfl (by kernel_rfl) Tryd.func3 (by kernel_rfl)
    (of_decide_eq_true (by kernel_rfl)) (by unfold Func.isWrapper; first | (rw [if_pos (by decide +kernel)]; kernel_rfl) | (rw [if_neg (by decide +kernel)]; exact ⟨rfl, rfl⟩))
    (fun os started H enc _ => lifted os started H enc)

theorem card : Claim7.holds Tryd.pinned (.plain (OpenSpec.ofChange Rows.isoTellsSpec)) Rows.isoTellsCard :=
  Claim7.holds_tied_plain_at .later [] [.data, .data, .data] true (true, "bc2b5c9fc8cbfefe853349ef1fb4c414b28d74e3aa7943d86338a7e3d25f99a6") false over (fun _ h => by cases h) (by kernel_rfl) (fun _ h => by cases h) isoTells_row_tie rfl ⟨rfl, rfl⟩ (by kernel_rfl) rfl
    (fun f fn hf hfn => by
      obtain rfl : f = 3 := Option.some.inj ((show Tryd.prog.funcNamed "comptoir/comptoirlaw17.IsoTells" = some 3 by kernel_rfl).symm.trans hf) |>.symm
      obtain rfl : fn = Tryd.f3 := (Option.some.inj (Tryd.func3.symm.trans hfn)).symm
      exact ⟨by kernel_rfl, fun j t ht => by
        have hm : t ∈ Tryd.f3.params.toList := by simpa using Array.mem_of_getElem? ht
        have hall : (Tryd.f3.params.toList.all fun u => !Tryd.prog.wantsStandIn u) = true := by kernel_rfl
        have := List.all_eq_true.1 hall t hm
        rw [Bool.not_eq_true'] at this
        exact this⟩)
    (by kernel_rfl)

theorem proved : Rows.IsoTellsCardSaid := card

end Go.Proofs.YtajknlhbfhemlaaDoor.IsoTellsDone
