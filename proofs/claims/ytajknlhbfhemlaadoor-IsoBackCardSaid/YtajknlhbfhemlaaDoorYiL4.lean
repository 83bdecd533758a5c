/- The law IsoBack holds of the given program, with what its row lists tied to the program's text. No condition beyond the given statement. -/
import Derived.Test.YtajknlhbfhemlaaDoorYiP4
import Derived.Test.YtajknlhbfhemlaaDoorCxAm
import Derived.Test.YtajknlhbfhemlaaDoorRows
import Derived.Test.YtajknlhbfhemlaaDoorTie
import Derived.Test.YtajknlhbfhemlaaDoorCards
import Derived.Lay
import Derived.LaidOnce
import Derived.SevenTiedAt
import Derived.Stop.LaidErr
import Derived.Lib.AppendIntMem
import Derived.WalkKit
import Derived.ProofKit
import Derived.OpenShut
import Derived.ShutString
import Derived.ChangeOld
import Derived.Below
namespace Go.Proofs.YtajknlhbfhemlaaDoor.IsoBackDone
open Go.Proofs.YtajknlhbfhemlaaDoor
open Go.Cx Go.Cx.AV Go.ChangeShapes Go.WideShapes Go.ChangeAt Go.RowKit
set_option linter.unusedVariables false

theorem own : ownKnob Tryd.prog.godebug = none := by kernel_rfl
theorem laidOut : laidOutB Tryd.prog = true := by kernel_rfl

section
attribute [local irreducible] Tr.fold T_comptoirlaw17_IsoBack E_comptoirlaw17_IsoBack bodyK headC headL stepC stepL wpX callA
set_option maxRecDepth 100000 in
theorem law (ls : List AV) (h : WfArgs Tryd.prog 8 Tryd.f4.params.toList ls) : callA E_comptoirlaw17_IsoBack Tryd.f4 ls [] (fun r _ => r = .bool true) := by
  have hp : Tryd.f4.params.toList.map (shA Tryd.prog 8) = [.agg [.str, (.slice 2 (.agg [.int .i64, .slice 1 (.int .u8)]))], .slice 1 (.int .u8), .slice 1 (.int .u8), .int .i64] := by kernel_rfl
  generalize hts : Tryd.f4.params.toList = ts at h hp
  match ts, ls, h, hp with
  | [t0, t1, t2, t3], [a0, a1, a2, a3], h, hp =>
    simp only [List.map_cons, List.map_nil, List.cons.injEq, and_true] at hp
    simp only [WfArgs, and_true] at h
    obtain ⟨p0, p1, p2, p3⟩ := hp
    obtain ⟨q0, q1, q2, q3⟩ := h
    rw [p0] at q0
    rw [p1] at q1
    rw [p2] at q2
    rw [p3] at q3
    obtain ⟨cs0, rfl, hw0⟩ : ∃ cs, a0 = .agg cs ∧ WfL [(.str), (.slice 2 (.agg [.int .i64, .slice 1 (.int .u8)]))] cs := q0
    have hl0 : cs0.length = 2 := WfL.length hw0
    obtain ⟨e0_0, e0_1, rfl⟩ : ∃ e0_0 e0_1, cs0 = [e0_0, e0_1] := by
      match cs0, hl0 with
      | [e0_0, e0_1], _ => exact ⟨e0_0, e0_1, rfl⟩
    have p0_0 : Wf (.str) e0_0 := wfL_get hw0 0 _ rfl
    obtain ⟨s0_0, rfl, w0_0⟩ := p0_0
    have p0_1 : Wf (.slice 2 (.agg [.int .i64, .slice 1 (.int .u8)])) e0_1 := wfL_get hw0 1 _ rfl
    obtain ⟨x0_1, rfl, w0_1, v0_1⟩ := p0_1
    obtain ⟨b1, rfl, w1⟩ := wf_bytes q1
    obtain ⟨b2, rfl, w2⟩ := wf_bytes q2
    obtain ⟨n3, rfl, w3⟩ := q3
    have c : ∀ Rv : Bool → Prop, callA E_comptoirlaw17_IsoBack Tryd.f4 [.agg [.str s0_0, .slice 2 (.agg [.int .i64, .slice 1 (.int .u8)]) x0_1 .ro], .slice 1 (.int .u8) (bl b1) .ro, .slice 1 (.int .u8) (bl b2) .ro, .int .i64 n3] [] (outP (.leaf .bool) fun ls => Rv (getB (ls.getD 0 .junk))) = (T_comptoirlaw17_IsoBack s0_0 x0_1 (bl b1) (bl b2) n3).fold False Rv := fun Rv => by kernel_rfl
    have g : g_comptoirlaw17_IsoBack s0_0 x0_1 (bl b1) (bl b2) n3 = some true := by obtain ⟨l, hl, _⟩ := els_of v0_1; rw [hl]; exact iback_eq s0_0 l b1 b2 n3
    exact law_flat (T := T_comptoirlaw17_IsoBack s0_0 x0_1 (bl b1) (bl b2) n3) c g
end

noncomputable abbrev tabNo : Nat := (Tryd.prog.globalNamed "internal/strconv.uint64pow10").getD 0
noncomputable abbrev tabTy : TypeId := ((Tryd.prog.globals[tabNo]?).map (·.type)).getD 0
noncomputable abbrev tabEl : TypeId := match Tryd.prog.underlying tabTy with | some (.array _ e) => e | _ => 0
theorem tabAt : Tryd.prog.globalNamed "internal/strconv.uint64pow10" = some tabNo := by kernel_rfl
theorem tab {W : World} (h : laidMetH Tryd.prog Rows.isoBackRow.laid W) : Lib.TabIs Tryd.prog W "internal/strconv.uint64pow10" .u64 Lib.pow10Tab := by
  rw [MakeChecks.laidMetH_plain _ _ _ (by kernel_rfl)] at h
  have hL : laidMet Tryd.prog Rows.isoBackRow.laid W := h
  exact Lib.tabIs_of_head (n := 20) (t := tabTy) (e := tabEl) tabAt (by kernel_rfl) (by kernel_rfl) (by kernel_rfl) (by kernel_rfl) (by kernel_rfl) hL.tail.tail

set_option maxRecDepth 100000 in
theorem lifted (os : Os) (started : os.Started) (H : Type) (enc : TypeId × Value → H) :
    ReturnsInHanded {} Tryd.checked os 4 .any (fun w args => (Rows.isoBackSpec.pre enc Tryd.prog Tryd.f4 [] false w args ∧ laidMetH Tryd.prog Rows.isoBackRow.laid w) ∧ sizedMet enc Tryd.prog Tryd.f4 (OpenSpec.ofChange Rows.isoBackSpec) false w args)
      (Rows.isoBackSpec.post enc Tryd.prog Tryd.f4 false true false false) := by
  refine returnsInHanded_of_change_and (C := Tryd.checked) (X := fun w _ => laidMetH Tryd.prog Rows.isoBackRow.laid w) (fun _ _ _ hh h => h.of_heap hh) own started (by kernel_rfl) Tryd.func4
    (ChangeSpec.witness_shaped (enc := enc) (C := Tryd.checked) (os := os) (X := fun w _ => laidMetH Tryd.prog Rows.isoBackRow.laid w) false (World.laidAll Tryd.prog os Rows.isoBackRow.laid) #[.agg #[.string .empty, .slice none 0 0], .slice none 0 0, .slice none 0 0, .int .i64 0] 8 (World.laidAll_os _ _ _)
      (World.shaped_of_ZipB (by kernel_rfl) (by kernel_rfl)) (by kernel_rfl) (by kernel_rfl) (by kernel_rfl)
      (by rw [MakeChecks.laidMetH_plain _ _ _ (by kernel_rfl)]; exact laidMet_laidAll _ (by kernel_rfl) (by kernel_rfl))) ?_
  intro W base args ds gs before hval hW _ _ hL _
  exact law_end (E := E_comptoirlaw17_IsoBack) eok_comptoirlaw17_IsoBack mixed rfl Tryd.func4 (c := Tryd.f4.body.getD .skip) (by kernel_rfl) laidOut (by kernel_rfl) (tb := Tryd.f4.resultTypes.getD 0 0) (by kernel_rfl) (by kernel_rfl) law rfl
    (fun ds hl => by
      obtain ⟨d0, d1, d2, d3, rfl⟩ : ∃ d0 d1 d2 d3, ds = [d0, d1, d2, d3] := by
        have : Tryd.f4.params.toList.length = 4 := by kernel_rfl
        rw [this] at hl
        match ds, hl with
        | [d0, d1, d2, d3], _ => exact ⟨d0, d1, d2, d3, rfl⟩
      rfl) hval hW
    (fun w hb m e => by
      obtain rfl := Option.some.inj (tabAt.symm.trans e)
      exact Lib.tabBelow_of_tabIs (tab hL) w hb)

theorem over : Rows.isoBackRow.holds Tryd.pinned (OpenSpec.ofChange Rows.isoBackSpec) :=
  OpenClaim.holds_of_wide 4 Tryd.f4 rfl rfl rfl rfl rfl rfl rfl ⟨rfl, rfl, rfl, rfl, rfl⟩ rfl rfl rfl rfl rfl (by kernel_rfl) Tryd.func4 (by kernel_rfl)
    (of_decide_eq_true (by kernel_rfl)) (by unfold Func.isWrapper; first | (rw [if_pos (by decide +kernel)]; kernel_rfl) | (rw [if_neg (by decide +kernel)]; exact ⟨rfl, rfl⟩))
    (fun os started H enc _ => lifted os started H enc)

theorem card : Claim7.holds Tryd.pinned (.plain (OpenSpec.ofChange Rows.isoBackSpec)) Rows.isoBackCard :=
  Claim7.holds_tied_plain_at .later [] [.data, .data, .data] true (true, "bc2b5c9fc8cbfefe853349ef1fb4c414b28d74e3aa7943d86338a7e3d25f99a6") false over (fun _ h => by cases h) (by kernel_rfl) (fun _ h => by cases h) isoBack_row_tie rfl ⟨rfl, rfl⟩ (by kernel_rfl) rfl
    (fun f fn hf hfn => by
      obtain rfl : f = 4 := Option.some.inj ((show Tryd.prog.funcNamed "comptoir/comptoirlaw17.IsoBack" = some 4 by kernel_rfl).symm.trans hf) |>.symm
      obtain rfl : fn = Tryd.f4 := (Option.some.inj (Tryd.func4.symm.trans hfn)).symm
      exact ⟨by kernel_rfl, fun j t ht => by
        have hm : t ∈ Tryd.f4.params.toList := by simpa using Array.mem_of_getElem? ht
        have hall : (Tryd.f4.params.toList.all fun u => !Tryd.prog.wantsStandIn u) = true := by kernel_rfl
        have := List.all_eq_true.1 hall t hm
        rw [Bool.not_eq_true'] at this
        exact this⟩)
    (by kernel_rfl)

theorem proved : Rows.IsoBackCardSaid := card

end Go.Proofs.YtajknlhbfhemlaaDoor.IsoBackDone
