/- JournalTells: whatever the bytes, the call returns true. No condition beyond the given statement. -/
import Derived.Test.YtaejmfmamhdlhaaYbP10
import Derived.Test.YtaejmfmamhdlhaaCxAl
import Derived.Test.YtaejmfmamhdlhaaRows
import Derived.WalkKit
import Derived.ProofKit
import Derived.OpenShut
import Derived.ShutString
import Derived.ChangeOld
import Derived.Below
namespace Go.Proofs.Ytaejmfmamhdlhaa.JournalTellsDone
open Go.Proofs.Ytaejmfmamhdlhaa
open Go.Cx Go.Cx.AV Go.ChangeShapes Go.WideShapes Go.ChangeAt Go.RowKit
set_option linter.unusedVariables false

theorem own : ownKnob Try.prog.godebug = none := by kernel_rfl
theorem laidOut : laidOutB Try.prog = true := by kernel_rfl

section
attribute [local irreducible] Tr.fold T_comptoirlaw23_JournalTells E_comptoirlaw23_JournalTells bodyK headC headL stepC stepL wpX callA
set_option maxRecDepth 100000 in
theorem law (ls : List AV) (h : WfArgs Try.prog 8 Try.f10.params.toList ls) : callA E_comptoirlaw23_JournalTells Try.f10 ls [] (fun r _ => r = .bool true) := by
  have hp : Try.f10.params.toList.map (shA Try.prog 8) = [.slice 1 (.int .u8)] := by kernel_rfl
  generalize hts : Try.f10.params.toList = ts at h hp
  match ts, ls, h, hp with
  | [t0], [a0], h, hp =>
    simp only [List.map_cons, List.map_nil, List.cons.injEq, and_true] at hp
    simp only [WfArgs, and_true] at h
    have p0 := hp
    have q0 := h
    rw [p0] at q0
    obtain ⟨b0, rfl, w0⟩ := wf_bytes q0
    have c : ∀ Rv : Bool → Prop, callA E_comptoirlaw23_JournalTells Try.f10 [.slice 1 (.int .u8) (bl b0) .ro] [] (outP (.leaf .bool) fun ls => Rv (getB (ls.getD 0 .junk))) = (T_comptoirlaw23_JournalTells (bl b0)).fold False Rv := fun Rv => by kernel_rfl
    have g : g_comptoirlaw23_JournalTells (bl b0) = some true := jtells_eq b0
    exact law_flat (T := T_comptoirlaw23_JournalTells (bl b0)) c g
end

set_option maxRecDepth 100000 in
theorem lifted (os : Os) (started : os.Started) (H : Type) (enc : TypeId × Value → H) :
    ReturnsInHanded {} Try.checked os 10 .any (Rows.journalTellsSpec.pre6 enc Try.prog Try.f10 Rows.journalTellsRow.domain false) (Rows.journalTellsSpec.post enc Try.prog Try.f10 false true false false) := by
  refine returnsInHanded_of_change (C := Try.checked) own started (by kernel_rfl) Try.func10
    (ChangeSpec.witness6 (enc := enc) (C := Try.checked) false ⟨#[], #[.slice none 0 0], []⟩ 8 (by kernel_rfl) (by kernel_rfl) (by kernel_rfl) (by kernel_rfl)) ?_
  intro W base args ds gs before hval hW hcnd _
  exact law_end (E := E_comptoirlaw23_JournalTells) eok_comptoirlaw23_JournalTells mixed rfl Try.func10 (c := Try.f10.body.getD .skip) (by kernel_rfl) laidOut (by kernel_rfl) (tb := Try.f10.resultTypes.getD 0 0) (by kernel_rfl) (by kernel_rfl) law rfl
    (fun ds hl => by
      obtain ⟨d0, rfl⟩ : ∃ d0, ds = [d0] := by
        have : Try.f10.params.toList.length = 1 := by kernel_rfl
        rw [this] at hl
        match ds, hl with
        | [d0], _ => exact ⟨d0, rfl⟩
      rfl) hval hW

theorem over : Rows.journalTellsRow.holds Try.pinned (OpenSpec.ofChange Rows.journalTellsSpec) :=
  OpenClaim.holds_of_wide 10 Try.f10 rfl rfl rfl rfl rfl rfl rfl ⟨rfl, rfl, rfl, rfl, rfl⟩ rfl rfl rfl rfl rfl (by kernel_rfl) Try.func10 (by kernel_rfl)
    (of_decide_eq_true (by kernel_rfl)) (by unfold Func.isWrapper; first | (rw [if_pos (by decide +kernel)]; kernel_rfl) | (rw [if_neg (by decide +kernel)]; exact ⟨rfl, rfl⟩))
    (fun os started H enc _ => lifted os started H enc)

theorem proved : Rows.JournalTellsSaid := over

end Go.Proofs.Ytaejmfmamhdlhaa.JournalTellsDone
