/- JournalParts: the records of two rows of records are both rows'; bytes that are none ahead hide all. No condition beyond the given statement. -/
import Derived.Test.YtaejmfmamhdlhaaYbP12
import Derived.Test.YtaejmfmamhdlhaaCxAl
import Derived.Test.YtaejmfmamhdlhaaRows
import Derived.WalkKit
import Derived.ProofKit
import Derived.OpenShut
import Derived.ShutString
import Derived.ChangeOld
import Derived.Below
namespace Go.Proofs.Ytaejmfmamhdlhaa.JournalPartsDone
open Go.Proofs.Ytaejmfmamhdlhaa
open Go.Cx Go.Cx.AV Go.ChangeShapes Go.WideShapes Go.ChangeAt Go.RowKit
set_option linter.unusedVariables false

theorem own : ownKnob Try.prog.godebug = none := by kernel_rfl
theorem laidOut : laidOutB Try.prog = true := by kernel_rfl

section
attribute [local irreducible] Tr.fold T_comptoirlaw23_JournalParts E_comptoirlaw23_JournalParts bodyK headC headL stepC stepL wpX callA M_comptoirlaw23_JournalParts L_comptoirlaw23_JournalParts b_comptoirlaw23_JournalParts
set_option maxRecDepth 100000 in
theorem law (ls : List AV) (h : WfArgs Try.prog 8 Try.f12.params.toList ls) : callA E_comptoirlaw23_JournalParts Try.f12 ls [] (fun r _ => r = .bool true) := by
  have hp : Try.f12.params.toList.map (shA Try.prog 8) = [.slice 1 (.slice 1 (.int .u8)), .slice 1 (.slice 1 (.int .u8)), .int .u8] := by kernel_rfl
  generalize hts : Try.f12.params.toList = ts at h hp
  match ts, ls, h, hp with
  | [t0, t1, t2], [a0, a1, a2], h, hp =>
    simp only [List.map_cons, List.map_nil, List.cons.injEq, and_true] at hp
    simp only [WfArgs, and_true] at h
    obtain ⟨p0, p1, p2⟩ := hp
    obtain ⟨q0, q1, q2⟩ := h
    rw [p0] at q0
    rw [p1] at q1
    rw [p2] at q2
    obtain ⟨x0, rfl, w0, v0⟩ := q0
    obtain ⟨x1, rfl, w1, v1⟩ := q1
    obtain ⟨n2, rfl, w2⟩ := q2
    have c : ∀ Rv : Bool → Prop, callA E_comptoirlaw23_JournalParts Try.f12 [.slice 1 (.slice 1 (.int .u8)) x0 .ro, .slice 1 (.slice 1 (.int .u8)) x1 .ro, .int .u8 n2] [] (outP (.leaf .bool) fun ls => Rv (getB (ls.getD 0 .junk))) = (T_comptoirlaw23_JournalParts x0 x1 n2).fold False (Sum.elim (L_comptoirlaw23_JournalParts x0 x1 n2 Rv) Rv) := fun Rv => by kernel_rfl
    have g : g_comptoirlaw23_JournalParts x0 x1 n2 = some true := by
      obtain ⟨A, rfl⟩ := wf_rows v0
      obtain ⟨B, rfl⟩ := wf_rows v1
      have h2 : 0 ≤ n2 ∧ n2 < 256 := by have := w2; simp [Lit.wf, IntKind.min, IntKind.max, IntKind.signed, IntKind.bits] at this; omega
      exact jparts_eq A B (by simpa using w0) (by simpa using w1) n2 h2.1 h2.2
    exact law_mach (step := M_comptoirlaw23_JournalParts x0 x1 n2) (T := T_comptoirlaw23_JournalParts x0 x1 n2) (L := L_comptoirlaw23_JournalParts x0 x1 n2) c (fun Rv => h_comptoirlaw23_JournalParts x0 x1 n2 Rv) g
end

set_option maxRecDepth 100000 in
theorem lifted (os : Os) (started : os.Started) (H : Type) (enc : TypeId × Value → H) :
    ReturnsInHanded {} Try.checked os 12 .any (Rows.journalPartsSpec.pre6 enc Try.prog Try.f12 Rows.journalPartsRow.domain false) (Rows.journalPartsSpec.post enc Try.prog Try.f12 false true false false) := by
  refine returnsInHanded_of_change (C := Try.checked) own started (by kernel_rfl) Try.func12
    (ChangeSpec.witness6 (enc := enc) (C := Try.checked) false ⟨#[], #[.slice none 0 0, .slice none 0 0, .int .u8 0], []⟩ 8 (by kernel_rfl) (by kernel_rfl) (by kernel_rfl) (by kernel_rfl)) ?_
  intro W base args ds gs before hval hW hcnd _
  exact law_end (E := E_comptoirlaw23_JournalParts) eok_comptoirlaw23_JournalParts mixed rfl Try.func12 (c := Try.f12.body.getD .skip) (by kernel_rfl) laidOut (by kernel_rfl) (tb := Try.f12.resultTypes.getD 0 0) (by kernel_rfl) (by kernel_rfl) law rfl
    (fun ds hl => by
      obtain ⟨d0, d1, d2, rfl⟩ : ∃ d0 d1 d2, ds = [d0, d1, d2] := by
        have : Try.f12.params.toList.length = 3 := by kernel_rfl
        rw [this] at hl
        match ds, hl with
        | [d0, d1, d2], _ => exact ⟨d0, d1, d2, rfl⟩
      rfl) hval hW

theorem over : Rows.journalPartsRow.holds Try.pinned (OpenSpec.ofChange Rows.journalPartsSpec) :=
  OpenClaim.holds_of_wide 12 Try.f12 rfl rfl rfl rfl rfl rfl rfl ⟨rfl, rfl, rfl, rfl, rfl⟩ rfl rfl rfl rfl rfl (by kernel_rfl) Try.func12 (by kernel_rfl)
    (of_decide_eq_true (by kernel_rfl)) (by unfold Func.isWrapper; first | (rw [if_pos (by decide +kernel)]; kernel_rfl) | (rw [if_neg (by decide +kernel)]; exact ⟨rfl, rfl⟩))
    (fun os started H enc _ => lifted os started H enc)

theorem proved : Rows.JournalPartsSaid := over

end Go.Proofs.Ytaejmfmamhdlhaa.JournalPartsDone
