/- Records that are torn. No condition beyond the given statement. -/
import Derived.Test.YtaejmfmamhdlhaaYbP11
import Derived.Test.YtaejmfmamhdlhaaCxAl
import Derived.Test.YtaejmfmamhdlhaaRows
import Derived.WalkKit
import Derived.ProofKit
import Derived.OpenShut
import Derived.ShutString
import Derived.ChangeOld
import Derived.Below
namespace Go.Proofs.Ytaejmfmamhdlhaa.JournalTornDone
open Go.Proofs.Ytaejmfmamhdlhaa
open Go.Cx Go.Cx.AV Go.ChangeShapes Go.WideShapes Go.ChangeAt Go.RowKit
set_option linter.unusedVariables false

theorem own : ownKnob Try.prog.godebug = none := by kernel_rfl
theorem laidOut : laidOutB Try.prog = true := by kernel_rfl

section
attribute [local irreducible] Tr.fold T_comptoirlaw23_JournalTorn E_comptoirlaw23_JournalTorn bodyK headC headL stepC stepL wpX callA M_comptoirlaw23_JournalTorn L_comptoirlaw23_JournalTorn b_comptoirlaw23_JournalTorn
set_option maxRecDepth 100000 in
theorem law (ls : List AV) (h : WfArgs Try.prog 8 Try.f11.params.toList ls) : callA E_comptoirlaw23_JournalTorn Try.f11 ls [] (fun r _ => r = .bool true) := by
  have hp : Try.f11.params.toList.map (shA Try.prog 8) = [.slice 1 (.slice 1 (.int .u8)), .int .i64, .int .i64] := by kernel_rfl
  generalize hts : Try.f11.params.toList = ts at h hp
  match ts, ls, h, hp with
  | [t0, t1, t2], [a0, a1, a2], h, hp =>
    simp only [List.map_cons, List.map_nil, List.cons.injEq, and_true] at hp
    simp only [WfArgs, and_true] at h
    obtain ⟨p0, p1, p2⟩ := hp
    obtain ⟨q0, q1, q2⟩ := h
    rw [p0] at q0
    rw [p1] at q1
    rw [p2] at q2
    obtain ⟨x0, rfl, w0, v0⟩ := q0
    obtain ⟨n1, rfl, w1⟩ := q1
    obtain ⟨n2, rfl, w2⟩ := q2
    have c : ∀ Rv : Bool → Prop, callA E_comptoirlaw23_JournalTorn Try.f11 [.slice 1 (.slice 1 (.int .u8)) x0 .ro, .int .i64 n1, .int .i64 n2] [] (outP (.leaf .bool) fun ls => Rv (getB (ls.getD 0 .junk))) = (T_comptoirlaw23_JournalTorn x0 n1 n2).fold False (Sum.elim (L_comptoirlaw23_JournalTorn x0 n1 n2 Rv) Rv) := fun Rv => by kernel_rfl
    have g : g_comptoirlaw23_JournalTorn x0 n1 n2 = some true := (by
      obtain ⟨A, rfl⟩ := wf_rows v0
      exact torn_eq A (by simpa using w0) n1 n2)
    exact law_mach (step := M_comptoirlaw23_JournalTorn x0 n1 n2) (T := T_comptoirlaw23_JournalTorn x0 n1 n2) (L := L_comptoirlaw23_JournalTorn x0 n1 n2) c (fun Rv => h_comptoirlaw23_JournalTorn x0 n1 n2 Rv) g
end

set_option maxRecDepth 100000 in
theorem lifted (os : Os) (started : os.Started) (H : Type) (enc : TypeId × Value → H) :
    ReturnsInHanded {} Try.checked os 11 .any (Rows.journalTornSpec.pre6 enc Try.prog Try.f11 Rows.journalTornRow.domain false) (Rows.journalTornSpec.post enc Try.prog Try.f11 false true false false) := by
  refine returnsInHanded_of_change (C := Try.checked) own started (by kernel_rfl) Try.func11
    (ChangeSpec.witness6 (enc := enc) (C := Try.checked) false ⟨#[], #[.slice none 0 0, .int .i64 0, .int .i64 0], []⟩ 8 (by kernel_rfl) (by kernel_rfl) (by kernel_rfl) (by kernel_rfl)) ?_
  intro W base args ds gs before hval hW hcnd _
  exact law_end (E := E_comptoirlaw23_JournalTorn) eok_comptoirlaw23_JournalTorn mixed rfl Try.func11 (c := Try.f11.body.getD .skip) (by kernel_rfl) laidOut (by kernel_rfl) (tb := Try.f11.resultTypes.getD 0 0) (by kernel_rfl) (by kernel_rfl) law rfl
    (fun ds hl => by
      obtain ⟨d0, d1, d2, rfl⟩ : ∃ d0 d1 d2, ds = [d0, d1, d2] := by
        have : Try.f11.params.toList.length = 3 := by kernel_rfl
        rw [this] at hl
        match ds, hl with
        | [d0, d1, d2], _ => exact ⟨d0, d1, d2, rfl⟩
      rfl) hval hW

theorem over : Rows.journalTornRow.holds Try.pinned (OpenSpec.ofChange Rows.journalTornSpec) :=
  OpenClaim.holds_of_wide 11 Try.f11 rfl rfl rfl rfl rfl rfl rfl ⟨rfl, rfl, rfl, rfl, rfl⟩ rfl rfl rfl rfl rfl (by kernel_rfl) Try.func11 (by kernel_rfl)
    (of_decide_eq_true (by kernel_rfl)) (by unfold Func.isWrapper; first | (rw [if_pos (by decide +kernel)]; kernel_rfl) | (rw [if_neg (by decide +kernel)]; exact ⟨rfl, rfl⟩))
    (fun os started H enc _ => lifted os started H enc)

theorem proved : Rows.JournalTornSaid := over

end Go.Proofs.Ytaejmfmamhdlhaa.JournalTornDone
