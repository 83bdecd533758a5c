/- CrcSeen: sealed bytes are opened as they were; one bit that is turned is seen, and so are two, and up to thirty-two within four bytes. No condition beyond the given statement. -/
import Derived.Test.YtaejmfmamhdlhaaYbP4
import Derived.Test.YtaejmfmamhdlhaaCxAl
import Derived.Test.YtaejmfmamhdlhaaRows
import Derived.WalkKit
import Derived.ProofKit
import Derived.OpenShut
import Derived.ShutString
import Derived.ChangeOld
import Derived.Below
namespace Go.Proofs.Ytaejmfmamhdlhaa.CrcSeenDone
open Go.Proofs.Ytaejmfmamhdlhaa
open Go.Cx Go.Cx.AV Go.ChangeShapes Go.WideShapes Go.ChangeAt Go.RowKit
set_option linter.unusedVariables false

theorem own : ownKnob Try.prog.godebug = none := by kernel_rfl
theorem laidOut : laidOutB Try.prog = true := by kernel_rfl

section
attribute [local irreducible] Tr.fold T_comptoirlaw05_CrcSeen E_comptoirlaw05_CrcSeen bodyK headC headL stepC stepL wpX callA M_comptoirlaw05_CrcSeen L_comptoirlaw05_CrcSeen b_comptoirlaw05_CrcSeen
set_option maxRecDepth 100000 in
theorem law (ls : List AV) (h : WfArgs Try.prog 8 Try.f4.params.toList ls) : callA E_comptoirlaw05_CrcSeen Try.f4 ls [] (fun r _ => r = .bool true) := by
  have hp : Try.f4.params.toList.map (shA Try.prog 8) = [.slice 1 (.int .u8), .int .i64, .int .i64, .int .u32] := by kernel_rfl
  generalize hts : Try.f4.params.toList = ts at h hp
  match ts, ls, h, hp with
  | [t0, t1, t2, t3], [a0, a1, a2, a3], h, hp =>
    simp only [List.map_cons, List.map_nil, List.cons.injEq, and_true] at hp
    simp only [WfArgs, and_true] at h
    obtain ⟨p0, p1, p2, p3⟩ := hp
    obtain ⟨q0, q1, q2, q3⟩ := h
    rw [p0] at q0
    rw [p1] at q1
    rw [p2] at q2
    rw [p3] at q3
    obtain ⟨b0, rfl, w0⟩ := wf_bytes q0
    obtain ⟨n1, rfl, w1⟩ := q1
    obtain ⟨n2, rfl, w2⟩ := q2
    obtain ⟨n3, rfl, w3⟩ := q3
    have c : ∀ Rv : Bool → Prop, callA E_comptoirlaw05_CrcSeen Try.f4 [.slice 1 (.int .u8) (bl b0) .ro, .int .i64 n1, .int .i64 n2, .int .u32 n3] [] (outP (.leaf .bool) fun ls => Rv (getB (ls.getD 0 .junk))) = (T_comptoirlaw05_CrcSeen (bl b0) n1 n2 n3).fold False (Sum.elim (L_comptoirlaw05_CrcSeen (bl b0) n1 n2 n3 Rv) Rv) := fun Rv => by kernel_rfl
    have g : g_comptoirlaw05_CrcSeen (bl b0) n1 n2 n3 = some true := by
      have h3 : 0 ≤ n3 ∧ n3 < 4294967296 := by have := w3; simp [Lit.wf, IntKind.min, IntKind.max, IntKind.signed, IntKind.bits] at this; omega
      exact seen_eq b0 n1 n2 n3 h3.1 h3.2
    exact law_mach (step := M_comptoirlaw05_CrcSeen (bl b0) n1 n2 n3) (T := T_comptoirlaw05_CrcSeen (bl b0) n1 n2 n3) (L := L_comptoirlaw05_CrcSeen (bl b0) n1 n2 n3) c (fun Rv => h_comptoirlaw05_CrcSeen (bl b0) n1 n2 n3 Rv) g
end

set_option maxRecDepth 100000 in
theorem lifted (os : Os) (started : os.Started) (H : Type) (enc : TypeId × Value → H) :
    ReturnsInHanded {} Try.checked os 4 .any (Rows.crcSeenSpec.pre6 enc Try.prog Try.f4 Rows.crcSeenRow.domain false) (Rows.crcSeenSpec.post enc Try.prog Try.f4 false true false false) := by
  refine returnsInHanded_of_change (C := Try.checked) own started (by kernel_rfl) Try.func4
    (ChangeSpec.witness6 (enc := enc) (C := Try.checked) false ⟨#[], #[.slice none 0 0, .int .i64 0, .int .i64 0, .int .u32 0], []⟩ 8 (by kernel_rfl) (by kernel_rfl) (by kernel_rfl) (by kernel_rfl)) ?_
  intro W base args ds gs before hval hW hcnd _
  exact law_end (E := E_comptoirlaw05_CrcSeen) eok_comptoirlaw05_CrcSeen mixed rfl Try.func4 (c := Try.f4.body.getD .skip) (by kernel_rfl) laidOut (by kernel_rfl) (tb := Try.f4.resultTypes.getD 0 0) (by kernel_rfl) (by kernel_rfl) law rfl
    (fun ds hl => by
      obtain ⟨d0, d1, d2, d3, rfl⟩ : ∃ d0 d1 d2 d3, ds = [d0, d1, d2, d3] := by
        have : Try.f4.params.toList.length = 4 := by kernel_rfl
        rw [this] at hl
        match ds, hl with
        | [d0, d1, d2, d3], _ => exact ⟨d0, d1, d2, d3, rfl⟩
      rfl) hval hW

theorem over : Rows.crcSeenRow.holds Try.pinned (OpenSpec.ofChange Rows.crcSeenSpec) :=
  OpenClaim.holds_of_wide 4 Try.f4 rfl rfl rfl rfl rfl rfl rfl ⟨rfl, rfl, rfl, rfl, rfl⟩ rfl rfl rfl rfl rfl (by kernel_rfl) Try.func4 (by kernel_rfl)
    (of_decide_eq_true (by kernel_rfl)) (by unfold Func.isWrapper; first | (rw [if_pos (by decide +kernel)]; kernel_rfl) | (rw [if_neg (by decide +kernel)]; exact ⟨rfl, rfl⟩))
    (fun os started H enc _ => lifted os started H enc)

theorem proved : Rows.CrcSeenSaid := over

end Go.Proofs.Ytaejmfmamhdlhaa.CrcSeenDone
