/- The law KeeperReads holds of the given program. No condition beyond the given statement. -/
import Derived.Test.YtgjgfmeepgiddaaGreatYkP5
import Derived.Test.YtgjgfmeepgiddaaGreatCxAm
import Derived.Test.YtgjgfmeepgiddaaGreatRows
import Derived.WalkKit
import Derived.ProofKit
import Derived.OpenShut
import Derived.ShutString
import Derived.ChangeOld
import Derived.Below
namespace Go.Proofs.YtgjgfmeepgiddaaGreat.KeeperReadsDone
open Go.Proofs.YtgjgfmeepgiddaaGreat
open Go.Cx Go.Cx.AV Go.ChangeShapes Go.WideShapes Go.ChangeAt Go.RowKit
set_option linter.unusedVariables false

theorem own : ownKnob Tryz.prog.godebug = none := by kernel_rfl
theorem laidOut : laidOutB Tryz.prog = true := by kernel_rfl
theorem noTab : Tryz.prog.globalNamed "internal/strconv.uint64pow10" = Option.none := by kernel_rfl

section
attribute [local irreducible] Tr.fold T_comptoirlaw25_KeeperReads E_comptoirlaw25_KeeperReads bodyK headC headL stepC stepL wpX callA
set_option maxRecDepth 100000 in
theorem law (ls : List AV) (h : WfArgs Tryz.prog 8 Tryz.f5.params.toList ls) : callA E_comptoirlaw25_KeeperReads Tryz.f5 ls [] (fun r _ => r = .bool true) := by
  have hp : Tryz.f5.params.toList.map (shA Tryz.prog 8) = [.int .u64, .int .u64, .int .i64, .int .u64] := by kernel_rfl
  generalize hts : Tryz.f5.params.toList = ts at h hp
  match ts, ls, h, hp with
  | [t0, t1, t2, t3], [a0, a1, a2, a3], h, hp =>
    simp only [List.map_cons, List.map_nil, List.cons.injEq, and_true] at hp
    simp only [WfArgs, and_true] at h
    obtain ⟨p0, p1, p2, p3⟩ := hp
    obtain ⟨q0, q1, q2, q3⟩ := h
    rw [p0] at q0
    rw [p1] at q1
    rw [p2] at q2
    rw [p3] at q3
    obtain ⟨n0, rfl, w0⟩ := q0
    obtain ⟨n1, rfl, w1⟩ := q1
    obtain ⟨n2, rfl, w2⟩ := q2
    obtain ⟨n3, rfl, w3⟩ := q3
    have c : ∀ Rv : Bool → Prop, callA E_comptoirlaw25_KeeperReads Tryz.f5 [.int .u64 n0, .int .u64 n1, .int .i64 n2, .int .u64 n3] [] (outP (.leaf .bool) fun ls => Rv (getB (ls.getD 0 .junk))) = (T_comptoirlaw25_KeeperReads n0 n1 n2 n3).fold False Rv := fun Rv => by kernel_rfl
    have g : g_comptoirlaw25_KeeperReads n0 n1 n2 n3 = some true := kreads_eq n0 n1 n2 n3 (lit_u64 w0) (lit_u64 w1) (lit_u64 w3)
    exact law_flat (T := T_comptoirlaw25_KeeperReads n0 n1 n2 n3) c g
end

set_option maxRecDepth 100000 in
theorem lifted (os : Os) (started : os.Started) (H : Type) (enc : TypeId × Value → H) :
    ReturnsInHanded {} Tryz.checked os 5 .any (Rows.keeperReadsSpec.pre6 enc Tryz.prog Tryz.f5 Rows.keeperReadsRow.domain false) (Rows.keeperReadsSpec.post enc Tryz.prog Tryz.f5 false true false false) := by
  refine returnsInHanded_of_change (C := Tryz.checked) own started (by kernel_rfl) Tryz.func5
    (ChangeSpec.witness6 (enc := enc) (C := Tryz.checked) false ⟨#[], #[.int .u64 0, .int .u64 0, .int .i64 0, .int .u64 0], []⟩ 8 (by kernel_rfl) (by kernel_rfl) (by kernel_rfl) (by kernel_rfl)) ?_
  intro W base args ds gs before hval hW hcnd _
  exact law_end (E := E_comptoirlaw25_KeeperReads) eok_comptoirlaw25_KeeperReads mixed rfl Tryz.func5 (c := Tryz.f5.body.getD .skip) (by kernel_rfl) laidOut (by kernel_rfl) (tb := Tryz.f5.resultTypes.getD 0 0) (by kernel_rfl) (by kernel_rfl) law rfl
    (fun ds hl => by
      obtain ⟨d0, d1, d2, d3, rfl⟩ : ∃ d0 d1 d2 d3, ds = [d0, d1, d2, d3] := by
        have : Tryz.f5.params.toList.length = 4 := by kernel_rfl
        rw [this] at hl
        match ds, hl with
        | [d0, d1, d2, d3], _ => exact ⟨d0, d1, d2, d3, rfl⟩
      rfl) hval hW (fun _ _ n e => by cases (noTab.symm.trans e))

theorem over : Rows.keeperReadsRow.holds Tryz.pinned (OpenSpec.ofChange Rows.keeperReadsSpec) :=
  OpenClaim.holds_of_wide 5 Tryz.f5 rfl rfl rfl rfl rfl rfl rfl ⟨rfl, rfl, rfl, rfl, rfl⟩ rfl rfl rfl rfl rfl (by kernel_rfl) Tryz.func5 (by kernel_rfl)
    (of_decide_eq_true (by kernel_rfl)) (by unfold Func.isWrapper; first | (rw [if_pos (by decide +kernel)]; kernel_rfl) | (rw [if_neg (by decide +kernel)]; exact ⟨rfl, rfl⟩))
    (fun os started H enc _ => lifted os started H enc)

theorem proved : Rows.KeeperReadsSaid := over

end Go.Proofs.YtgjgfmeepgiddaaGreat.KeeperReadsDone
