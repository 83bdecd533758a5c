/- The law KeeperNil holds of the given program. No condition beyond the given statement. -/
import Derived.Test.YtgjgfmeepgiddaaGreatYkP4
import Derived.Test.YtgjgfmeepgiddaaGreatCxAm
import Derived.Test.YtgjgfmeepgiddaaGreatRows
import Derived.WalkKit
import Derived.ProofKit
import Derived.OpenShut
import Derived.ShutString
import Derived.ChangeOld
import Derived.Below
namespace Go.Proofs.YtgjgfmeepgiddaaGreat.KeeperNilDone
open Go.Proofs.YtgjgfmeepgiddaaGreat
open Go.Cx Go.Cx.AV Go.ChangeShapes Go.WideShapes Go.ChangeAt Go.RowKit
set_option linter.unusedVariables false

theorem own : ownKnob Tryz.prog.godebug = none := by kernel_rfl
theorem laidOut : laidOutB Tryz.prog = true := by kernel_rfl
theorem noTab : Tryz.prog.globalNamed "internal/strconv.uint64pow10" = Option.none := by kernel_rfl

section
attribute [local irreducible] Tr.fold T_comptoirlaw25_KeeperNil E_comptoirlaw25_KeeperNil bodyK headC headL stepC stepL wpX callA
set_option maxRecDepth 100000 in
theorem law (ls : List AV) (h : WfArgs Tryz.prog 8 Tryz.f4.params.toList ls) : callA E_comptoirlaw25_KeeperNil Tryz.f4 ls [] (fun r _ => r = .bool true) := by
  have hp : Tryz.f4.params.toList.map (shA Tryz.prog 8) = [.slice 38 (.agg [.int .i64, .int .u64, .int .i64, .int .i64, .int .i64, .int .i64, .int .i64, .int .i64, .int .i64, .int .u64, .int .i64, .int .i64, .str, .str, .str, .str, .int .u64, .str, .str, .str, .str, .int .i64, .str, .str, .int .i64, .str, .slice 2 (.agg [.int .i64, .slice 1 (.int .u8)]), .str, .str, .slice 2 (.agg [.str, .str]), .slice 2 (.agg [.int .i64, .slice 1 (.int .u8)]), .int .i64, .int .u64, .str, .str, .str, .slice 2 (.agg [.str, .str]), .slice 2 (.agg [.int .i64, .slice 1 (.int .u8)])])] := by kernel_rfl
  generalize hts : Tryz.f4.params.toList = ts at h hp
  match ts, ls, h, hp with
  | [t0], [a0], h, hp =>
    simp only [List.map_cons, List.map_nil, List.cons.injEq, and_true] at hp
    simp only [WfArgs, and_true] at h
    have p0 := hp
    have q0 := h
    rw [p0] at q0
    obtain ⟨x0, rfl, w0, v0⟩ := q0
    have c : ∀ Rv : Bool → Prop, callA E_comptoirlaw25_KeeperNil Tryz.f4 [.slice 38 (.agg [.int .i64, .int .u64, .int .i64, .int .i64, .int .i64, .int .i64, .int .i64, .int .i64, .int .i64, .int .u64, .int .i64, .int .i64, .str, .str, .str, .str, .int .u64, .str, .str, .str, .str, .int .i64, .str, .str, .int .i64, .str, .slice 2 (.agg [.int .i64, .slice 1 (.int .u8)]), .str, .str, .slice 2 (.agg [.str, .str]), .slice 2 (.agg [.int .i64, .slice 1 (.int .u8)]), .int .i64, .int .u64, .str, .str, .str, .slice 2 (.agg [.str, .str]), .slice 2 (.agg [.int .i64, .slice 1 (.int .u8)])]) x0 .ro] [] (outP (.leaf .bool) fun ls => Rv (getB (ls.getD 0 .junk))) = (T_comptoirlaw25_KeeperNil x0).fold False Rv := fun Rv => by kernel_rfl
    have g : g_comptoirlaw25_KeeperNil x0 = some true := knil_eq x0 v0 w0
    exact law_flat (T := T_comptoirlaw25_KeeperNil x0) c g
end

set_option maxRecDepth 100000 in
theorem lifted (os : Os) (started : os.Started) (H : Type) (enc : TypeId × Value → H) :
    ReturnsInHanded {} Tryz.checked os 4 .any (Rows.keeperNilSpec.pre6 enc Tryz.prog Tryz.f4 Rows.keeperNilRow.domain false) (Rows.keeperNilSpec.post enc Tryz.prog Tryz.f4 false true false false) := by
  refine returnsInHanded_of_change (C := Tryz.checked) own started (by kernel_rfl) Tryz.func4
    (ChangeSpec.witness6 (enc := enc) (C := Tryz.checked) false ⟨#[], #[.slice none 0 0], []⟩ 8 (by kernel_rfl) (by kernel_rfl) (by kernel_rfl) (by kernel_rfl)) ?_
  intro W base args ds gs before hval hW hcnd _
  exact law_end (E := E_comptoirlaw25_KeeperNil) eok_comptoirlaw25_KeeperNil mixed rfl Tryz.func4 (c := Tryz.f4.body.getD .skip) (by kernel_rfl) laidOut (by kernel_rfl) (tb := Tryz.f4.resultTypes.getD 0 0) (by kernel_rfl) (by kernel_rfl) law rfl
    (fun ds hl => by
      obtain ⟨d0, rfl⟩ : ∃ d0, ds = [d0] := by
        have : Tryz.f4.params.toList.length = 1 := by kernel_rfl
        rw [this] at hl
        match ds, hl with
        | [d0], _ => exact ⟨d0, rfl⟩
      rfl) hval hW (fun _ _ n e => by cases (noTab.symm.trans e))

theorem over : Rows.keeperNilRow.holds Tryz.pinned (OpenSpec.ofChange Rows.keeperNilSpec) :=
  OpenClaim.holds_of_wide 4 Tryz.f4 rfl rfl rfl rfl rfl rfl rfl ⟨rfl, rfl, rfl, rfl, rfl⟩ rfl rfl rfl rfl rfl (by kernel_rfl) Tryz.func4 (by kernel_rfl)
    (of_decide_eq_true (by kernel_rfl)) (by unfold Func.isWrapper; first | (rw [if_pos (by decide +kernel)]; kernel_rfl) | (rw [if_neg (by decide +kernel)]; exact ⟨rfl, rfl⟩))
    (fun os started H enc _ => lifted os started H enc)

theorem proved : Rows.KeeperNilSaid := over

end Go.Proofs.YtgjgfmeepgiddaaGreat.KeeperNilDone
