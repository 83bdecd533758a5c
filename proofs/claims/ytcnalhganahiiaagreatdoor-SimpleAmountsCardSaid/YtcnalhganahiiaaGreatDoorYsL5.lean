/- The law SimpleAmounts holds of the given program, with what its row lists tied to the program's text. No condition beyond the given statement. -/
import Derived.Test.YtcnalhganahiiaaGreatDoorYsP5
import Derived.Test.YtcnalhganahiiaaGreatDoorCxAm
import Derived.Test.YtcnalhganahiiaaGreatDoorRows
import Derived.Test.YtcnalhganahiiaaGreatDoorTie
import Derived.Test.YtcnalhganahiiaaGreatDoorCards
import Derived.Lay
import Derived.LaidOnce
import Derived.SevenTiedAt
import Derived.Stop.LaidErr
import Derived.Lib.AppendIntMem
import Derived.Test.YtcnalhganahiiaaGreatDoorCxAw
import Derived.WalkKit
import Derived.ProofKit
import Derived.OpenShut
import Derived.ShutString
import Derived.ChangeOld
import Derived.Below
namespace Go.Proofs.YtcnalhganahiiaaGreatDoor.SimpleAmountsDone
open Go.Proofs.YtcnalhganahiiaaGreatDoor
open Go.Cx Go.Cx.AV Go.ChangeShapes Go.WideShapes Go.ChangeAt Go.RowKit
set_option linter.unusedVariables false

theorem own : ownKnob Tryz.prog.godebug = none := by kernel_rfl
theorem laidOut : laidOutB Tryz.prog = true := by kernel_rfl

section
attribute [local irreducible] Tr.fold T_comptoirlaw10_SimpleAmounts E_comptoirlaw10_SimpleAmounts bodyK headC headL stepC stepL wpX callA
set_option maxRecDepth 100000 in
theorem law (ls : List AV) (h : WfArgs Tryz.prog 8 Tryz.f5.params.toList ls) : callA E_comptoirlaw10_SimpleAmounts Tryz.f5 ls [] (fun r _ => r = .bool true) := by
  have hp : Tryz.f5.params.toList.map (shA Tryz.prog 8) = [.int .u64] := by kernel_rfl
  generalize hts : Tryz.f5.params.toList = ts at h hp
  match ts, ls, h, hp with
  | [t0], [a0], h, hp =>
    simp only [List.map_cons, List.map_nil, List.cons.injEq, and_true] at hp
    simp only [WfArgs, and_true] at h
    have p0 := hp
    have q0 := h
    rw [p0] at q0
    obtain ⟨n0, rfl, w0⟩ := q0
    have c : ∀ Rv : Bool → Prop, callA E_comptoirlaw10_SimpleAmounts Tryz.f5 [.int .u64 n0] [] (outP (.leaf .bool) fun ls => Rv (getB (ls.getD 0 .junk))) = (T_comptoirlaw10_SimpleAmounts n0).fold False Rv := fun Rv => by kernel_rfl
    have g : g_comptoirlaw10_SimpleAmounts n0 = some true := by have hw := lit_u64 w0; obtain ⟨v, rfl⟩ := Int.eq_ofNat_of_zero_le hw.1; exact samounts_eq v (by have := hw.2; omega)
    exact law_flat (T := T_comptoirlaw10_SimpleAmounts n0) c g
end

noncomputable abbrev tabNo : Nat := (Tryz.prog.globalNamed "internal/strconv.uint64pow10").getD 0
noncomputable abbrev tabTy : TypeId := ((Tryz.prog.globals[tabNo]?).map (·.type)).getD 0
noncomputable abbrev tabEl : TypeId := match Tryz.prog.underlying tabTy with | some (.array _ e) => e | _ => 0
theorem tabAt : Tryz.prog.globalNamed "internal/strconv.uint64pow10" = some tabNo := by kernel_rfl
theorem tab {W : World} (h : laidMetH Tryz.prog Rows.simpleAmountsRow.laid W) : Lib.TabIs Tryz.prog W "internal/strconv.uint64pow10" .u64 Lib.pow10Tab := by
  rw [MakeChecks.laidMetH_plain _ _ _ (by kernel_rfl)] at h
  have hL : laidMet Tryz.prog Rows.simpleAmountsRow.laid W := h
  exact Lib.tabIs_of_head (n := 20) (t := tabTy) (e := tabEl) tabAt (by kernel_rfl) (by kernel_rfl) (by kernel_rfl) (by kernel_rfl) (by kernel_rfl) hL.tail.tail

noncomputable abbrev maxNo : Nat := (Tryz.prog.globalNamed "internal/bytealg.MaxLen").getD 0
noncomputable abbrev maxTy : TypeId := ((Tryz.prog.globals[maxNo]?).map (·.type)).getD 0
noncomputable abbrev maxZ : Array Value := #[.int .i64 0]
theorem maxAt : Tryz.prog.globalNamed "internal/bytealg.MaxLen" = some maxNo := by kernel_rfl
set_option maxRecDepth 100000 in
theorem lifted (os : Os) (started : os.Started) (H : Type) (enc : TypeId × Value → H) :
    ReturnsInHanded {} Tryz.checked os 5 .any (fun w args => (Rows.simpleAmountsSpec.pre enc Tryz.prog Tryz.f5 [] false w args ∧ laidMetH Tryz.prog Rows.simpleAmountsRow.laid w) ∧ sizedMet enc Tryz.prog Tryz.f5 (OpenSpec.ofChange Rows.simpleAmountsSpec) false w args)
      (Rows.simpleAmountsSpec.post enc Tryz.prog Tryz.f5 false true false false) := by
  refine returnsInHanded_of_change_and_shaped (C := Tryz.checked) (X := fun w _ => laidMetH Tryz.prog Rows.simpleAmountsRow.laid w) (fun _ _ _ hh h => h.of_heap hh) own started (by kernel_rfl) Tryz.func5
    (ChangeSpec.witness_shaped (enc := enc) (C := Tryz.checked) (os := os) (X := fun w _ => laidMetH Tryz.prog Rows.simpleAmountsRow.laid w) false (World.laidAll Tryz.prog os Rows.simpleAmountsRow.laid) #[.int .u64 0] 8 (World.laidAll_os _ _ _)
      (World.shaped_of_ZipB (by kernel_rfl) (by kernel_rfl)) (by kernel_rfl) (by kernel_rfl) (by kernel_rfl)
      (by rw [MakeChecks.laidMetH_plain _ _ _ (by kernel_rfl)]; exact laidMet_laidAll _ (by kernel_rfl) (by kernel_rfl))) ?_
  intro W base args ds gs before hsh hval hW _ _ hL _
  exact law_end (E := E_comptoirlaw10_SimpleAmounts) eok_comptoirlaw10_SimpleAmounts mixed rfl Tryz.func5 (c := Tryz.f5.body.getD .skip) (by kernel_rfl) laidOut (by kernel_rfl) (tb := Tryz.f5.resultTypes.getD 0 0) (by kernel_rfl) (by kernel_rfl) law rfl
    (fun ds hl => by
      obtain ⟨d0, rfl⟩ : ∃ d0, ds = [d0] := by
        have : Tryz.f5.params.toList.length = 1 := by kernel_rfl
        rw [this] at hl
        match ds, hl with
        | [d0], _ => exact ⟨d0, rfl⟩
      rfl) hval hW
    (fun w hb => ⟨fun m e => by
      obtain rfl := Option.some.inj (tabAt.symm.trans e)
      exact Lib.tabBelow_of_tabIs (tab hL) w hb, fun m e => by
      obtain rfl := Option.some.inj (maxAt.symm.trans e)
      exact num_below (zero := maxZ) (t := maxTy) hsh (of_decide_eq_true (by kernel_rfl)) (by kernel_rfl) (by kernel_rfl) (by kernel_rfl) (by kernel_rfl) (by kernel_rfl) hb⟩)

theorem over : Rows.simpleAmountsRow.holds Tryz.pinned (OpenSpec.ofChange Rows.simpleAmountsSpec) :=
  OpenClaim.holds_of_wide 5 Tryz.f5 rfl rfl rfl rfl rfl rfl rfl ⟨rfl, rfl, rfl, rfl, rfl⟩ rfl rfl rfl rfl rfl (by kernel_rfl) Tryz.func5 (by kernel_rfl)
    (of_decide_eq_true (by kernel_rfl)) (by unfold Func.isWrapper; first | (rw [if_pos (by decide +kernel)]; kernel_rfl) | (rw [if_neg (by decide +kernel)]; exact ⟨rfl, rfl⟩))
    (fun os started H enc _ => lifted os started H enc)

theorem card : Claim7.holds Tryz.pinned (.plain (OpenSpec.ofChange Rows.simpleAmountsSpec)) Rows.simpleAmountsCard :=
  Claim7.holds_tied_plain_at .later [] [.data, .data, .data, .data, .pinned] true (true, "d94e36dc76e7627f1d80f25ad7d376f03d15cb7ad37b8bb4d3c9795a480a2e69") true over (fun _ h => by cases h) (by kernel_rfl) (fun _ h => by cases h) simpleAmounts_row_tie rfl ⟨rfl, rfl⟩ (by kernel_rfl) rfl
    (fun f fn hf hfn => by
      obtain rfl : f = 5 := Option.some.inj ((show Tryz.prog.funcNamed "comptoir/comptoirlaw10.SimpleAmounts" = some 5 by kernel_rfl).symm.trans hf) |>.symm
      obtain rfl : fn = Tryz.f5 := (Option.some.inj (Tryz.func5.symm.trans hfn)).symm
      exact ⟨by kernel_rfl, fun j t ht => by
        have hm : t ∈ Tryz.f5.params.toList := by simpa using Array.mem_of_getElem? ht
        have hall : (Tryz.f5.params.toList.all fun u => !Tryz.prog.wantsStandIn u) = true := by kernel_rfl
        have := List.all_eq_true.1 hall t hm
        rw [Bool.not_eq_true'] at this
        exact this⟩)
    (by kernel_rfl)

theorem proved : Rows.SimpleAmountsCardSaid := card

end Go.Proofs.YtcnalhganahiiaaGreatDoor.SimpleAmountsDone
