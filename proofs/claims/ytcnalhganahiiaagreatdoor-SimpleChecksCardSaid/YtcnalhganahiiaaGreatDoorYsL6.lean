/- The law SimpleChecks holds of the given program, with what its row lists tied to the program's text. No condition beyond the given statement. -/
import Derived.Test.YtcnalhganahiiaaGreatDoorYsP6
import Derived.Test.YtcnalhganahiiaaGreatDoorCxAm
import Derived.Test.YtcnalhganahiiaaGreatDoorRows
import Derived.Test.YtcnalhganahiiaaGreatDoorTie
import Derived.Test.YtcnalhganahiiaaGreatDoorCards
import Derived.Lay
import Derived.LaidOnce
import Derived.SevenTiedAt
import Derived.Stop.LaidErr
import Derived.Lib.AppendIntMem
import Derived.Lib.LaidU8T
import Derived.Shelf.Unicode.ValidAny
import Derived.Test.YtcnalhganahiiaaGreatDoorCxAw
import Derived.WalkKit
import Derived.ProofKit
import Derived.OpenShut
import Derived.ShutString
import Derived.ChangeOld
import Derived.Below
namespace Go.Proofs.YtcnalhganahiiaaGreatDoor.SimpleChecksDone
open Go.Proofs.YtcnalhganahiiaaGreatDoor
open Go.Cx Go.Cx.AV Go.ChangeShapes Go.WideShapes Go.ChangeAt Go.RowKit
set_option linter.unusedVariables false

theorem own : ownKnob Tryz.prog.godebug = none := by kernel_rfl
theorem laidOut : laidOutB Tryz.prog = true := by kernel_rfl

section
attribute [local irreducible] Tr.fold T_comptoirlaw10_SimpleChecks E_comptoirlaw10_SimpleChecks bodyK headC headL stepC stepL wpX callA M_comptoirlaw10_SimpleChecks L_comptoirlaw10_SimpleChecks b_comptoirlaw10_SimpleChecks
set_option maxRecDepth 100000 in
theorem law (ls : List AV) (h : WfArgs Tryz.prog 8 Tryz.f6.params.toList ls) : callA E_comptoirlaw10_SimpleChecks Tryz.f6 ls [] (fun r _ => r = .bool true) := by
  have hp : Tryz.f6.params.toList.map (shA Tryz.prog 8) = [.int .i64, .int .i64, .int .i64] := by kernel_rfl
  generalize hts : Tryz.f6.params.toList = ts at h hp
  match ts, ls, h, hp with
  | [t0, t1, t2], [a0, a1, a2], h, hp =>
    simp only [List.map_cons, List.map_nil, List.cons.injEq, and_true] at hp
    simp only [WfArgs, and_true] at h
    obtain ⟨p0, p1, p2⟩ := hp
    obtain ⟨q0, q1, q2⟩ := h
    rw [p0] at q0
    rw [p1] at q1
    rw [p2] at q2
    obtain ⟨n0, rfl, w0⟩ := q0
    obtain ⟨n1, rfl, w1⟩ := q1
    obtain ⟨n2, rfl, w2⟩ := q2
    have c : ∀ Rv : Bool → Prop, callA E_comptoirlaw10_SimpleChecks Tryz.f6 [.int .i64 n0, .int .i64 n1, .int .i64 n2] [] (outP (.leaf .bool) fun ls => Rv (getB (ls.getD 0 .junk))) = (T_comptoirlaw10_SimpleChecks n0 n1 n2).fold False (Sum.elim (L_comptoirlaw10_SimpleChecks n0 n1 n2 Rv) Rv) := fun Rv => by kernel_rfl
    have g : g_comptoirlaw10_SimpleChecks n0 n1 n2 = some true := schecks_eq n0 n1 n2
    exact law_mach (step := M_comptoirlaw10_SimpleChecks n0 n1 n2) (T := T_comptoirlaw10_SimpleChecks n0 n1 n2) (L := L_comptoirlaw10_SimpleChecks n0 n1 n2) c (fun Rv => h_comptoirlaw10_SimpleChecks n0 n1 n2 Rv) g
end

noncomputable abbrev tabNo : Nat := (Tryz.prog.globalNamed "internal/strconv.uint64pow10").getD 0
noncomputable abbrev tabTy : TypeId := ((Tryz.prog.globals[tabNo]?).map (·.type)).getD 0
noncomputable abbrev tabEl : TypeId := match Tryz.prog.underlying tabTy with | some (.array _ e) => e | _ => 0
theorem tabAt : Tryz.prog.globalNamed "internal/strconv.uint64pow10" = some tabNo := by kernel_rfl
theorem tab {W : World} (h : laidMetH Tryz.prog Rows.simpleChecksRow.laid W) : Lib.TabIs Tryz.prog W "internal/strconv.uint64pow10" .u64 Lib.pow10Tab := by
  rw [MakeChecks.laidMetH_plain _ _ _ (by kernel_rfl)] at h
  have hL : laidMet Tryz.prog Rows.simpleChecksRow.laid W := h
  exact Lib.tabIs_of_head (n := 20) (t := tabTy) (e := tabEl) tabAt (by kernel_rfl) (by kernel_rfl) (by kernel_rfl) (by kernel_rfl) (by kernel_rfl) hL.tail.tail

noncomputable abbrev maxNo : Nat := (Tryz.prog.globalNamed "internal/bytealg.MaxLen").getD 0
noncomputable abbrev maxTy : TypeId := ((Tryz.prog.globals[maxNo]?).map (·.type)).getD 0
noncomputable abbrev maxZ : Array Value := #[.int .i64 0]
theorem maxAt : Tryz.prog.globalNamed "internal/bytealg.MaxLen" = some maxNo := by kernel_rfl
theorem u8f : Tryz.prog.globalNamed "unicode/utf8.first" = some (Tryz.lays196_ren.g 3) := by kernel_rfl
theorem u8a : Tryz.prog.globalNamed "unicode/utf8.acceptRanges" = some (Tryz.lays196_ren.g 4) := by kernel_rfl
theorem u8e : Rows.laid_unicode_utf8_first = Lib.firstData := by kernel_rfl
theorem u8d : Rows.laid_unicode_utf8_acceptRanges = Lib.acceptData := by kernel_rfl
theorem tabs8 {W : World} (h : laidMetH Tryz.prog Rows.simpleChecksRow.laid W) : Lib.Utf8Tabs (Tryz.lays196_ren.g 3) (Tryz.lays196_ren.g 4) W := by
  rw [MakeChecks.laidMetH_plain _ _ _ (by kernel_rfl)] at h
  have hL : laidMet Tryz.prog Rows.simpleChecksRow.laid W := h
  exact utf8Tabs_of_readsT (U8Types.of196 Tryz.lays196) ⟨by kernel_rfl, by kernel_rfl, by kernel_rfl, by kernel_rfl, by kernel_rfl, by kernel_rfl, by kernel_rfl⟩ (Lib.laidMet.reads hL (by rw [← u8e]; exact (.tail _ (.tail _ (.tail _ (.tail _ (.head _))))))) (Lib.laidMet.reads hL (by rw [← u8d]; exact (.tail _ (.tail _ (.tail _ (.head _))))))

set_option maxRecDepth 100000 in
theorem lifted (os : Os) (started : os.Started) (H : Type) (enc : TypeId × Value → H) :
    ReturnsInHanded {} Tryz.checked os 6 .any (fun w args => (Rows.simpleChecksSpec.pre enc Tryz.prog Tryz.f6 [] false w args ∧ laidMetH Tryz.prog Rows.simpleChecksRow.laid w) ∧ sizedMet enc Tryz.prog Tryz.f6 (OpenSpec.ofChange Rows.simpleChecksSpec) false w args)
      (Rows.simpleChecksSpec.post enc Tryz.prog Tryz.f6 false true false false) := by
  refine returnsInHanded_of_change_and_shaped (C := Tryz.checked) (X := fun w _ => laidMetH Tryz.prog Rows.simpleChecksRow.laid w) (fun _ _ _ hh h => h.of_heap hh) own started (by kernel_rfl) Tryz.func6
    (ChangeSpec.witness_shaped (enc := enc) (C := Tryz.checked) (os := os) (X := fun w _ => laidMetH Tryz.prog Rows.simpleChecksRow.laid w) false (World.laidAll Tryz.prog os Rows.simpleChecksRow.laid) #[.int .i64 0, .int .i64 0, .int .i64 0] 8 (World.laidAll_os _ _ _)
      (World.shaped_of_ZipB (by kernel_rfl) (by kernel_rfl)) (by kernel_rfl) (by kernel_rfl) (by kernel_rfl)
      (by rw [MakeChecks.laidMetH_plain _ _ _ (by kernel_rfl)]; exact laidMet_laidAll _ (by kernel_rfl) (by kernel_rfl))) ?_
  intro W base args ds gs before hsh hval hW _ _ hL _
  exact law_end (E := E_comptoirlaw10_SimpleChecks) eok_comptoirlaw10_SimpleChecks mixed rfl Tryz.func6 (c := Tryz.f6.body.getD .skip) (by kernel_rfl) laidOut (by kernel_rfl) (tb := Tryz.f6.resultTypes.getD 0 0) (by kernel_rfl) (by kernel_rfl) law rfl
    (fun ds hl => by
      obtain ⟨d0, d1, d2, rfl⟩ : ∃ d0 d1 d2, ds = [d0, d1, d2] := by
        have : Tryz.f6.params.toList.length = 3 := by kernel_rfl
        rw [this] at hl
        match ds, hl with
        | [d0, d1, d2], _ => exact ⟨d0, d1, d2, rfl⟩
      rfl) hval hW
    (fun w hb => ⟨fun m e => by
      obtain rfl := Option.some.inj (tabAt.symm.trans e)
      exact Lib.tabBelow_of_tabIs (tab hL) w hb, fun m e => by
      obtain rfl := Option.some.inj (maxAt.symm.trans e)
      exact num_below (zero := maxZ) (t := maxTy) hsh (of_decide_eq_true (by kernel_rfl)) (by kernel_rfl) (by kernel_rfl) (by kernel_rfl) (by kernel_rfl) (by kernel_rfl) hb, fun n3 n4 e3 e4 => by
      obtain rfl := Option.some.inj (u8f.symm.trans e3)
      obtain rfl := Option.some.inj (u8a.symm.trans e4)
      exact Utf8Tabs_below (tabs8 hL) hb⟩)

theorem over : Rows.simpleChecksRow.holds Tryz.pinned (OpenSpec.ofChange Rows.simpleChecksSpec) :=
  OpenClaim.holds_of_wide 6 Tryz.f6 rfl rfl rfl rfl rfl rfl rfl ⟨rfl, rfl, rfl, rfl, rfl⟩ rfl rfl rfl rfl rfl (by kernel_rfl) Tryz.func6 (by kernel_rfl)
    (of_decide_eq_true (by kernel_rfl)) (by unfold Func.isWrapper; first | (rw [if_pos (by decide +kernel)]; kernel_rfl) | (rw [if_neg (by decide +kernel)]; exact ⟨rfl, rfl⟩))
    (fun os started H enc _ => lifted os started H enc)

theorem card : Claim7.holds Tryz.pinned (.plain (OpenSpec.ofChange Rows.simpleChecksSpec)) Rows.simpleChecksCard :=
  Claim7.holds_tied_plain_at .later [] [.data, .data, .data, .data, .pinned] true (true, "d94e36dc76e7627f1d80f25ad7d376f03d15cb7ad37b8bb4d3c9795a480a2e69") true over (fun _ h => by cases h) (by kernel_rfl) (fun _ h => by cases h) simpleChecks_row_tie rfl ⟨rfl, rfl⟩ (by kernel_rfl) rfl
    (fun f fn hf hfn => by
      obtain rfl : f = 6 := Option.some.inj ((show Tryz.prog.funcNamed "comptoir/comptoirlaw10.SimpleChecks" = some 6 by kernel_rfl).symm.trans hf) |>.symm
      obtain rfl : fn = Tryz.f6 := (Option.some.inj (Tryz.func6.symm.trans hfn)).symm
      exact ⟨by kernel_rfl, fun j t ht => by
        have hm : t ∈ Tryz.f6.params.toList := by simpa using Array.mem_of_getElem? ht
        have hall : (Tryz.f6.params.toList.all fun u => !Tryz.prog.wantsStandIn u) = true := by kernel_rfl
        have := List.all_eq_true.1 hall t hm
        rw [Bool.not_eq_true'] at this
        exact this⟩)
    (by kernel_rfl)

theorem proved : Rows.SimpleChecksCardSaid := card

end Go.Proofs.YtcnalhganahiiaaGreatDoor.SimpleChecksDone
