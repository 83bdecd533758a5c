/- The law DigitsBack holds of the given program, with what its row lists tied to the program's text. No condition beyond the given statement. -/
import Derived.Test.YtbgklljidmoahaaDoorYdP5
import Derived.Test.YtbgklljidmoahaaDoorCxAm
import Derived.Test.YtbgklljidmoahaaDoorRows
import Derived.Test.YtbgklljidmoahaaDoorTie
import Derived.Test.YtbgklljidmoahaaDoorCards
import Derived.Lay
import Derived.LaidOnce
import Derived.SevenTiedAt
import Derived.Stop.LaidErr
import Derived.Lib.AppendIntMem
import Derived.WalkKit
import Derived.ProofKit
import Derived.OpenShut
import Derived.ShutString
import Derived.ChangeOld
import Derived.Below
namespace Go.Proofs.YtbgklljidmoahaaDoor.DigitsBackDone
open Go.Proofs.YtbgklljidmoahaaDoor
open Go.Cx Go.Cx.AV Go.ChangeShapes Go.WideShapes Go.ChangeAt Go.RowKit
set_option linter.unusedVariables false

theorem own : ownKnob Tryd.prog.godebug = none := by kernel_rfl
theorem laidOut : laidOutB Tryd.prog = true := by kernel_rfl

section
attribute [local irreducible] Tr.fold T_comptoirlaw02_DigitsBack E_comptoirlaw02_DigitsBack bodyK headC headL stepC stepL wpX callA M_comptoirlaw02_DigitsBack L_comptoirlaw02_DigitsBack b_comptoirlaw02_DigitsBack
set_option maxRecDepth 100000 in
theorem law (ls : List AV) (h : WfArgs Tryd.prog 8 Tryd.f5.params.toList ls) : callA E_comptoirlaw02_DigitsBack Tryd.f5 ls [] (fun r _ => r = .bool true) := by
  have hp : Tryd.f5.params.toList.map (shA Tryd.prog 8) = [.int .u64, .int .i64, .str, .slice 1 (.int .u8)] := by kernel_rfl
  generalize hts : Tryd.f5.params.toList = ts at h hp
  match ts, ls, h, hp with
  | [t0, t1, t2, t3], [a0, a1, a2, a3], h, hp =>
    simp only [List.map_cons, List.map_nil, List.cons.injEq, and_true] at hp
    simp only [WfArgs, and_true] at h
    obtain ⟨p0, p1, p2, p3⟩ := hp
    obtain ⟨q0, q1, q2, q3⟩ := h
    rw [p0] at q0
    rw [p1] at q1
    rw [p2] at q2
    rw [p3] at q3
    obtain ⟨n0, rfl, w0⟩ := q0
    obtain ⟨n1, rfl, w1⟩ := q1
    obtain ⟨s2, rfl, w2⟩ := q2
    obtain ⟨b3, rfl, w3⟩ := wf_bytes q3
    have c : ∀ Rv : Bool → Prop, callA E_comptoirlaw02_DigitsBack Tryd.f5 [.int .u64 n0, .int .i64 n1, .str s2, .slice 1 (.int .u8) (bl b3) .ro] [] (outP (.leaf .bool) fun ls => Rv (getB (ls.getD 0 .junk))) = (T_comptoirlaw02_DigitsBack n0 n1 s2 (bl b3)).fold False (Sum.elim (L_comptoirlaw02_DigitsBack n0 n1 s2 (bl b3) Rv) Rv) := fun Rv => by kernel_rfl
    have g : g_comptoirlaw02_DigitsBack n0 n1 s2 (bl b3) = some true := by have hw := lit_u64 w0; obtain ⟨v, rfl⟩ := Int.eq_ofNat_of_zero_le hw.1; exact dback_eq v (by have := hw.2; omega) n1 s2 b3
    exact law_mach (step := M_comptoirlaw02_DigitsBack n0 n1 s2 (bl b3)) (T := T_comptoirlaw02_DigitsBack n0 n1 s2 (bl b3)) (L := L_comptoirlaw02_DigitsBack n0 n1 s2 (bl b3)) c (fun Rv => h_comptoirlaw02_DigitsBack n0 n1 s2 (bl b3) Rv) g
end

noncomputable abbrev tabNo : Nat := (Tryd.prog.globalNamed "internal/strconv.uint64pow10").getD 0
noncomputable abbrev tabTy : TypeId := ((Tryd.prog.globals[tabNo]?).map (·.type)).getD 0
noncomputable abbrev tabEl : TypeId := match Tryd.prog.underlying tabTy with | some (.array _ e) => e | _ => 0
theorem tabAt : Tryd.prog.globalNamed "internal/strconv.uint64pow10" = some tabNo := by kernel_rfl
theorem tab {W : World} (h : laidMetH Tryd.prog Rows.digitsBackRow.laid W) : Lib.TabIs Tryd.prog W "internal/strconv.uint64pow10" .u64 Lib.pow10Tab := by
  rw [MakeChecks.laidMetH_plain _ _ _ (by kernel_rfl)] at h
  have hL : laidMet Tryd.prog Rows.digitsBackRow.laid W := h
  exact Lib.tabIs_of_head (n := 20) (t := tabTy) (e := tabEl) tabAt (by kernel_rfl) (by kernel_rfl) (by kernel_rfl) (by kernel_rfl) (by kernel_rfl) hL.tail.tail

set_option maxRecDepth 100000 in
theorem lifted (os : Os) (started : os.Started) (H : Type) (enc : TypeId × Value → H) :
    ReturnsInHanded {} Tryd.checked os 5 .any (fun w args => (Rows.digitsBackSpec.pre enc Tryd.prog Tryd.f5 [] false w args ∧ laidMetH Tryd.prog Rows.digitsBackRow.laid w) ∧ sizedMet enc Tryd.prog Tryd.f5 (OpenSpec.ofChange Rows.digitsBackSpec) false w args)
      (Rows.digitsBackSpec.post enc Tryd.prog Tryd.f5 false true false false) := by
  refine returnsInHanded_of_change_and (C := Tryd.checked) (X := fun w _ => laidMetH Tryd.prog Rows.digitsBackRow.laid w) (fun _ _ _ hh h => h.of_heap hh) own started (by kernel_rfl) Tryd.func5
    (ChangeSpec.witness_shaped (enc := enc) (C := Tryd.checked) (os := os) (X := fun w _ => laidMetH Tryd.prog Rows.digitsBackRow.laid w) false (World.laidAll Tryd.prog os Rows.digitsBackRow.laid) #[.int .u64 0, .int .i64 0, .string .empty, .slice none 0 0] 8 (World.laidAll_os _ _ _)
      (World.shaped_of_ZipB (by kernel_rfl) (by kernel_rfl)) (by kernel_rfl) (by kernel_rfl) (by kernel_rfl)
      (by rw [MakeChecks.laidMetH_plain _ _ _ (by kernel_rfl)]; exact laidMet_laidAll _ (by kernel_rfl) (by kernel_rfl))) ?_
  intro W base args ds gs before hval hW _ _ hL _
  exact law_end (E := E_comptoirlaw02_DigitsBack) eok_comptoirlaw02_DigitsBack mixed rfl Tryd.func5 (c := Tryd.f5.body.getD .skip) (by kernel_rfl) laidOut (by kernel_rfl) (tb := Tryd.f5.resultTypes.getD 0 0) (by kernel_rfl) (by kernel_rfl) law rfl
    (fun ds hl => by
      obtain ⟨d0, d1, d2, d3, rfl⟩ : ∃ d0 d1 d2 d3, ds = [d0, d1, d2, d3] := by
        have : Tryd.f5.params.toList.length = 4 := by kernel_rfl
        rw [this] at hl
        match ds, hl with
        | [d0, d1, d2, d3], _ => exact ⟨d0, d1, d2, d3, rfl⟩
      rfl) hval hW
    (fun w hb m e => by
      obtain rfl := Option.some.inj (tabAt.symm.trans e)
      exact Lib.tabBelow_of_tabIs (tab hL) w hb)

theorem over : Rows.digitsBackRow.holds Tryd.pinned (OpenSpec.ofChange Rows.digitsBackSpec) :=
  OpenClaim.holds_of_wide 5 Tryd.f5 rfl rfl rfl rfl rfl rfl rfl ⟨rfl, rfl, rfl, rfl, rfl⟩ rfl rfl rfl rfl rfl (by kernel_rfl) Tryd.func5 (by kernel_rfl)
    (of_decide_eq_true (by kernel_rfl)) (by unfold Func.isWrapper; first | (rw [if_pos (by decide +kernel)]; kernel_rfl) | (rw [if_neg (by decide +kernel)]; exact ⟨rfl, rfl⟩))
    (fun os started H enc _ => lifted os started H enc)

theorem card : Claim7.holds Tryd.pinned (.plain (OpenSpec.ofChange Rows.digitsBackSpec)) Rows.digitsBackCard :=
  Claim7.holds_tied_plain_at .later [] [.data, .data, .data] true (true, "85836d0d8de19cf10b7780731cfe9db3682878c569674a3c2829ccd09708338c") false over (fun _ h => by cases h) (by kernel_rfl) (fun _ h => by cases h) digitsBack_row_tie rfl ⟨rfl, rfl⟩ (by kernel_rfl) rfl
    (fun f fn hf hfn => by
      obtain rfl : f = 5 := Option.some.inj ((show Tryd.prog.funcNamed "comptoir/comptoirlaw02.DigitsBack" = some 5 by kernel_rfl).symm.trans hf) |>.symm
      obtain rfl : fn = Tryd.f5 := (Option.some.inj (Tryd.func5.symm.trans hfn)).symm
      exact ⟨by kernel_rfl, fun j t ht => by
        have hm : t ∈ Tryd.f5.params.toList := by simpa using Array.mem_of_getElem? ht
        have hall : (Tryd.f5.params.toList.all fun u => !Tryd.prog.wantsStandIn u) = true := by kernel_rfl
        have := List.all_eq_true.1 hall t hm
        rw [Bool.not_eq_true'] at this
        exact this⟩)
    (by kernel_rfl)

theorem proved : Rows.DigitsBackCardSaid := card

end Go.Proofs.YtbgklljidmoahaaDoor.DigitsBackDone
