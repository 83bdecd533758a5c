/- The ends of laws. -/
import Derived.Test.YtfhgmpeplfjmcaaCxP
namespace Go.Cx
theorem outP_bool {K : Bool → Prop} {r : AV} {hp : List Ob} (h : outP (.leaf .bool) (fun ls => K (getB (ls.getD 0 .junk))) r hp) : ∃ b, r = .bool b ∧ K b := by
  unfold outP at h
  split at h
  · rename_i x hx
    obtain ⟨-, h2⟩ := chkP_inv h
    cases r <;> simp [mat, fit] at hx
    case bool b => subst hx; exact ⟨b, rfl, h2⟩
  · exact h.elim
theorem law_flat {E : En} {fn : Func} {as : List AV} {hp : List Ob} {T : Tr Bool} (hc : ∀ Rv : Bool → Prop, callA E fn as hp (outP (.leaf .bool) fun ls => Rv (getB (ls.getD 0 .junk))) = T.fold False Rv) (hx : T.val = some true) :
    callA E fn as hp (fun r _ => r = .bool true) := by
  refine callA_mono (fun y h hy => ?_) (Eq.mpr (hc (· = true)) (Tr.fold_P (R := (· = true)) rfl T hx))
  obtain ⟨b, rfl, rfl⟩ := outP_bool (K := (· = true)) hy
  rfl
theorem law_mach {E : En} {fn : Func} {σ : Type} {as : List AV} {hp : List Ob} {step : σ → Tr (σ ⊕ Bool)} {T : Tr (σ ⊕ Bool)} {L : (Bool → Prop) → σ → Prop}
    (hc : ∀ Rv : Bool → Prop, callA E fn as hp (outP (.leaf .bool) fun ls => Rv (getB (ls.getD 0 .junk))) = T.fold False (Sum.elim (L Rv) Rv)) (hl : ∀ Rv s, (step s).fold False (Sum.elim (L Rv) Rv) → L Rv s)
    (hx : run step T = some true) : callA E fn as hp (fun r _ => r = .bool true) := by
  obtain ⟨n, hn⟩ := run_some.1 hx
  refine callA_mono (fun y h hy => ?_) (Eq.mpr (hc (· = true)) (machine_sound (R := (· = true)) (hl _) rfl n T hn))
  obtain ⟨b, rfl, rfl⟩ := outP_bool (K := (· = true)) hy
  rfl
end Go.Cx
