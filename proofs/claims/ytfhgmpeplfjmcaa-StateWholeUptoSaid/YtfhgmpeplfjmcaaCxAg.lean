/- Tables of summaries. -/
import Derived.Test.YtfhgmpeplfjmcaaCxAf
namespace Go.Cx
open Go.RowKit (Below)
def en (P : Program) (T : FuncId → Option Spec) (own : List Nat) (nm : List (Nat × Nm)) (virt : List (Nat × List (Nat × Nat × Sh))) (virtAt : List (Nat × List (Nat × Nat × Sh))) : En :=
  ⟨P, T, fun s => own.contains s, fun r => (nm.lookup r).getD {forget := [], weak := [], weakO := []}, 0, 0, false, fun r => (virt.lookup r).getD [], fun r => (virtAt.lookup r).getD []⟩
def TblOK (P : Program) (T : FuncId → Option Spec) : Prop := ∀ f s, T f = some s → Sound P f s
theorem TblOK.none (P : Program) : TblOK P (fun _ => none) := fun _ _ h => by simp at h
def addT (T : FuncId → Option Spec) (f : FuncId) (s : Spec) : FuncId → Option Spec := fun g => if g = f then some s else T g
theorem TblOK.add {P : Program} {T : FuncId → Option Spec} (h : TblOK P T) {f : FuncId} {s : Spec} (hs : Sound P f s) : TblOK P (addT T f s) := by
  intro g s' e
  unfold addT at e
  split at e
  · rename_i hg; subst hg; simp at e; subst e; exact hs
  · exact h g s' e
theorem TblOK.en {P : Program} {T : FuncId → Option Spec} (h : TblOK P T) (own : List Nat) (nm : List (Nat × Nm)) (virt virtAt : List (Nat × List (Nat × Nat × Sh))) : EnOK (Cx.en P T own nm virt virtAt) := h
def flatS (F : List AV → Option AV) : Spec := fun args hp => match F args with
  | some r => .r (r, hp, .pure)
  | none => .bad
theorem flatS_inv {F : List AV → Option AV} {args : List AV} {hp : List Ob} {r : AV} {hp' : List Ob} {c : Cls} (h : (flatS F args hp).val = some (r, hp', c)) : F args = some r ∧ hp' = hp ∧ c = .pure := by
  unfold flatS at h
  cases hF : F args with
  | none => rw [hF] at h; simp [Tr.val, Tr.fold] at h
  | some r' => rw [hF] at h; simp only [Tr.val, Tr.fold, Option.some.injEq, Prod.mk.injEq] at h; exact ⟨by rw [h.1], h.2.1.symm, h.2.2.symm⟩
theorem sound_contract {P : Program} {f : FuncId} {fn : Func} {c : Code} (hf : P.funcs[f]? = some fn) (hb : fn.body = some c) (hn : (fn.name == "runtime.NumGoroutine") = false) {F : List AV → Option AV}
    (h : ∀ args r, F args = some r → ∀ g w vs, VL g args vs → Calls P f vs.toArray w fun e w' => ∃ v, e = .returned v ∧ w' = w ∧ V g r v) : Sound P f (flatS F) where
  body := ⟨fn, c, hf, hb, hn⟩
  pure := by
    intro args hp r hp' hs
    obtain ⟨h1, rfl, -⟩ := flatS_inv hs
    exact ⟨rfl, fun h2 => by unfold flatS; rw [h1]; rfl⟩
  read := by
    intro args hp r hp' hs
    exact (flatS_inv hs).2.1
  heap := by
    intro args hp r hp' hs
    have := (flatS_inv hs).2.2
    simp at this
  calls := by
    intro args hp r hp' cl hs g w vs hR hv
    obtain ⟨h1, rfl, -⟩ := flatS_inv hs
    refine Calls.mono (h _ _ h1 g w vs hv) ?_
    rintro e w' ⟨v, rfl, rfl, hV⟩
    exact ⟨v, g, rfl, Gh.le.refl g, hR, hV⟩
end Go.Cx
