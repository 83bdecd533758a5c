/- What comes behind an operation is carried along, whatever it is. -/
import Derived.Test.YtfhgmpeplfjmcaaCxN
namespace Go.Cx
noncomputable section
set_option linter.unusedSimpArgs false
section
variable {α β : Type} (φ : α → β) (bad : α) {P : Program}
theorem Tr.fold_hom {ρ : Type} (K : ρ → α) : ∀ t : Tr ρ, φ (t.fold bad K) = t.fold (φ bad) (fun x => φ (K x))
  | .bad => rfl
  | .r _ => rfl
  | .c b t e => by
    cases b
    · exact Tr.fold_hom K e
    · exact Tr.fold_hom K t
theorem ask_hom (b : Bool) (k : α) : φ (ask bad b k) = ask (φ bad) b (φ k) := by cases b <;> rfl
theorem cond_hom (b : Bool) (x y : α) : φ (cond b x y) = cond b (φ x) (φ y) := by cases b <;> rfl
theorem ite_hom (c : Prop) [Decidable c] (x y : α) : φ (if c then x else y) = if c then φ x else φ y := by split <;> rfl
theorem binA_hom (op : BinOp) (t : TypeId) (x y : AV) (K : AV → α) : φ (binA bad P op t x y K) = binA (φ bad) P op t x y (fun v => φ (K v)) := by
  unfold binA
  split
  · simp only [ask_hom φ]
  · simp only [ask_hom φ]
  · simp only [ite_hom φ]
    split
    · split <;> simp only [cond_hom φ]
    · rfl
  · split <;> simp only [ask_hom φ]
  · split <;> rfl
  · split <;> rfl
  · rfl
theorem unA_hom (op : UnOp) (x : AV) (K : AV → α) : φ (unA bad op x K) = unA (φ bad) op x (fun v => φ (K v)) := by
  unfold unA; split <;> rfl
theorem fromCells_hom (t : TypeId) (cs : List AV) (off : Nat) (K : AV → α) : φ (fromCells bad P t cs off K) = fromCells (φ bad) P t cs off (fun v => φ (K v)) := by
  unfold fromCells
  split
  · simp only [ite_hom φ]
  · simp only [ite_hom φ]
  · rfl
  · split <;> rfl
theorem grown_hom (hp : List Ob) (id ver len : Nat) (K : TypeId → Nat → Sh → List AV → α) : φ (grown bad hp id ver len K) = grown (φ bad) hp id ver len (fun t a b c => φ (K t a b c)) := by
  unfold grown; split
  · simp only [ask_hom φ]
  · rfl
theorem grownR_hom (hp : List Ob) (id ver len : Nat) (K : Nat → Sh → List AV → α) : φ (grownR bad hp id ver len K) = grownR (φ bad) hp id ver len (fun a b c => φ (K a b c)) := by
  unfold grownR; split
  · simp only [ask_hom φ]
  · simp only [ask_hom φ]
  · rfl
theorem loadA_hom (t : TypeId) (a : AV) (hp : List Ob) (K : AV → Cls → α) : φ (loadA bad P t a hp K) = loadA (φ bad) P t a hp (fun v c => φ (K v c)) := by
  unfold loadA
  split
  · split
    · simp only [fromCells_hom φ]
    · rfl
  · simp only [fromCells_hom φ]
  · simp only [grownR_hom φ, ask_hom φ, fromCells_hom φ]
  · rfl
theorem storeA_hom (t : TypeId) (a v : AV) (hp : List Ob) (K : List Ob → α) : φ (storeA bad P t a v hp K) = storeA (φ bad) P t a v hp (fun h => φ (K h)) := by
  unfold storeA
  simp only [ite_hom φ]
  split
  · split
    · split
      · simp only [ite_hom φ]
      · rfl
    · simp only [grown_hom φ, ask_hom φ]
      congr 1
      funext t a b c
      split
      · simp only [ite_hom φ]
      · rfl
    · rfl
  · rfl
theorem elems_hom (hp : List Ob) (x : AV) (K : Nat → Sh → List AV → Cls → α) : φ (elems bad hp x K) = elems (φ bad) hp x (fun a b c d => φ (K a b c d)) := by
  unfold elems; split <;> first | rfl | simp only [grownR_hom φ]
theorem cutA_hom (own : Bool) (esz : Nat) (x : AV) (lo hi : Option Int) (hp : List Ob) (K : AV → List Ob → Cls → α) : φ (cutA bad own esz x lo hi hp K) = cutA (φ bad) own esz x lo hi hp (fun a b c => φ (K a b c)) := by
  unfold cutA
  split <;> simp only [ask_hom φ, grown_hom φ, grownR_hom φ, ite_hom φ]
theorem optInt_hom (x : Option AV) (K : Option Int → α) : φ (optInt bad x K) = optInt (φ bad) x (fun a => φ (K a)) := by
  unfold optInt; split <;> rfl
theorem pickIx_hom (i : Int) (K : Nat → α) : ∀ n, φ (pickIx bad i K n) = pickIx (φ bad) i (fun a => φ (K a)) n
  | 0 => rfl
  | n + 1 => by simp only [pickIx, cond_hom φ, pickIx_hom i K n]
theorem indexAddrA_hom (t : TypeId) (x i : AV) (K : AV → α) : φ (indexAddrA bad P t x i K) = indexAddrA (φ bad) P t x i (fun a => φ (K a)) := by
  unfold indexAddrA
  split
  · split <;> first | rfl | (simp only [ite_hom φ, ask_hom φ, pickIx_hom φ])
  · rfl
theorem indexA_hom (t : TypeId) (x i : AV) (K : AV → α) : φ (indexA bad P t x i K) = indexA (φ bad) P t x i (fun a => φ (K a)) := by
  unfold indexA
  split
  · split <;> first | rfl | (simp only [ite_hom φ, ask_hom φ, pickIx_hom φ, fromCells_hom φ])
  · rfl
theorem fieldAddrA_hom (t : TypeId) (x : AV) (f : Nat) (K : AV → α) : φ (fieldAddrA bad P t x f K) = fieldAddrA (φ bad) P t x f (fun a => φ (K a)) := by
  unfold fieldAddrA
  split
  · split
    · simp only [ite_hom φ]
      split
      · rfl
      · split <;> rfl
    · rfl
  · rfl
theorem fieldA_hom (t : TypeId) (x : AV) (f : Nat) (K : AV → α) : φ (fieldA bad P t x f K) = fieldA (φ bad) P t x f (fun a => φ (K a)) := by
  unfold fieldA
  split
  · split
    · simp only [fromCells_hom φ]
    · rfl
  · rfl
theorem convA_hom (own : Bool) (src dst : TypeId) (x : AV) (hp : List Ob) (K : AV → List Ob → Cls → α) : φ (convA bad P own src dst x hp K) = convA (φ bad) P own src dst x hp (fun a b c => φ (K a b c)) := by
  unfold convA
  split
  · rfl
  · rfl
  · split
    · simp only [ite_hom φ]
    · rfl
  · split
    · simp only [ite_hom φ]
    · rfl
  · split
    · simp only [ite_hom φ]
    · rfl
  · split
    · simp only [ite_hom φ, grown_hom φ]
    · rfl
  · split
    · split
      · rfl
      · simp only [elems_hom φ, ite_hom φ]
    · rfl
  · rfl
theorem srcA_hom (hp : List Ob) (x : AV) (K : Option (Nat × Sh) → List AV → Cls → α) : φ (srcA bad hp x K) = srcA (φ bad) hp x (fun a b c => φ (K a b c)) := by
  unfold srcA; split <;> first | rfl | simp only [elems_hom φ]
theorem newGrow_hom (e : TypeId) (sz : Nat) (sh : Sh) (xs : List AV) (hp : List Ob) (K : AV → List Ob → Cls → α) : φ (newGrow bad P e sz sh xs hp K) = newGrow (φ bad) P e sz sh xs hp (fun a b c => φ (K a b c)) := by
  unfold newGrow; split
  · simp only [ite_hom φ, ask_hom φ]
  · rfl
theorem appendB_hom (t tx : TypeId) (s x : AV) (hp : List Ob) (K : AV → List Ob → Cls → α) : φ (appendB bad P t tx s x hp K) = appendB (φ bad) P t tx s x hp (fun a b c => φ (K a b c)) := by
  unfold appendB
  split
  · simp only [ite_hom φ, srcA_hom φ]
    split
    · rfl
    · congr 1
      funext how ys c
      split
      · split
        · simp only [newGrow_hom φ]
        · simp only [ite_hom φ, cond_hom φ, newGrow_hom φ]
        · simp only [ite_hom φ, cond_hom φ]
        · simp only [grown_hom φ, ite_hom φ]
          congr 1
          funext t a b c
          split
          · split
            · simp only [ite_hom φ, ask_hom φ]
            · rfl
          · rfl
        · rfl
      · rfl
  · rfl
theorem lenA_hom (t : TypeId) (x : AV) (K : AV → α) : φ (lenA bad P t x K) = lenA (φ bad) P t x (fun a => φ (K a)) := by
  unfold lenA; split <;> rfl
theorem capA_hom (t : TypeId) (x : AV) (K : AV → α) : φ (capA bad P t x K) = capA (φ bad) P t x (fun a => φ (K a)) := by
  unfold capA; split <;> rfl
theorem appendZ_hom (t : TypeId) (s x : AV) (hp : List Ob) (K : AV → List Ob → Cls → α) : φ (appendZ bad P t s x hp K) = appendZ (φ bad) P t s x hp (fun a b c => φ (K a b c)) := by
  unfold appendZ
  split
  · split
    · split
      · split
        · simp only [ask_hom φ, newGrow_hom φ]
        · rfl
      · rfl
    · rfl
  · rfl
theorem appendA_hom (t tx : TypeId) (s x : AV) (hp : List Ob) (K : AV → List Ob → Cls → α) : φ (appendA bad P t tx s x hp K) = appendA (φ bad) P t tx s x hp (fun a b c => φ (K a b c)) := by
  unfold appendA
  split
  · exact appendZ_hom φ bad t s x hp K
  · exact appendB_hom φ bad t tx s x hp K
theorem giveUpA_hom (x : AV) (hp : List Ob) (K : AV → List Ob → Cls → α) : φ (giveUpA bad x hp K) = giveUpA (φ bad) x hp (fun a b c => φ (K a b c)) := by
  unfold giveUpA
  split
  · simp only [ite_hom φ, grown_hom φ, grownR_hom φ]
  · rfl
mutual
theorem frzVA_hom : ∀ (x : AV) (hp : List Ob) (K : AV → List Ob → α), φ (frzVA bad x hp K) = frzVA (φ bad) x hp (fun a b => φ (K a b))
  | .oslice id ver len, hp, K => by unfold frzVA; simp only [giveUpA_hom φ]
  | .agg cs, hp, K => by unfold frzVA; exact frzVL_hom cs hp _
  | .tuple .., hp, K | .int .., hp, K | .bool .., hp, K | .str .., hp, K | .ptr .., hp, K | .nilptr, hp, K | .rptr .., hp, K | .nilsl, hp, K | .slice .., hp, K | .fslice .., hp, K | .optr .., hp, K
  | .func .., hp, K | .nilfunc, hp, K | .nilIface, hp, K | .junk, hp, K => by unfold frzVA; rfl
theorem frzVL_hom : ∀ (l : List AV) (hp : List Ob) (K : List AV → List Ob → α), φ (frzVL bad l hp K) = frzVL (φ bad) l hp (fun a b => φ (K a b))
  | [], hp, K => by unfold frzVL; rfl
  | x :: l, hp, K => by
    unfold frzVL
    rw [frzVA_hom x]
    congr 1; funext y hp
    exact frzVL_hom l hp _
end
theorem frzPs_hom : ∀ (l : List (Nat × AV)) (hp : List Ob) (K : List (Nat × AV) → List Ob → α), φ (frzPs bad l hp K) = frzPs (φ bad) l hp (fun a b => φ (K a b))
  | [], hp, K => by unfold frzPs; rfl
  | (i, x) :: l, hp, K => by
    unfold frzPs
    rw [frzVA_hom φ bad x]
    congr 1; funext y hp
    exact frzPs_hom l hp _
theorem buildSA_hom (own : Bool) (t : TypeId) (len : Nat) (ps : List (Nat × AV)) (hp : List Ob) (K : AV → List Ob → Cls → α) : φ (buildSA bad P own t len ps hp K) = buildSA (φ bad) P own t len ps hp (fun a b c => φ (K a b c)) := by
  unfold buildSA
  split
  · split
    · dsimp only
      split
      · split
        · simp only [ite_hom φ, newGrow_hom φ]
        · rfl
      · rfl
    · rfl
  · rfl
theorem builtinA_hom (b : Builtin) (ts : List TypeId) (args : List AV) (hp : List Ob) (K : AV → List Ob → Cls → α) : φ (builtinA bad P b ts args hp K) = builtinA (φ bad) P b ts args hp (fun a b c => φ (K a b c)) := by
  unfold builtinA
  split
  · simp only [lenA_hom φ]
  · simp only [capA_hom φ]
  · simp only [appendA_hom φ]
  · split <;> rfl
  · split <;> rfl
  · rfl
theorem callFn_hom (E : En) (f : FuncId) (args : List AV) (hp : List Ob) (K : AV → List Ob → Cls → α) : φ (callFn bad E f args hp K) = callFn (φ bad) E f args hp (fun a b c => φ (K a b c)) := by
  unfold callFn; split
  · rw [Tr.fold_hom φ]
  · rfl
theorem newFix_hom (ty : TypeId) (l : List (Nat × Nat × Sh)) (cs : List AV) (hp : List Ob) (K : AV → List Ob → Cls → α) : φ (newFix ty l cs hp K) = newFix ty l cs hp (fun a b c => φ (K a b c)) := rfl
theorem nilCheckA_hom (x : AV) (K : AV → α) : φ (nilCheckA bad x K) = nilCheckA (φ bad) x (fun a => φ (K a)) := by
  unfold nilCheckA; split <;> rfl
theorem opA_hom (E : En) (o : Oper) (fr : List AV) (hp : List Ob) (K : AV → List Ob → Cls → α) : φ (opA bad E o fr hp K) = opA (φ bad) E o fr hp (fun a b c => φ (K a b c)) := by
  unfold opA
  dsimp only
  generalize ownOf E o = ow
  generalize virtOf E o = vi
  split
  · simp only [ite_hom φ, giveUpA_hom φ]
  · simp only [ite_hom φ, giveUpA_hom φ]
  · split
    · simp only [cond_hom φ]
    · rfl
  · split
    · simp only [ite_hom φ, newFix_hom φ]
    · rfl
  · simp only [ite_hom φ, newFix_hom φ]
  · split
    · split
      · simp only [ite_hom φ]
        split
        · split <;> rfl
        · rfl
      · simp only [ite_hom φ]
        split
        · split <;> rfl
        · rfl
      · rfl
    · rfl
  · simp only [ite_hom φ, frzPs_hom φ, buildSA_hom φ]
  · simp only [loadA_hom φ]
  · simp only [storeA_hom φ]
  · simp only [nilCheckA_hom φ]
  · simp only [binA_hom φ]
  · simp only [unA_hom φ]
  · simp only [convA_hom φ]
  · rfl
  · split
    · split
      · split
        · simp only [ite_hom φ, ask_hom φ, newGrow_hom φ]
        · rfl
      · rfl
    · rfl
  · split
    · simp only [optInt_hom φ, cutA_hom φ]
    · rfl
    · rfl
    · simp only [ite_hom φ, optInt_hom φ, cutA_hom φ]
    · rfl
  · simp only [fieldAddrA_hom φ]
  · simp only [fieldA_hom φ]
  · simp only [indexAddrA_hom φ]
  · simp only [indexA_hom φ]
  · split
    · split <;> rfl
    · rfl
  · split
    · simp only [builtinA_hom φ]
    · split
      · simp only [callFn_hom φ]
      · rfl
    · rfl
  · rfl
end
def opF (E : En) (o : Oper) (fr : List AV) (hp : List Ob) : Option (AV × List Ob × Cls) := opA none E o fr hp fun v h c => some (v, h, c)
theorem opA_P {E : En} {o : Oper} {fr : List AV} {hp : List Ob} {K : AV → List Ob → Cls → Prop} (h : opA False E o fr hp K) : ∃ v hp' c, opF E o fr hp = some (v, hp', c) ∧ K v hp' c := by
  have := opA_hom (fun r : Option (AV × List Ob × Cls) => ∃ v hp' c, r = some (v, hp', c) ∧ K v hp' c) none E o fr hp (fun v h c => some (v, h, c))
  simp only [Option.some.injEq, Prod.mk.injEq, reduceCtorEq, false_and, exists_false] at this
  refine this.mpr ?_
  have e : (fun a b c => ∃ v hp' c', (a = v ∧ b = hp' ∧ c = c') ∧ K v hp' c') = K := by
    funext a b c
    apply propext
    constructor
    · rintro ⟨_, _, _, ⟨rfl, rfl, rfl⟩, hk⟩; exact hk
    · intro hk; exact ⟨_, _, _, ⟨rfl, rfl, rfl⟩, hk⟩
  rw [e]; exact h
end
end Go.Cx
