/- What comes behind an operation is carried along, whatever it is. -/
import Derived.Test.YtcnalhganahiiaaGreatDoorCxN
import Derived.Lib.LaidTab
import Derived.Lib.ItoaNum
import Derived.Lib.DecodeN
section
namespace Go.Cx
noncomputable section
set_option linter.unusedSimpArgs false
section
variable {α β : Type} (φ : α → β) (bad : α) {P : Program}
theorem Tr.fold_hom {ρ : Type} (K : ρ → α) : ∀ t : Tr ρ, φ (t.fold bad K) = t.fold (φ bad) (fun x => φ (K x))
  | .bad => rfl
  | .r _ => rfl
  | .c b t e => by
    cases b
    · exact Tr.fold_hom K e
    · exact Tr.fold_hom K t
theorem ask_hom (b : Bool) (k : α) : φ (ask bad b k) = ask (φ bad) b (φ k) := by cases b <;> rfl
theorem cond_hom (b : Bool) (x y : α) : φ (cond b x y) = cond b (φ x) (φ y) := by cases b <;> rfl
theorem ite_hom (c : Prop) [Decidable c] (x y : α) : φ (if c then x else y) = if c then φ x else φ y := by split <;> rfl
theorem binA_hom (op : BinOp) (t : TypeId) (x y : AV) (K : AV → α) : φ (binA bad P op t x y K) = binA (φ bad) P op t x y (fun v => φ (K v)) := by
  unfold binA
  split
  · simp only [ask_hom φ]
  · simp only [ask_hom φ]
  · simp only [ite_hom φ]
    split
    · split <;> simp only [cond_hom φ]
    · rfl
  · split <;> simp only [ask_hom φ]
  · split <;> rfl
  · split <;> rfl
  · rfl
theorem unA_hom (op : UnOp) (x : AV) (K : AV → α) : φ (unA bad op x K) = unA (φ bad) op x (fun v => φ (K v)) := by
  unfold unA; split <;> rfl
theorem fromCells_hom (t : TypeId) (cs : List AV) (off : Nat) (K : AV → α) : φ (fromCells bad P t cs off K) = fromCells (φ bad) P t cs off (fun v => φ (K v)) := by
  unfold fromCells
  split
  · simp only [ite_hom φ]
  · simp only [ite_hom φ]
  · rfl
  · split <;> rfl
theorem grown_hom (hp : List Ob) (id ver len : Nat) (K : TypeId → Nat → Sh → List AV → α) : φ (grown bad hp id ver len K) = grown (φ bad) hp id ver len (fun t a b c => φ (K t a b c)) := by
  unfold grown; split
  · simp only [ask_hom φ]
  · rfl
theorem grownR_hom (hp : List Ob) (id ver len : Nat) (K : Nat → Sh → List AV → α) : φ (grownR bad hp id ver len K) = grownR (φ bad) hp id ver len (fun a b c => φ (K a b c)) := by
  unfold grownR; split
  · simp only [ask_hom φ]
  · simp only [ask_hom φ]
  · rfl
theorem loadA_hom (t : TypeId) (a : AV) (hp : List Ob) (K : AV → Cls → α) : φ (loadA bad P t a hp K) = loadA (φ bad) P t a hp (fun v c => φ (K v c)) := by
  unfold loadA
  split
  · split
    · simp only [fromCells_hom φ]
    · rfl
  · simp only [fromCells_hom φ]
  · simp only [grownR_hom φ, ask_hom φ, fromCells_hom φ]
  · rfl
theorem storeA_hom (t : TypeId) (a v : AV) (hp : List Ob) (K : List Ob → α) : φ (storeA bad P t a v hp K) = storeA (φ bad) P t a v hp (fun h => φ (K h)) := by
  unfold storeA
  simp only [ite_hom φ]
  split
  · split
    · split
      · simp only [ite_hom φ]
      · rfl
    · simp only [grown_hom φ, ask_hom φ]
      congr 1
      funext t a b c
      split
      · simp only [ite_hom φ]
      · rfl
    · rfl
  · rfl
theorem elems_hom (hp : List Ob) (x : AV) (K : Nat → Sh → List AV → Cls → α) : φ (elems bad hp x K) = elems (φ bad) hp x (fun a b c d => φ (K a b c d)) := by
  unfold elems; split <;> first | rfl | simp only [grownR_hom φ]
theorem cutA_hom (own : Bool) (esz : Nat) (x : AV) (lo hi : Option Int) (hp : List Ob) (K : AV → List Ob → Cls → α) : φ (cutA bad own esz x lo hi hp K) = cutA (φ bad) own esz x lo hi hp (fun a b c => φ (K a b c)) := by
  unfold cutA
  split <;> simp only [ask_hom φ, grown_hom φ, grownR_hom φ, ite_hom φ]
theorem optInt_hom (x : Option AV) (K : Option Int → α) : φ (optInt bad x K) = optInt (φ bad) x (fun a => φ (K a)) := by
  unfold optInt; split <;> rfl
theorem pickIx_hom (i : Int) (K : Nat → α) : ∀ n, φ (pickIx bad i K n) = pickIx (φ bad) i (fun a => φ (K a)) n
  | 0 => rfl
  | n + 1 => by simp only [pickIx, cond_hom φ, pickIx_hom i K n]
theorem indexAddrA_hom (t : TypeId) (x i : AV) (K : AV → α) : φ (indexAddrA bad P t x i K) = indexAddrA (φ bad) P t x i (fun a => φ (K a)) := by
  unfold indexAddrA
  split
  · split <;> first | rfl | (simp only [ite_hom φ, ask_hom φ, pickIx_hom φ])
  · rfl
theorem indexA_hom (t : TypeId) (x i : AV) (K : AV → α) : φ (indexA bad P t x i K) = indexA (φ bad) P t x i (fun a => φ (K a)) := by
  unfold indexA
  split
  · split <;> first | rfl | (simp only [ite_hom φ, ask_hom φ, pickIx_hom φ, fromCells_hom φ])
  · rfl
theorem fieldAddrA_hom (t : TypeId) (x : AV) (f : Nat) (K : AV → α) : φ (fieldAddrA bad P t x f K) = fieldAddrA (φ bad) P t x f (fun a => φ (K a)) := by
  unfold fieldAddrA
  split
  · split
    · simp only [ite_hom φ]
      split
      · rfl
      · split <;> rfl
    · rfl
  · rfl
theorem fieldA_hom (t : TypeId) (x : AV) (f : Nat) (K : AV → α) : φ (fieldA bad P t x f K) = fieldA (φ bad) P t x f (fun a => φ (K a)) := by
  unfold fieldA
  split
  · split
    · simp only [fromCells_hom φ]
    · rfl
  · rfl
theorem convA_hom (own : Bool) (src dst : TypeId) (x : AV) (hp : List Ob) (K : AV → List Ob → Cls → α) : φ (convA bad P own src dst x hp K) = convA (φ bad) P own src dst x hp (fun a b c => φ (K a b c)) := by
  unfold convA
  split
  · rfl
  · rfl
  · split
    · simp only [ite_hom φ]
    · rfl
  · split
    · simp only [ite_hom φ]
    · rfl
  · split
    · simp only [ite_hom φ]
    · rfl
  · split
    · simp only [ite_hom φ, grown_hom φ]
    · rfl
  · split
    · split
      · rfl
      · simp only [elems_hom φ, ite_hom φ]
    · rfl
  · rfl
theorem srcA_hom (hp : List Ob) (x : AV) (K : Option (Nat × Sh) → List AV → Cls → α) : φ (srcA bad hp x K) = srcA (φ bad) hp x (fun a b c => φ (K a b c)) := by
  unfold srcA; split <;> first | rfl | simp only [elems_hom φ]
theorem newGrow_hom (e : TypeId) (sz : Nat) (sh : Sh) (xs : List AV) (hp : List Ob) (K : AV → List Ob → Cls → α) : φ (newGrow bad P e sz sh xs hp K) = newGrow (φ bad) P e sz sh xs hp (fun a b c => φ (K a b c)) := by
  unfold newGrow; split
  · simp only [ite_hom φ, ask_hom φ]
  · rfl
theorem appendB_hom (t tx : TypeId) (s x : AV) (hp : List Ob) (K : AV → List Ob → Cls → α) : φ (appendB bad P t tx s x hp K) = appendB (φ bad) P t tx s x hp (fun a b c => φ (K a b c)) := by
  unfold appendB
  split
  · simp only [ite_hom φ, srcA_hom φ]
    split
    · rfl
    · congr 1
      funext how ys c
      split
      · split
        · simp only [newGrow_hom φ]
        · simp only [ite_hom φ, cond_hom φ, newGrow_hom φ]
        · simp only [ite_hom φ, cond_hom φ]
        · simp only [grown_hom φ, ite_hom φ]
          congr 1
          funext t a b c
          split
          · split
            · simp only [ite_hom φ, ask_hom φ]
            · rfl
          · rfl
        · rfl
      · rfl
  · rfl
theorem lenA_hom (t : TypeId) (x : AV) (K : AV → α) : φ (lenA bad P t x K) = lenA (φ bad) P t x (fun a => φ (K a)) := by
  unfold lenA; split <;> rfl
theorem capA_hom (t : TypeId) (x : AV) (K : AV → α) : φ (capA bad P t x K) = capA (φ bad) P t x (fun a => φ (K a)) := by
  unfold capA; split <;> rfl
theorem appendZ_hom (t : TypeId) (s x : AV) (hp : List Ob) (K : AV → List Ob → Cls → α) : φ (appendZ bad P t s x hp K) = appendZ (φ bad) P t s x hp (fun a b c => φ (K a b c)) := by
  unfold appendZ
  split
  · split
    · split
      · split
        · simp only [ask_hom φ, newGrow_hom φ]
        · rfl
      · rfl
    · rfl
  · rfl
theorem appendA_hom (t tx : TypeId) (s x : AV) (hp : List Ob) (K : AV → List Ob → Cls → α) : φ (appendA bad P t tx s x hp K) = appendA (φ bad) P t tx s x hp (fun a b c => φ (K a b c)) := by
  unfold appendA
  split
  · exact appendZ_hom φ bad t s x hp K
  · exact appendB_hom φ bad t tx s x hp K
theorem giveUpA_hom (x : AV) (hp : List Ob) (K : AV → List Ob → Cls → α) : φ (giveUpA bad x hp K) = giveUpA (φ bad) x hp (fun a b c => φ (K a b c)) := by
  unfold giveUpA
  split
  · simp only [ite_hom φ, grown_hom φ, grownR_hom φ]
  · rfl
mutual
theorem frzVA_hom : ∀ (x : AV) (hp : List Ob) (K : AV → List Ob → α), φ (frzVA bad x hp K) = frzVA (φ bad) x hp (fun a b => φ (K a b))
  | .oslice id ver len, hp, K => by unfold frzVA; simp only [giveUpA_hom φ]
  | .agg cs, hp, K => by unfold frzVA; exact frzVL_hom cs hp _
  | .tuple .., hp, K | .int .., hp, K | .bool .., hp, K | .str .., hp, K | .ptr .., hp, K | .nilptr, hp, K | .rptr .., hp, K | .nilsl, hp, K | .slice .., hp, K | .fslice .., hp, K | .optr .., hp, K
  | .func .., hp, K | .nilfunc, hp, K | .nilIface, hp, K | .junk, hp, K => by unfold frzVA; rfl
theorem frzVL_hom : ∀ (l : List AV) (hp : List Ob) (K : List AV → List Ob → α), φ (frzVL bad l hp K) = frzVL (φ bad) l hp (fun a b => φ (K a b))
  | [], hp, K => by unfold frzVL; rfl
  | x :: l, hp, K => by
    unfold frzVL
    rw [frzVA_hom x]
    congr 1; funext y hp
    exact frzVL_hom l hp _
end
theorem frzPs_hom : ∀ (l : List (Nat × AV)) (hp : List Ob) (K : List (Nat × AV) → List Ob → α), φ (frzPs bad l hp K) = frzPs (φ bad) l hp (fun a b => φ (K a b))
  | [], hp, K => by unfold frzPs; rfl
  | (i, x) :: l, hp, K => by
    unfold frzPs
    rw [frzVA_hom φ bad x]
    congr 1; funext y hp
    exact frzPs_hom l hp _
theorem buildSA_hom (own : Bool) (t : TypeId) (len : Nat) (ps : List (Nat × AV)) (hp : List Ob) (K : AV → List Ob → Cls → α) : φ (buildSA bad P own t len ps hp K) = buildSA (φ bad) P own t len ps hp (fun a b c => φ (K a b c)) := by
  unfold buildSA
  split
  · split
    · dsimp only
      split
      · split
        · simp only [ite_hom φ, newGrow_hom φ]
        · rfl
      · rfl
    · rfl
  · rfl
theorem builtinA_hom (b : Builtin) (ts : List TypeId) (args : List AV) (hp : List Ob) (K : AV → List Ob → Cls → α) : φ (builtinA bad P b ts args hp K) = builtinA (φ bad) P b ts args hp (fun a b c => φ (K a b c)) := by
  unfold builtinA
  split
  · simp only [lenA_hom φ]
  · simp only [capA_hom φ]
  · simp only [appendA_hom φ]
  · split <;> rfl
  · split <;> rfl
  · rfl
theorem callFn_hom (E : En) (f : FuncId) (args : List AV) (hp : List Ob) (K : AV → List Ob → Cls → α) : φ (callFn bad E f args hp K) = callFn (φ bad) E f args hp (fun a b c => φ (K a b c)) := by
  unfold callFn; split
  · rw [Tr.fold_hom φ]
  · rfl
theorem newFix_hom (ty : TypeId) (l : List (Nat × Nat × Sh)) (cs : List AV) (hp : List Ob) (K : AV → List Ob → Cls → α) : φ (newFix ty l cs hp K) = newFix ty l cs hp (fun a b c => φ (K a b c)) := rfl
theorem nilCheckA_hom (x : AV) (K : AV → α) : φ (nilCheckA bad x K) = nilCheckA (φ bad) x (fun a => φ (K a)) := by
  unfold nilCheckA; split <;> rfl
theorem opA_hom (E : En) (o : Oper) (fr : List AV) (hp : List Ob) (K : AV → List Ob → Cls → α) : φ (opA bad E o fr hp K) = opA (φ bad) E o fr hp (fun a b c => φ (K a b c)) := by
  unfold opA
  dsimp only
  generalize ownOf E o = ow
  generalize virtOf E o = vi
  split
  · simp only [ite_hom φ, giveUpA_hom φ]
  · simp only [ite_hom φ, giveUpA_hom φ]
  · split
    · simp only [cond_hom φ]
    · rfl
  · split
    · simp only [ite_hom φ, newFix_hom φ]
    · rfl
  · simp only [ite_hom φ, newFix_hom φ]
  · split
    · split
      · simp only [ite_hom φ]
        split
        · split <;> rfl
        · rfl
      · simp only [ite_hom φ]
        split
        · split <;> rfl
        · rfl
      · rfl
    · rfl
  · simp only [ite_hom φ, frzPs_hom φ, buildSA_hom φ]
  · simp only [loadA_hom φ]
  · simp only [storeA_hom φ]
  · simp only [nilCheckA_hom φ]
  · simp only [binA_hom φ]
  · simp only [unA_hom φ]
  · simp only [convA_hom φ]
  · rfl
  · split
    · split
      · split
        · simp only [ite_hom φ, ask_hom φ, newGrow_hom φ]
        · rfl
      · rfl
    · rfl
  · split
    · simp only [optInt_hom φ, cutA_hom φ]
    · rfl
    · rfl
    · simp only [ite_hom φ, optInt_hom φ, cutA_hom φ]
    · rfl
  · simp only [fieldAddrA_hom φ]
  · simp only [fieldA_hom φ]
  · simp only [indexAddrA_hom φ]
  · simp only [indexA_hom φ]
  · split
    · split <;> rfl
    · rfl
  · split
    · simp only [builtinA_hom φ]
    · split
      · simp only [callFn_hom φ]
      · rfl
    · rfl
  · rfl
end
def opF (E : En) (o : Oper) (fr : List AV) (hp : List Ob) : Option (AV × List Ob × Cls) := opA none E o fr hp fun v h c => some (v, h, c)
theorem opA_P {E : En} {o : Oper} {fr : List AV} {hp : List Ob} {K : AV → List Ob → Cls → Prop} (h : opA False E o fr hp K) : ∃ v hp' c, opF E o fr hp = some (v, hp', c) ∧ K v hp' c := by
  have := opA_hom (fun r : Option (AV × List Ob × Cls) => ∃ v hp' c, r = some (v, hp', c) ∧ K v hp' c) none E o fr hp (fun v h c => some (v, h, c))
  simp only [Option.some.injEq, Prod.mk.injEq, reduceCtorEq, false_and, exists_false] at this
  refine this.mpr ?_
  have e : (fun a b c => ∃ v hp' c', (a = v ∧ b = hp' ∧ c = c') ∧ K v hp' c') = K := by
    funext a b c
    apply propext
    constructor
    · rintro ⟨_, _, _, ⟨rfl, rfl, rfl⟩, hk⟩; exact hk
    · intro hk; exact ⟨_, _, _, ⟨rfl, rfl, rfl⟩, hk⟩
  rw [e]; exact h
end
end Go.Cx

end

section
namespace Go.Cx
open Go.RowKit (Below)
set_option linter.unusedSimpArgs false
def LocC (s : Spec) (args : List AV) (hp : List Ob) (r : AV) (hp' : List Ob) : Prop := ∀ P : Nat → Prop, (∀ i ∈ idsL args, P i) → (∀ i o, hp[i]? = some o → P i → ∀ j ∈ idsO o, P j) →
  ∀ h2 : List Ob, h2.length = hp.length → (∀ i, P i → h2[i]? = hp[i]?) → ∃ h2', (s args h2).val = some (r, h2', .heap) ∧ h2'.length = hp'.length ∧ (∀ i, P i ∨ hp.length ≤ i → h2'[i]? = hp'[i]?) ∧ (∀ i, ¬ P i → i < hp.length → h2'[i]? = h2[i]?)
def Lay (P : Program) (w : World) : Prop := (∀ n, P.globalNamed "internal/strconv.uint64pow10" = some n → Lib.TabIs P w "internal/strconv.uint64pow10" .u64 Lib.pow10Tab) ∧
  (∀ n, P.globalNamed "internal/bytealg.MaxLen" = some n → ∃ m, w.cell? ⟨n, 0, none⟩ = some (.int .i64 m)) ∧
  ∀ n3 n4, P.globalNamed "unicode/utf8.first" = some n3 → P.globalNamed "unicode/utf8.acceptRanges" = some n4 →
    (∀ c, c < 256 → w.cell? ⟨n3, c, none⟩ = some (.int .u8 (Lib.firstT c))) ∧
    (∀ i, i < 16 → w.cell? ⟨n4, 2 * i, none⟩ = some (.int .u8 (Lib.accLo i)) ∧ w.cell? ⟨n4, 2 * i + 1, none⟩ = some (.int .u8 (Lib.accHi i)))
def LayAt (P : Program) (g : Gh) : Prop := ∀ w, Below g.base g.w0 w → Lay P w
theorem LayAt.le {P : Program} {g g' : Gh} (h : LayAt P g) (hle : g.le g') : LayAt P g' := fun w hw => h w (by rw [hle.base, hle.w0] at hw; exact hw)
theorem LayAt.now {P : Program} {g : Gh} {w : World} {hp : List Ob} (h : LayAt P g) (hr : R g w hp) : Lay P w := h w hr.below
theorem LayAt.on {P : Program} {g : Gh} {w w' : World} {hp : List Ob} (h : LayAt P g) (hr : R g w hp) (hb : Below w.heap.size w w') : Lay P w' := h w' (hr.below.trans (hb.mono hr.base))
structure Sound (P : Program) (f : FuncId) (s : Spec) : Prop where
  body : ∃ fn c, P.funcs[f]? = some fn ∧ fn.body = some c ∧ (fn.name == "runtime.NumGoroutine") = false
  pure : ∀ args hp r hp', (s args hp).val = some (r, hp', .pure) → hp' = hp ∧ ∀ h2, (s args h2).val = some (r, h2, .pure)
  read : ∀ args hp r hp', (s args hp).val = some (r, hp', .read) → hp' = hp
  heap : ∀ args hp r hp', (s args hp).val = some (r, hp', .heap) → LocC s args hp r hp'
  calls : ∀ args hp r hp' c, (s args hp).val = some (r, hp', c) → ∀ g w vs, LayAt P g → R g w hp → VL g args vs →
    Calls P f vs.toArray w fun e w' => ∃ v g', e = .returned v ∧ g.le g' ∧ R g' w' hp' ∧ V g' r v
def EnOK (E : En) : Prop := ∀ f s, E.tbl f = some s → Sound E.P f s
section
variable {P : Program} {g : Gh} {w : World} {hp : List Ob}
theorem foldA_min {v : AV} : ∀ {x : AV} {l : List AV}, foldA min2A x l = some v → ∀ {cx : Value} {cl : List Value}, V g x cx → VL g l cl → ∃ cv, (cl.foldlM Builtin.min2 cx).run P w = .ok cv w ∧ V g v cv
  | x, [], h, cx, cl, hx, hl => by
    simp [foldA] at h; subst h
    rw [hl.nil_inv]
    exact ⟨cx, rfl, hx⟩
  | x, y :: l, h, cx, cl, hx, hl => by
    obtain ⟨cy, cl', rfl, h1, h2⟩ := hl.cons_inv
    simp only [foldA] at h
    split at h
    · rename_i z hz
      unfold min2A at hz
      split at hz <;> simp at hz
      subst hz
      cases int_inv hx; cases int_inv h1
      obtain ⟨cv, hr, hV⟩ := foldA_min h (.int _ _) h2
      exact ⟨cv, by simpa [List.foldlM_cons, Builtin.min2] using hr, hV⟩
    · simp at h
theorem foldA_max {v : AV} : ∀ {x : AV} {l : List AV}, foldA max2A x l = some v → ∀ {cx : Value} {cl : List Value}, V g x cx → VL g l cl → ∃ cv, (cl.foldlM Builtin.max2 cx).run P w = .ok cv w ∧ V g v cv
  | x, [], h, cx, cl, hx, hl => by
    simp [foldA] at h; subst h
    rw [hl.nil_inv]
    exact ⟨cx, rfl, hx⟩
  | x, y :: l, h, cx, cl, hx, hl => by
    obtain ⟨cy, cl', rfl, h1, h2⟩ := hl.cons_inv
    simp only [foldA] at h
    split at h
    · rename_i z hz
      unfold max2A at hz
      split at hz <;> simp at hz
      subst hz
      cases int_inv hx; cases int_inv h1
      obtain ⟨cv, hr, hV⟩ := foldA_max h (.int _ _) h2
      exact ⟨cv, by simpa [List.foldlM_cons, Builtin.max2] using hr, hV⟩
    · simp at h
theorem unA_sound {op : UnOp} {x v : AV} (h : unA none op x some = some v) {cx : Value} (hx : V g x cx) : ∃ cv, (Op.unary op cx).run P w = .ok cv w ∧ V g v cv := by
  unfold unA at h
  split at h
  · cases int_inv hx; simp at h; subst h
    exact ⟨_, by simp [Op.unary, Op.intArith], .int _ _⟩
  · cases int_inv hx; simp at h; subst h
    exact ⟨_, bits_run .xor _ _ _ (by simp), .int _ _⟩
  · cases bool_inv hx; simp at h; subst h
    exact ⟨_, by simp [Op.unary], .bool _⟩
  · simp at h
theorem ptr_inv {id off : Nat} {v : Value} (h : V g (.ptr id off) v) : ∃ ad, v = .pointer (some ad) := by cases h; exact ⟨_, rfl⟩
theorem rptr_inv {cs : List AV} {v : Value} (h : V g (.rptr cs) v) : ∃ ad, v = .pointer (some ad) := by cases h; exact ⟨_, rfl⟩
theorem optr_inv {a b c d e f : Nat} {v : Value} (h : V g (.optr a b c d e f) v) : ∃ ad, v = .pointer (some ad) := by cases h; exact ⟨_, rfl⟩
theorem func_inv {f : FuncId} {a b : List AV} {v : Value} (h : V g (.func f a b) v) : ∃ f vs ws, v = .func (.func f) vs ws := by cases h; exact ⟨_, _, _, rfl⟩
theorem wp_value {o : Oper} {a : Act} {next : Act → World → Prop} {Q : Exit → Act → World → Prop} {s : Sem Value} (he : execOp a.eval o = (do pure (.value (← s)) : Sem Next)) {v : AV} {hp' : List Ob}
    (hd : Does P g w s v hp') (hk : ∀ g' w' cv, g.le g' → R g' w' hp' → V g' v cv → next (a.put o.dst cv) w') : o.wp P a w next Q := by
  obtain ⟨cv, w', g', hr, hle, hR, hV⟩ := hd
  unfold Oper.wp
  rw [he]
  simp only [Sem.run_bind, hr, Result.andThen_ok, Sem.run_pure]
  exact hk g' w' cv hle hR hV
theorem does_of (h : R g w hp) {s : Sem Value} {v : AV} (hs : ∃ cv, s.run P w = .ok cv w ∧ V g v cv) : Does P g w s v hp := by
  obtain ⟨cv, hr, hV⟩ := hs; exact Does.pure h hr hV
theorem unpack {α : Type} {f : Option α → Prop} {x : Option α} (h : f x) (h0 : ¬ f none) : ∃ v, x = some v ∧ f (some v) := by
  cases x with
  | none => exact absurd h h0
  | some v => exact ⟨v, rfl, h⟩
theorem one_of {F : {α : Type} → α → (AV → α) → α} (hom : ∀ {α β : Type} (φ : α → β) (bad : α) (K : AV → α), φ (F bad K) = F (φ bad) (fun v => φ (K v))) {r : AV × List Ob × Cls} {c : AV → Option (AV × List Ob × Cls)}
    (h : F none c = some r) : ∃ v, F none some = some v ∧ c v = some r := by
  have := hom (fun o : Option AV => o.bind c) none some
  simp only [Option.bind_none, Option.bind_some] at this
  rw [← this] at h
  cases hx : (F none some : Option AV) with
  | none => rw [hx] at h; simp at h
  | some v => rw [hx] at h; exact ⟨v, rfl, h⟩
end
theorem val_of {X : Option AV} {hp hp' : List Ob} {v : AV} {c : Cls} (h : (X.bind fun v => some (v, hp, Cls.pure)) = some (v, hp', c)) : X = some v ∧ hp' = hp ∧ c = .pure := by
  cases X with
  | none => simp at h
  | some x => simp at h; exact ⟨by rw [h.1], h.2.1.symm, h.2.2.symm⟩
theorem bd_of {α : Type} {g : Gh} {lo : Option AV} {K : Option Int → Option α} {r : α} (h : optInt none lo K = some r) {clo : Option Value} (hl : (lo = none ∧ clo = none) ∨ ∃ a v, lo = some a ∧ clo = some v ∧ V g a v) : ∃ i, Bd i clo ∧ K i = some r := by
  unfold optInt at h
  split at h
  · rcases hl with ⟨_, rfl⟩ | ⟨a, v, hh, _⟩
    · exact ⟨none, rfl, h⟩
    · simp at hh
  · rcases hl with ⟨hh, _⟩ | ⟨a, v, hh, rfl, hV⟩
    · simp at hh
    · simp at hh; subst hh
      cases int_inv hV
      exact ⟨some _, ⟨_, rfl⟩, h⟩
  · simp at h
theorem opt_V {g : Gh} {fr : List AV} {a : Act} (hfr : VL g fr a.tmps.toList) (o : Option Operand) : (o.map (evalA fr) = none ∧ o.map a.eval = none) ∨ ∃ x v, o.map (evalA fr) = some x ∧ o.map a.eval = some v ∧ V g x v := by
  cases o with
  | none => exact .inl ⟨rfl, rfl⟩
  | some x => exact .inr ⟨_, _, rfl, rfl, eval_V hfr x⟩
theorem Tr.fold_val {ρ α : Type} (bad : α) (K : ρ → α) : ∀ t : Tr ρ, t.fold bad K = match t.val with | some x => K x | none => bad
  | .bad => rfl
  | .r _ => rfl
  | .c b t e => by
    cases b
    · exact Tr.fold_val bad K e
    · exact Tr.fold_val bad K t
section
variable {P : Program} {g : Gh} {w : World} {hp : List Ob}
theorem virtL_sound : ∀ (l : List (Nat × Nat × Sh)) {g : Gh} {cs : List AV} {hp : List Ob} {vs : List Value}, R g w hp → VL g cs vs →
    ∃ g', g.le g' ∧ R g' w (virtL l (cs, hp)).2 ∧ VL g' (virtL l (cs, hp)).1 vs ∧ (cs.all oneCell = true → (virtL l (cs, hp)).1.all oneCell = true) ∧ hp.length ≤ (virtL l (cs, hp)).2.length
  | [], g, cs, hp, vs, h, hv => ⟨g, Gh.le.refl g, h, hv, fun e => e, Nat.le_refl _⟩
  | (i, ty, sh) :: l, g, cs, hp, vs, h, hv => by
    simp only [virtL]
    split
    · rename_i hi
      split
      · exact virtL_sound l h hv
      · rename_i h0
        obtain ⟨g1, l1, l2, l3⟩ := h.addVirt ty (sz := sh.width) (by omega) sh (i / 1000000)
        obtain ⟨v, e1, e2⟩ := hv.get hi
        have e2 : v = .slice none 0 0 := by cases e2; rfl
        subst e2
        have hv1 := (hv.mono l1).set (i % 1000000) (V.oslice0 _ _ _ l2 (Hdr.refl _ _ _ _))
        have e3 : vs.set (i % 1000000) (.slice none 0 0) = vs := by
          apply List.ext_getElem?
          intro j
          rw [List.getElem?_set]
          split
          · rename_i e; rw [← e]
            rw [e1]; simp [length_of_get e1]
          · rfl
        rw [e3] at hv1
        obtain ⟨g2, k1, k2, k3, k4, k5⟩ := virtL_sound l l3 hv1
        refine ⟨g2, l1.trans k1, k2, k3, fun e => k4 ?_, by simp at k5; omega⟩
        rw [List.all_eq_true] at e ⊢
        intro c hc
        rcases List.mem_or_eq_of_mem_set hc with hc | rfl
        · exact e c hc
        · rfl
    · exact virtL_sound l h hv
theorem newFix_sound (h : R g w hp) {cs : List AV} {cx : Value} (hv : VL g cs cx.cells.toList) (h1 : cs.all oneCell = true) (t : TypeId) (l : List (Nat × Nat × Sh)) :
    ∃ g', g.le g' ∧ R g' (w.alloc (.cells cx.cells t)) ((virtL l (cs, hp)).2 ++ [.fix t (virtL l (cs, hp)).1]) ∧ V g' (.ptr (virtL l (cs, hp)).2.length 0) (.pointer (some ⟨w.heap.size, 0, none⟩)) := by
  obtain ⟨g1, k1, k2, k3, k4, -⟩ := virtL_sound l h hv
  obtain ⟨f1, f2⟩ := k2.fresh
  have hb : (w.alloc (.cells cx.cells t)).heap[w.heap.size]? = some (.cells cx.cells t (0, 0)) := heap_new _ _
  obtain ⟨g', hle, hblk, hR⟩ := (k2.alloc (.cells cx.cells t)).addFix hb k2.newFree f1 f2 k3 (fun c hc => List.all_eq_true.1 (k4 h1) c hc) (fun o ho => frozen_new hb)
  exact ⟨g', k1.trans hle, hR, .ptr _ _ _ hblk⟩
end
theorem newGrow_cps {β : Type} {P : Program} {e : TypeId} {sz : Nat} {sh : Sh} {xs : List AV} {hp : List Ob} {K : AV → List Ob → Cls → Option β} {r : β} (h : newGrow none P e sz sh xs hp K = some r) :
    ∃ v hp' c, newGrow none P e sz sh xs hp (fun v h c => some (v, h, c)) = some (v, hp', c) ∧ K v hp' c = some r := by
  have := newGrow_hom (fun r : Option (AV × List Ob × Cls) => r.bind fun x => K x.1 x.2.1 x.2.2) none (P := P) e sz sh xs hp (fun v h c => some (v, h, c))
  simp only [Option.bind_none, Option.bind_some] at this
  rw [← this, Option.bind_eq_some_iff] at h
  obtain ⟨⟨v, hp', c⟩, h1, h2⟩ := h
  exact ⟨v, hp', c, h1, h2⟩
theorem buildSA_sound {β : Type} {P : Program} {g : Gh} {w : World} {hp : List Ob} (h : R g w hp) {own : Bool} {t : TypeId} {len : Nat} {parts : Array (Nat × Operand)} {a : Act} {ps : List (Nat × AV)} (hps : PO g ps (parts.map fun p => (p.1, a.eval p.2)).toList)
    {K : AV → List Ob → Cls → Option β} {r : β} (hop : buildSA none P own t len ps hp K = some r) : ∃ v hp' c, Does P g w (Instr.buildSlice t len (parts.map fun p => (p.1, a.eval p.2))) v hp' ∧ K v hp' c = some r := by
  unfold buildSA at hop
  split at hop
  · rename_i e ht
    split at hop
    · rename_i zs hz
      dsimp only at hop
      split at hop
      · rename_i cs hf
        split at hop
        · rename_i xs hx
          split at hop
          · rename_i hc
            obtain ⟨w', vs, hrun, hbel, hb, hvl, hlen, hsz, hel⟩ := buildSlice_sound h ht hps hz hf hx hc
            have hlim : len < LIM := by have := hc.1; have := hc.2.1; have : len ≤ len * sizeA P e := Nat.le_mul_of_pos_right _ hc.2.1; unfold LIM; omega
            split at hop
            · obtain ⟨v, hp', c, hop, hk⟩ := newGrow_cps hop
              refine ⟨v, hp', c, ?_, hk⟩
              obtain ⟨z, hz, hzl, h0, hlim', rfl, rfl, rfl⟩ := newGrow_inv hop
              obtain ⟨g', hle, hR, hV⟩ := grow_new h hbel hb (c := len) (sz := sizeA P e) (sh := shA P 8 e) (xs := xs) hsz h0 (by rw [hlen]; exact Nat.le_refl _) (by rw [hlen, List.take_of_length_le (by simp; rw [hsz]; exact Nat.le_refl _)]; exact hvl) hel (by rw [hlen]; exact hlim)
              rw [hlen] at hV ⊢
              exact ⟨_, w', g', hrun, hle, hR, hV⟩
            · refine ⟨_, _, _, ?_, hop⟩
              obtain ⟨g', hle, hR, hat⟩ := h.addImm hbel hb
              refine ⟨_, w', g', hrun, hle, hR, ?_⟩
              have hv := hvl.mono hle
              have : V g' (.fslice (sizeA P e) (shA P 8 e) xs []) (.slice (some ⟨w.heap.size, 0, none⟩) xs.length (xs ++ []).length) :=
                .fslice _ _ _ _ vs.toList w.heap.size 0 (by rw [List.append_nil]; exact hv.1) (by rw [List.append_nil]; exact hv.2) hat (by rw [List.append_nil]; exact hel) (by rw [List.append_nil, hlen]; exact (LIM_TOP hlim))
              rw [List.append_nil, hlen] at this
              exact this
          · simp at hop
        · simp at hop
      · simp at hop
    · simp at hop
  · simp at hop
theorem opF_wp {E : En} (hE : EnOK E) {g : Gh} (hL : LayAt E.P g) {w : World} {hp : List Ob} (h : R g w hp) {fr : List AV} {a : Act} (hfr : VL g fr a.tmps.toList) {o : Oper} {v : AV} {hp' : List Ob} {c : Cls} (hop : opF E o fr hp = some (v, hp', c))
    {next : Act → World → Prop} {Q : Exit → Act → World → Prop} (hk : ∀ g' w' cv, g.le g' → R g' w' hp' → V g' v cv → next (a.put o.dst cv) w') : o.wp E.P a w next Q := by
  unfold opF opA at hop
  dsimp only at hop
  generalize ownOf E o = ow at hop
  generalize virtOf E o = vi at hop
  split at hop
  · -- move
    rename_i x he
    split at hop
    · exact wp_value (s := Pure.pure (a.eval x)) (by simp [execOp, he]) (giveUp_sound h hop (eval_V hfr x) rfl) hk
    · simp only [Option.some.injEq, Prod.mk.injEq] at hop; obtain ⟨rfl, rfl, rfl⟩ := hop
      refine wp_value (s := Pure.pure (a.eval x)) (by simp [execOp, he]) (Does.pure h rfl (eval_V hfr x)) hk
  · rename_i x he
    split at hop
    · exact wp_value (s := Pure.pure (a.eval x)) (by simp [execOp, he]) (giveUp_sound h hop (eval_V hfr x) rfl) hk
    · simp only [Option.some.injEq, Prod.mk.injEq] at hop; obtain ⟨rfl, rfl, rfl⟩ := hop
      refine wp_value (s := Pure.pure (a.eval x)) (by simp [execOp, he]) (Does.pure h rfl (eval_V hfr x)) hk
  · -- pick
    rename_i x y z he
    split at hop
    · rename_i t ht
      have hb := eval_V hfr x
      rw [ht] at hb
      have hb := bool_inv hb
      refine wp_value (s := Pure.pure (if t then a.eval y else a.eval z)) (by simp [execOp, he, hb, asBool]) ?_ hk
      cases t
      · simp only [cond_false, Option.some.injEq, Prod.mk.injEq] at hop; obtain ⟨rfl, rfl, rfl⟩ := hop
        exact Does.pure h rfl (eval_V hfr z)
      · simp only [cond_true, Option.some.injEq, Prod.mk.injEq] at hop; obtain ⟨rfl, rfl, rfl⟩ := hop
        exact Does.pure h rfl (eval_V hfr y)
    · simp at hop
  · -- alloc
    rename_i t he
    split at hop
    · rename_i z hz
      split at hop
      · rename_i h1
        simp only [newFix, Option.some.injEq, Prod.mk.injEq] at hop; obtain ⟨rfl, rfl, rfl⟩ := hop
        obtain ⟨_, cz, _, _, hV, hrun⟩ := zero_run (g := g) (w := w) hz
        obtain ⟨g', hle, hR, hV'⟩ := newFix_sound h (cells_V hV h1).1 h1 t vi
        refine wp_value (s := Instr.alloc t true (.tuple #[])) (by simp [execOp, he]) ⟨_, _, g', ?_, hle, hR, hV'⟩ hk
        simp only [Instr.alloc, Sem.run_bind, hrun, Result.andThen_ok, newVar_run, Sem.run_pure]
      · simp at hop
    · simp at hop
  · -- box
    rename_i t x he
    split at hop
    · rename_i h1
      simp only [newFix, Option.some.injEq, Prod.mk.injEq] at hop; obtain ⟨rfl, rfl, rfl⟩ := hop
      obtain ⟨g', hle, hR, hV'⟩ := newFix_sound h (cells_V (eval_V hfr x) h1).1 h1 t vi
      refine wp_value (s := Instr.box t (a.eval x)) (by simp [execOp, he]) ⟨_, _, g', ?_, hle, hR, hV'⟩ hk
      simp only [Instr.box, Sem.run_bind, Result.andThen_ok, newVar_run, Sem.run_pure]
    · simp at hop
  · -- build
    rename_i t parts he
    split at hop
    · rename_i z hz
      refine wp_value (s := Instr.build t (parts.map fun p => (p.1, a.eval p.2))) (by simp [execOp, he]) ?_ hk
      split at hop
      · rename_i l ht
        split at hop
        · rename_i hT
          split at hop
          · rename_i cs hf
            simp only [Option.some.injEq, Prod.mk.injEq] at hop; obtain ⟨rfl, rfl, rfl⟩ := hop
            exact build_sound h hfr hz (.inl ⟨l, ht, hT, hf⟩)
          · simp at hop
        · simp at hop
      · rename_i n e ht
        split at hop
        · rename_i hT
          split at hop
          · rename_i cs hf
            simp only [Option.some.injEq, Prod.mk.injEq] at hop; obtain ⟨rfl, rfl, rfl⟩ := hop
            exact build_sound h hfr hz (.inr ⟨n, e, ht, hT, hf⟩)
          · simp at hop
        · simp at hop
      · simp at hop
    · simp at hop
  · -- buildSlice
    rename_i t len parts he
    refine wp_value (s := Instr.buildSlice t len (parts.map fun p => (p.1, a.eval p.2))) (by simp [execOp, he]) ?_ hk
    split at hop
    · obtain ⟨g1, ps1, hp1, i1, i2, i3, hop⟩ := frzPs_sound _ hop h (parts_ok hfr parts)
      obtain ⟨v2, hp2, c2, ⟨cv, w', g', d1, d2, d3, d4⟩, e2⟩ := buildSA_sound i2 i3 hop
      simp only [Option.some.injEq, Prod.mk.injEq] at e2; obtain ⟨rfl, rfl, rfl⟩ := e2
      exact ⟨cv, w', g', d1, i1.trans d2, d3, d4⟩
    · obtain ⟨v2, hp2, c2, d, e2⟩ := buildSA_sound h (parts_ok hfr parts) hop
      simp only [Option.some.injEq, Prod.mk.injEq] at e2; obtain ⟨rfl, rfl, rfl⟩ := e2
      exact d
  · -- load
    rename_i t x he
    have hom := fun {α β : Type} (φ : α → β) (bad : α) (K : AV → Cls → α) => loadA_hom φ bad (P := E.P) t (evalA fr x) hp K
    have h2 := hom (fun r : Option (AV × Cls) => r.bind fun (p : AV × Cls) => some (p.1, hp, p.2)) none (fun v c => some (v, c))
    simp only [Option.bind_none, Option.bind_some] at h2
    rw [← h2] at hop
    cases hl : loadA none E.P t (evalA fr x) hp (fun v c => some (v, c)) with
    | none => rw [hl] at hop; simp at hop
    | some p =>
      rw [hl] at hop
      simp only [Option.bind_some, Option.some.injEq, Prod.mk.injEq] at hop
      obtain ⟨rfl, rfl, rfl⟩ := hop
      refine wp_value (s := Instr.loadAt t (a.eval x)) (by simp [execOp, he]) (does_of h (loadA_sound h hl (eval_V hfr x))) hk
  · -- store
    rename_i t x y he
    have h2 := storeA_hom (fun r : Option (List Ob) => r.bind fun p => some (AV.junk, p, Cls.write)) none (P := E.P) t (evalA fr x) (evalA fr y) hp some
    simp only [Option.bind_none, Option.bind_some] at h2
    rw [← h2] at hop
    cases hl : storeA none E.P t (evalA fr x) (evalA fr y) hp some with
    | none => rw [hl] at hop; simp at hop
    | some p =>
      rw [hl] at hop
      simp only [Option.bind_some, Option.some.injEq, Prod.mk.injEq] at hop
      obtain ⟨rfl, rfl, rfl⟩ := hop
      obtain ⟨w', hrun, hR⟩ := storeA_sound h hl (eval_V hfr x) (eval_V hfr y)
      unfold Oper.wp
      have : execOp a.eval o = (do Instr.storeAt t (a.eval x) (a.eval y); Pure.pure .skip : Sem Next) := by simp [execOp, he]
      rw [this]
      simp only [Sem.run_bind, hrun, Result.andThen_ok, Sem.run_pure]
      exact hk g w' undef (Gh.le.refl g) hR (.junk _)
  · -- nilCheck
    rename_i x he
    have h2 := nilCheckA_hom (fun r : Option AV => r.bind fun v => some (v, hp, Cls.pure)) none (evalA fr x) some
    simp only [Option.bind_none, Option.bind_some] at h2
    rw [← h2] at hop
    obtain ⟨hl, rfl, rfl⟩ := val_of hop
    have hV := eval_V hfr x
    unfold nilCheckA at hl
    have key : (∃ ad, a.eval x = .pointer (some ad)) ∨ (∃ f vs ws, a.eval x = .func (.func f) vs ws) → v = evalA fr x → o.wp E.P a w next Q := by
      intro hc hv
      subst hv
      unfold Oper.wp
      have : execOp a.eval o = Pure.pure (.value (a.eval x)) := by
        simp only [execOp, he]
        rcases hc with ⟨ad, hc⟩ | ⟨f, vs, ws, hc⟩ <;> rw [hc]
      rw [this]
      simp only [Sem.run_pure]
      exact hk g w _ (Gh.le.refl g) h hV
    split at hl
    · rename_i e
      rw [e] at hV
      refine key (.inl ?_) (by simp at hl; exact hl.symm)
      exact ptr_inv hV
    · rename_i e
      rw [e] at hV
      refine key (.inl ?_) (by simp at hl; exact hl.symm)
      exact rptr_inv hV
    · rename_i e
      rw [e] at hV
      refine key (.inl ?_) (by simp at hl; exact hl.symm)
      exact optr_inv hV
    · rename_i e
      rw [e] at hV
      refine key (.inr ?_) (by simp at hl; exact hl.symm)
      exact func_inv hV
    · simp at hl
  · -- binOp
    rename_i op t x y ty he
    have h2 := binA_hom (fun r : Option AV => r.bind fun v => some (v, hp, Cls.pure)) none (P := E.P) op t (evalA fr x) (evalA fr y) some
    simp only [Option.bind_none, Option.bind_some] at h2
    rw [← h2] at hop
    obtain ⟨hl, rfl, rfl⟩ := val_of hop
    exact wp_value (s := (do eqGuard op t x y (a.eval x) (a.eval y); binOp op t (a.eval x) (a.eval y) : Sem Value)) (by simp [execOp, he]) (does_of h (binA_sound hl (eval_V hfr x) (eval_V hfr y) x y)) hk
  · -- unOp
    rename_i op t x he
    have h2 := unA_hom (fun r : Option AV => r.bind fun v => some (v, hp, Cls.pure)) none op (evalA fr x) some
    simp only [Option.bind_none, Option.bind_some] at h2
    rw [← h2] at hop
    obtain ⟨hl, rfl, rfl⟩ := val_of hop
    exact wp_value (s := Op.unary op (a.eval x)) (by simp [execOp, he]) (does_of h (unA_sound hl (eval_V hfr x))) hk
  · -- convert
    rename_i s d x he
    exact wp_value (s := convert s d (a.eval x)) (by simp [execOp, he]) (convA_sound h hop (eval_V hfr x)) hk
  · -- makeFunc
    rename_i f first captured he
    simp only [Option.some.injEq, Prod.mk.injEq] at hop; obtain ⟨rfl, rfl, rfl⟩ := hop
    have h1 := evals_VL hfr first.toList
    have h2 := evals_VL hfr captured.toList
    refine wp_value (s := Instr.makeFunc (.func f) (first.map a.eval) (captured.map a.eval)) (by simp [execOp, he]) (Does.pure h rfl ?_) hk
    exact .func _ _ _ _ _ (by simp) (fun i c v e1 e2 => h1.2 i c v e1 (by simpa using e2)) (by simp) (fun i c v e1 e2 => h2.2 i c v e1 (by simpa using e2))
  · -- makeSlice
    rename_i t l c' he
    split at hop
    · rename_i e k n k' m ht hl hc
      split at hop
      · rename_i z hz
        split at hop
        · rename_i z' hz'
          split at hop
          · rename_i hs
            replace hop := ask_some2 hop
            obtain ⟨h0, h1, hop⟩ := hop
            simp only [decide_eq_true_eq] at h0
            simp at h1; subst h1
            replace hop := newGrow_inv hop
            obtain ⟨z2, _, _, _, hlim, rfl, rfl, rfl⟩ := hop
            have e1 := int_inv (hl ▸ eval_V hfr l)
            have e2 := int_inv (hc ▸ eval_V hfr c')
            refine wp_value (s := Instr.makeSlice t (a.eval l) (a.eval c')) (by simp [execOp, he]) ?_ hk
            rw [e1, e2]
            have := makeSlice_sound h ht (k := k) (k' := k') h0 hz hz' hs.1 hs.2 (by simpa using hlim)
            simpa using this
          · simp at hop
        · simp at hop
      · simp at hop
    · simp at hop
  · -- slice
    rename_i t x lo hi he
    have run : ∀ {s : AV} {esz : Nat}, (optInt none (lo.map (evalA fr)) fun l => optInt none (hi.map (evalA fr)) fun hh => cutA none ow esz s l hh hp fun v h c => some (v, h, c)) = some (v, hp', c) → V g s (a.eval x) →
        ((E.P.underlying t = some .string ∧ ∃ l, s = .str l) ∨ (∃ e, E.P.underlying t = some (.slice e) ∧ (E.P.info? e).isSome ∧ sizeA E.P e = esz ∧ ∀ l, s ≠ .str l)) → o.wp E.P a w next Q := by
      intro s esz hop hV ht
      obtain ⟨i1, b1, hop⟩ := bd_of hop (opt_V hfr lo)
      obtain ⟨i2, b2, hop⟩ := bd_of hop (opt_V hfr hi)
      exact wp_value (s := Instr.sliceAt t (a.eval x) (lo.map a.eval) (hi.map a.eval) none) (by simp [execOp, he]) (cutA_sound h hop hV b1 b2 ht) hk
    split at hop
    · rename_i s ht hs
      exact run hop (hs ▸ eval_V hfr x) (.inl ⟨tk_str ht, s, rfl⟩)
    · simp at hop
    · simp at hop
    · rename_i y e ht hne
      split at hop
      · simp at hop
      · rename_i hsz
        have hsz' : sizeA E.P e ≠ 0 := by simpa using hsz
        refine run hop (eval_V hfr x) (.inr ⟨e, tk_slice ht, ?_, rfl, fun l hl => ?_⟩)
        · cases hi' : E.P.info? e with
          | none => simp [sizeA, infoF_eq, hi'] at hsz'
          | some i => rfl
        · exact hne l hl
    · simp at hop
  · -- fieldAddr
    rename_i t x f he
    have h2 := fieldAddrA_hom (fun r : Option AV => r.bind fun v => some (v, hp, Cls.pure)) none (P := E.P) t (evalA fr x) f some
    simp only [Option.bind_none, Option.bind_some] at h2
    rw [← h2] at hop
    obtain ⟨hl, rfl, rfl⟩ := val_of hop
    exact wp_value (s := Instr.fieldAt t (a.eval x) f) (by simp [execOp, he]) (does_of h (fieldAddrA_sound hl (eval_V hfr x))) hk
  · -- field
    rename_i t x f he
    have h2 := fieldA_hom (fun r : Option AV => r.bind fun v => some (v, hp, Cls.pure)) none (P := E.P) t (evalA fr x) f some
    simp only [Option.bind_none, Option.bind_some] at h2
    rw [← h2] at hop
    obtain ⟨hl, rfl, rfl⟩ := val_of hop
    exact wp_value (s := Instr.field t (a.eval x) f) (by simp [execOp, he]) (does_of h (fieldA_sound hl (eval_V hfr x))) hk
  · -- indexAddr
    rename_i t x i he
    have h2 := indexAddrA_hom (fun r : Option AV => r.bind fun v => some (v, hp, Cls.pure)) none (P := E.P) t (evalA fr x) (evalA fr i) some
    simp only [Option.bind_none, Option.bind_some] at h2
    rw [← h2] at hop
    obtain ⟨hl, rfl, rfl⟩ := val_of hop
    exact wp_value (s := Instr.indexAt t (a.eval x) (a.eval i)) (by simp [execOp, he]) (does_of h (indexAddrA_sound hl (eval_V hfr x) (eval_V hfr i))) hk
  · -- index
    rename_i t x i he
    have h2 := indexA_hom (fun r : Option AV => r.bind fun v => some (v, hp, Cls.pure)) none (P := E.P) t (evalA fr x) (evalA fr i) some
    simp only [Option.bind_none, Option.bind_some] at h2
    rw [← h2] at hop
    obtain ⟨hl, rfl, rfl⟩ := val_of hop
    exact wp_value (s := Instr.index t (a.eval x) (a.eval i)) (by simp [execOp, he]) (does_of h (indexA_sound hl (eval_V hfr x) (eval_V hfr i))) hk
  · -- extract
    rename_i x i he
    split at hop
    · rename_i vs hx
      split at hop
      · rename_i u hu
        simp only [Option.some.injEq, Prod.mk.injEq] at hop; obtain ⟨rfl, rfl, rfl⟩ := hop
        have hV := hx ▸ eval_V hfr x
        cases hc : a.eval x with
        | tuple cs =>
          rw [hc] at hV
          cases hV with
          | tuple _ _ h1 h2 =>
            obtain ⟨cv, hcv, hVc⟩ := VL.get (show VL g vs cs.toList from ⟨by simpa using h1, fun i c v e1 e2 => h2 i c v e1 (by simpa using e2)⟩) hu
            have hcv' : cs[i]? = some cv := by simpa using hcv
            exact wp_value (s := Instr.extract (a.eval x) i) (by simp [execOp, he]) (Does.pure h (by simp [Instr.extract, hc, hcv']) hVc) hk
        | _ => rw [hc] at hV; cases hV
      · simp at hop
    · simp at hop
  · -- call
    rename_i cl he
    have hargs := evals_VL hfr cl.args.toList
    split at hop
    · -- builtin
      rename_i b hb
      have ex : ∀ {s : Sem Value}, builtin b cl.argTypes o.type (cl.args.map fun | .const _ => true | _ => false) (cl.args.map a.eval) = (do Pure.pure (.value (← s)) : Sem Next) → execOp a.eval o = (do Pure.pure (.value (← s)) : Sem Next) := by
        intro s hs
        simp only [execOp, he, resolve, hb]
        exact hs
      unfold builtinA at hop
      split at hop
      · rename_i t ts x xs hts hxs
        have h2 := lenA_hom (fun r : Option AV => r.bind fun v => some (v, hp, Cls.pure)) none (P := E.P) t x some
        simp only [Option.bind_none, Option.bind_some] at h2
        rw [← h2] at hop
        obtain ⟨hl, rfl, rfl⟩ := val_of hop
        rw [hxs] at hargs
        obtain ⟨cx, cxs, e1, v1, v2⟩ := hargs.cons_inv
        have a0 : (cl.args.map a.eval)[0]? = some cx := by
          have : (cl.args.map a.eval).toList = cx :: cxs := by rw [Array.toList_map, e1]
          have := congrArg (fun l => l[0]?) this; simpa using this
        have t0 : cl.argTypes[0]? = some t := by have := congrArg (fun l => l[0]?) hts; simpa using this
        exact wp_value (ex (s := Builtin.len_ cl.argTypes o.type (cl.args.map a.eval)) rfl) (does_of h (lenA_sound hl v1 _ a0 _ t0)) hk
      · rename_i t ts x xs hts hxs
        have h2 := capA_hom (fun r : Option AV => r.bind fun v => some (v, hp, Cls.pure)) none (P := E.P) t x some
        simp only [Option.bind_none, Option.bind_some] at h2
        rw [← h2] at hop
        obtain ⟨hl, rfl, rfl⟩ := val_of hop
        rw [hxs] at hargs
        obtain ⟨cx, cxs, e1, v1, v2⟩ := hargs.cons_inv
        have a0 : (cl.args.map a.eval)[0]? = some cx := by
          have : (cl.args.map a.eval).toList = cx :: cxs := by rw [Array.toList_map, e1]
          have := congrArg (fun l => l[0]?) this; simpa using this
        have t0 : cl.argTypes[0]? = some t := by have := congrArg (fun l => l[0]?) hts; simpa using this
        exact wp_value (ex (s := Builtin.cap_ cl.argTypes o.type (cl.args.map a.eval)) rfl) (does_of h (capA_sound hl v1 _ a0 _ t0)) hk
      · rename_i t tx s x hts hxs
        rw [hxs] at hargs
        obtain ⟨cs, l1, e1, v1, v2⟩ := hargs.cons_inv
        obtain ⟨cx, l2, e2, v3, v4⟩ := v2.cons_inv
        have e3 := v4.nil_inv
        subst e3 e2
        have ea : cl.args.map a.eval = #[cs, cx] := by apply Array.ext'; rw [Array.toList_map, e1]
        have et : cl.argTypes = #[t, tx] := by apply Array.ext'; rw [hts]
        refine wp_value (ex (s := Builtin.append_ #[t, tx] o.type #[cs, cx]) (by rw [ea, et]; rfl)) (appendA_sound h hop v1 v3) hk
      · rename_i x l hxs
        split at hop
        · rename_i u hu
          simp only [Option.some.injEq, Prod.mk.injEq] at hop; obtain ⟨rfl, rfl, rfl⟩ := hop
          rw [hxs] at hargs
          obtain ⟨cx, cxs, e1, v1, v2⟩ := hargs.cons_inv
          obtain ⟨cv, hr, hV⟩ := foldA_min (P := E.P) (w := w) hu v1 v2
          refine wp_value (ex (s := Builtin.min_ cl.argTypes o.type (cl.args.map a.eval)) rfl) (Does.pure h ?_ hV) hk
          simp only [Builtin.min_, Array.toList_map, e1]; exact hr
        · simp at hop
      · rename_i x l hxs
        split at hop
        · rename_i u hu
          simp only [Option.some.injEq, Prod.mk.injEq] at hop; obtain ⟨rfl, rfl, rfl⟩ := hop
          rw [hxs] at hargs
          obtain ⟨cx, cxs, e1, v1, v2⟩ := hargs.cons_inv
          obtain ⟨cv, hr, hV⟩ := foldA_max (P := E.P) (w := w) hu v1 v2
          refine wp_value (ex (s := Builtin.max_ cl.argTypes o.type (cl.args.map a.eval)) rfl) (Does.pure h ?_ hV) hk
          simp only [Builtin.max_, Array.toList_map, e1]; exact hr
        · simp at hop
      · simp at hop
    · -- a function
      rename_i f hf
      split at hop
      · rename_i fid pre post hfv
        unfold callFn at hop
        split at hop
        · rename_i sp hsp
          rw [Tr.fold_val] at hop
          split at hop
          · rename_i u hs
            simp only [Option.some.injEq, Prod.mk.injEq] at hop; obtain ⟨rfl, rfl, rfl⟩ := hop
            have hV := hfv ▸ eval_V hfr f
            have hS := hE fid sp hsp
            obtain ⟨fn, code, hfn, hbody, hname⟩ := hS.body
            have hcv : ∃ vs ws, a.eval f = .func (.func fid) vs ws ∧ VL g pre vs.toList ∧ VL g post ws.toList := by
              cases hc : a.eval f with
              | func fn' vs ws =>
                rw [hc] at hV
                cases hV with
                | func _ _ _ _ _ h1 h2 h3 h4 => exact ⟨vs, ws, rfl, ⟨by simpa using h1, fun i c v e1 e2 => h2 i c v e1 (by simpa using e2)⟩, ⟨by simpa using h3, fun i c v e1 e2 => h4 i c v e1 (by simpa using e2)⟩⟩
              | _ => rw [hc] at hV; cases hV
            obtain ⟨vs, ws, hc, v1, v2⟩ := hcv
            have hall := (v1.append hargs).append v2
            have hcalls := hS.calls _ _ _ _ _ hs g w _ hL h hall
            have harr : (vs.toList ++ cl.args.toList.map a.eval ++ ws.toList).toArray = vs ++ cl.args.map a.eval ++ ws := by
              apply Array.ext'; simp
            rw [harr] at hcalls
            unfold Oper.wp
            have hexec : (execOp a.eval o).run E.P w = .ok (.enter fid (vs ++ cl.args.map a.eval ++ ws)) w := by
              simp only [execOp, he, resolve, hf, hc, Deferred.ofValue, Sem.run_bind, Sem.run_pure, Result.andThen_ok, invoke, callFunc, run_program, hfn, hname, hbody]
              rfl
            rw [hexec, Oper.upon_enter]
            refine hcalls.mono fun e w' he' => ?_
            obtain ⟨v, g', rfl, hle, hR, hV'⟩ := he'
            exact hk g' w' v hle hR hV'
          · simp at hop
        · simp at hop
      · simp at hop
    · simp at hop
  · simp at hop
end Go.Cx

end

section
namespace Go.Cx
open Go.RowKit (Below)
set_option linter.unusedSimpArgs false
def Gh.trim (g : Gh) (m : Nat) : Gh := { g with blk := fun i => if i < m then g.blk i else none, cur := fun i => if i < m then g.cur i else none }
mutual
theorem reshape_idem : ∀ (s : Sh) (x : AV), s.closed = true → reshape s (reshape s x) = reshape s x
  | .int k, x, _ => rfl
  | .bool, x, _ => rfl
  | .str, x, _ => rfl
  | .slice sz sh, x, _ => rfl
  | .agg l, x, h => by
    simp only [reshape]
    congr 1
    exact reshapeL_idem l 0 x (.agg (reshapeL l 0 x)) (by simpa [Sh.closed] using h) (fun j => by simp [getF_agg])
  | .any, x, h => by simp [Sh.closed] at h
theorem reshapeL_idem : ∀ (l : List Sh) (i : Nat) (x y : AV), Sh.closedL l = true → (∀ j, getF y (i + j) = (reshapeL l i x).getD j .junk) → reshapeL l i y = reshapeL l i x
  | [], _, _, _, _, _ => rfl
  | s :: l, i, x, y, h, hy => by
    simp only [Sh.closedL, Bool.and_eq_true] at h
    have h0 := hy 0
    simp [reshapeL] at h0
    simp only [reshapeL]
    rw [h0, reshape_idem s _ h.1, reshapeL_idem l (i + 1) x y h.2 (fun j => by have := hy (j + 1); simp [reshapeL] at this; rw [show i + 1 + j = i + (j + 1) by omega, this]; simp)]
end
def ClosedCell (c : AV) : Prop := ∃ s : Sh, s.closed = true ∧ reshape s c = c
theorem closedL_mem : ∀ {l : List Sh} {i : Nat} {x c : AV}, Sh.closedL l = true → c ∈ reshapeL l i x → ClosedCell c
  | [], _, _, _, _, h => by simp [reshapeL] at h
  | s :: l, i, x, c, hc, h => by
    simp only [Sh.closedL, Bool.and_eq_true] at hc
    simp only [reshapeL, List.mem_cons] at h
    rcases h with rfl | h
    · exact ⟨s, hc.1, reshape_idem s _ hc.1⟩
    · exact closedL_mem hc.2 h
theorem closed_cells {s : Sh} {x : AV} (hs : s.closed = true) (hx : reshape s x = x) : ∀ c ∈ cells x, ClosedCell c := by
  intro c hc
  cases x with
  | agg cs =>
    simp only [cells] at hc
    cases s with
    | agg l =>
      simp only [reshape, AV.agg.injEq] at hx
      rw [← hx] at hc
      exact closedL_mem (by simpa [Sh.closed] using hs) hc
    | any => simp [Sh.closed] at hs
    | _ => simp [reshape] at hx
  | _ => simp only [cells, List.mem_singleton] at hc; subst hc; exact ⟨s, hs, hx⟩
theorem closed_flat {s : Sh} {xs : List AV} (hs : s.closed = true) (hx : ∀ x ∈ xs, reshape s x = x) : ∀ c ∈ flat xs, ClosedCell c := by
  intro c hc
  simp only [flat, List.mem_flatMap] at hc
  obtain ⟨x, h1, h2⟩ := hc
  exact closed_cells hs (hx x h1) c h2
theorem refsL_mem {m : Nat} : ∀ {l : List AV}, refsL m l = true → ∀ c ∈ l, refs m c = true
  | [], _, c, h => by simp at h
  | x :: l, h, c, hc => by
    simp only [refsL, Bool.and_eq_true] at h
    simp only [List.mem_cons] at hc
    rcases hc with rfl | hc
    · exact h.1
    · exact refsL_mem h.2 c hc
theorem refs_cells {m : Nat} {x : AV} (h : refs m x = true) : ∀ c ∈ cells x, refs m c = true := by
  cases x with
  | agg cs => intro c hc; exact refsL_mem (l := cs) (by simpa [refs] using h) c hc
  | _ => intro c hc; simp only [cells, List.mem_singleton] at hc; subst hc; exact h
theorem refs_flat {m : Nat} {xs : List AV} (h : refsL m xs = true) : ∀ c ∈ flat xs, refs m c = true := by
  intro c hc
  simp only [flat, List.mem_flatMap] at hc
  obtain ⟨x, h1, h2⟩ := hc
  exact refs_cells (refsL_mem h x h1) c h2
theorem V.trim {g : Gh} {m : Nat} {a : AV} {v : Value} (h : V g a v) : (ClosedCell a ∨ refs m a = true) → V (g.trim m) a v := by
  have inr : ∀ {i : Nat} {α : Type} {f : Nat → Option α} {x : α}, decide (i < m) = true → f i = some x → (if i < m then f i else none) = some x := by
    intro i α f x h1 h2; rw [if_pos (by simpa using h1)]; exact h2
  have noc : ∀ {s : Sh} {x : AV}, s.closed = true → reshape s x = x → (match x with | .ptr .. | .rptr _ | .nilsl | .fslice .. | .oslice .. | .optr .. | .func .. | .tuple _ => False | _ => True) := by
    intro s x hs hx
    rw [← hx]
    cases s <;> first | trivial | simp [Sh.closed] at hs
  induction h with
  | int k n => intro _; exact .int k n
  | bool b => intro _; exact .bool b
  | str s hs => intro _; exact .str s hs
  | ptr id off b hb =>
    rintro (⟨s, hs, hx⟩ | hr)
    · exact (noc hs hx).elim
    · exact .ptr id off b (inr (by simpa [refs] using hr) hb)
  | nilptr => intro _; exact .nilptr
  | rptr cs vs b o hl _ hat ih =>
    rintro (⟨s, hs, hx⟩ | hr)
    · exact (noc hs hx).elim
    · exact .rptr cs vs b o hl (fun i c v h1 h2 => ih i c v h1 h2 (.inr (refsL_mem (by simpa [refs] using hr) c (List.mem_of_getElem? h1)))) hat
  | nilsl => intro _; exact .nilsl
  | slice sz sh xs k vs b o c hl _ hat hx hc hlim ih =>
    intro hr
    refine .slice sz sh xs k vs b o c hl (fun i c v h1 h2 => ih i c v h1 h2 ?_) hat hx hc hlim
    have hm := List.mem_of_getElem? h1
    rcases hr with ⟨s, hs, hxs⟩ | hr
    · left
      cases s with
      | slice sz' s' =>
        simp only [reshape, AV.slice.injEq] at hxs
        obtain ⟨_, rfl, _, _⟩ := hxs
        exact closed_flat (by simpa [Sh.closed] using hs) (fun x hx' => (hx x hx').1) c hm
      | any => simp [Sh.closed] at hs
      | _ => simp [reshape] at hxs
    · simp only [refs, Bool.or_eq_true] at hr
      rcases hr with hr | hr
      · left; exact closed_flat hr (fun x hx' => (hx x hx').1) c hm
      · right; exact refs_flat hr c hm
  | slice0 sz sh => intro _; exact .slice0 sz sh
  | slice1 sz sh k a c => intro _; exact .slice1 sz sh k a c
  | fslice sz sh xs ys vs b o hl _ hat hx hlim ih =>
    rintro (⟨s, hs, hxs⟩ | hr)
    · exact (noc hs hxs).elim
    · refine .fslice sz sh xs ys vs b o hl (fun i c v h1 h2 => ih i c v h1 h2 ?_) hat hx hlim
      have hm := List.mem_of_getElem? h1
      simp only [refs, Bool.or_eq_true, Bool.and_eq_true] at hr
      rcases hr with hr | ⟨h3, h4⟩
      · left; exact closed_flat hr (fun x hx' => (hx x hx').1) c hm
      · right
        rw [flat_append, List.mem_append] at hm
        rcases hm with hm | hm
        · exact refs_flat h3 c hm
        · exact refs_flat h4 c hm
  | oslice id ver len b c x hx hh =>
    rintro (⟨s, hs, hxs⟩ | hr)
    · exact (noc hs hxs).elim
    · exact .oslice id ver len b c x (inr (by simpa [refs] using hr) hx) hh
  | oslice0 id ver x hx hh =>
    rintro (⟨s, hs, hxs⟩ | hr)
    · exact (noc hs hxs).elim
    · exact .oslice0 id ver x (inr (by simpa [refs] using hr) hx) hh
  | optr id ver len sz i j b c x hx hh =>
    rintro (⟨s, hs, hxs⟩ | hr)
    · exact (noc hs hxs).elim
    · exact .optr id ver len sz i j b c x (inr (by simpa [refs] using hr) hx) hh
  | func f pre post vs ws h1 _ h2 _ ih1 ih2 =>
    rintro (⟨s, hs, hxs⟩ | hr)
    · exact (noc hs hxs).elim
    · simp only [refs, Bool.and_eq_true] at hr
      exact .func f pre post vs ws h1 (fun i c v e1 e2 => ih1 i c v e1 e2 (.inr (refsL_mem hr.1 c (List.mem_of_getElem? e1)))) h2 (fun i c v e1 e2 => ih2 i c v e1 e2 (.inr (refsL_mem hr.2 c (List.mem_of_getElem? e1))))
  | nilfunc => intro _; exact .nilfunc
  | agg cs vs hl _ ih =>
    intro hr
    refine .agg cs vs hl (fun i c v e1 e2 => ih i c v e1 e2 ?_)
    have hm := List.mem_of_getElem? e1
    rcases hr with ⟨s, hs, hxs⟩ | hr
    · left; exact closed_cells (x := .agg cs) hs hxs c hm
    · right; exact refsL_mem (by simpa [refs] using hr) c hm
  | tuple cs vs hl _ ih =>
    rintro (⟨s, hs, hxs⟩ | hr)
    · exact (noc hs hxs).elim
    · exact .tuple cs vs hl (fun i c v e1 e2 => ih i c v e1 e2 (.inr (refsL_mem (by simpa [refs] using hr) c (List.mem_of_getElem? e1))))
  | nilIface => intro _; exact .nilIface
  | junk v => intro _; exact .junk v
theorem VL.trim {g : Gh} {m : Nat} {cs : List AV} {vs : List Value} (h : VL g cs vs) (hr : refsL m cs = true) : VL (g.trim m) cs vs :=
  ⟨h.1, fun i c v e1 e2 => (h.2 i c v e1 e2).trim (.inr (refsL_mem hr c (List.mem_of_getElem? e1)))⟩
def Ids (g : Gh) (m : Nat) : Prop := ∀ i, m ≤ i → g.blk i = none ∧ g.cur i = none
theorem Gh.le.trim {g0 g : Gh} {m : Nat} (h : g0.le g) (hi : Ids g0 m) : g0.le (g.trim m) := by
  refine ⟨h.base, h.w0, h.frz, h.old, h.imm, fun i b e => ?_, fun i ver len b c e => ?_⟩
  · have hlt : i < m := by
      rcases Nat.lt_or_ge i m with h' | h'
      · exact h'
      · rw [(hi i h').1] at e; simp at e
    show (if i < m then g.blk i else none) = some b
    rw [if_pos hlt]; exact h.blk i b e
  · have hlt : i < m := by
      rcases Nat.lt_or_ge i m with h' | h'
      · exact h'
      · rw [(hi i h').2] at e; simp at e
    obtain ⟨x, h1, h2⟩ := h.cur i ver len b c e
    exact ⟨x, by show (if i < m then g.cur i else none) = some x; rw [if_pos hlt]; exact h1, h2⟩
theorem R.trim {g : Gh} {w : World} {hp : List Ob} (h : R g w hp) {m : Nat} (hr : (hp.take m).all (refsO m) = true) : R (g.trim m) w (hp.take m) := by
  have ownT : ∀ i b, own (g.trim m) i b → own g i b ∧ i < m := by
    intro i b ho
    rcases ho with ho | ⟨v, l, c, ho⟩
    · have ho : (if i < m then g.blk i else none) = some b := ho
      split at ho
      · exact ⟨.inl ho, by assumption⟩
      · simp at ho
    · have ho : (if i < m then g.cur i else none) = some (v, l, some b, c) := ho
      split at ho
      · exact ⟨.inr ⟨_, _, _, ho⟩, by assumption⟩
      · simp at ho
  refine ⟨h.below, h.base, h.frz, h.imm, fun i => ?_, fun i j b hij hdi hdj oi oj => ?_⟩
  · by_cases hi : i < m
    · rw [List.getElem?_take, if_pos hi]
      have hb : (g.trim m).blk i = g.blk i := by show (if i < m then g.blk i else none) = _; rw [if_pos hi]
      have hc : (g.trim m).cur i = g.cur i := by show (if i < m then g.cur i else none) = _; rw [if_pos hi]
      have k := h.objs i
      cases ho : hp[i]? with
      | none => rw [ho] at k; exact ⟨hb.trans k.1, hc.trans k.2⟩
      | some o =>
        rw [ho] at k
        have hm : o ∈ hp.take m := by
          have : (hp.take m)[i]? = some o := by rw [List.getElem?_take, if_pos hi]; exact ho
          exact List.mem_of_getElem? this
        have hro := List.all_eq_true.1 hr o hm
        cases o with
        | dead => exact ⟨hb.trans k.1, trivial⟩
        | hole => exact ⟨hb.trans k.1, hc.trans k.2⟩
        | froz ver sz sh xs => obtain ⟨k1, b, c, k2, k3⟩ := k; exact ⟨hb.trans k1, b, c, hc.trans k2, k3.trim (.inr (by simpa [refs, refsO] using hro))⟩
        | fix ty cs =>
          obtain ⟨k1, b, vs, fz, k2, k3, k4, k5, k6, k7, k8⟩ := k
          exact ⟨hc.trans k1, b, vs, fz, hb.trans k2, k3, k4, k5.trim (by simpa [refsO] using hro), k6, k7, k8⟩
        | grow ty ver sz sh xs =>
          obtain ⟨k1, ⟨k0, k3, k2⟩ | ⟨b, c, vs, fz, k2, k3, k4, k5, k6, k7, k8, k9, k10, k11, k12⟩⟩ := k
          · exact ⟨hb.trans k1, .inl ⟨k0, k3, hc.trans k2⟩⟩
          refine ⟨hb.trans k1, .inr ?_⟩
          refine ⟨b, c, vs, fz, hc.trans k2, k3, k4, k5, k6, k7, ⟨k8.1, fun i c v e1 e2 => (k8.2 i c v e1 e2).trim ?_⟩, k9, k10, k11, k12⟩
          have hm := List.mem_of_getElem? e1
          simp only [refsO, Bool.or_eq_true] at hro
          rcases hro with hro | hro
          · left; exact closed_flat hro (fun x hx => (k9 x hx).1) c hm
          · right; exact refs_flat hro c hm
    · rw [List.getElem?_take, if_neg hi]
      exact ⟨by show (if i < m then g.blk i else none) = _; rw [if_neg hi], by show (if i < m then g.cur i else none) = _; rw [if_neg hi]⟩
  · obtain ⟨oi', hi⟩ := ownT i b oi
    obtain ⟨oj', hj⟩ := ownT j b oj
    rw [List.getElem?_take, if_pos hi] at hdi
    rw [List.getElem?_take, if_pos hj] at hdj
    exact h.inj i j b hij hdi hdj oi' oj'
theorem clear_VL {g : Gh} : ∀ (l : List Nat) {fr : List AV} {vs : List Value}, VL g fr vs → VL g (clearAt fr l) vs
  | [], fr, vs, h => h
  | d :: l, fr, vs, h => by
    refine clear_VL l (fr := fr.set d .junk) ⟨by simpa using h.1, fun i c v e1 e2 => ?_⟩
    rw [List.getElem?_set] at e1
    split at e1
    · split at e1
      · simp at e1; subst e1; exact .junk _
      · simp at e1
    · exact h.2 i c v e1 e2
end Go.Cx

end
