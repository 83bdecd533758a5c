/- Machines: what loops come to, as functions; patterns of arguments, of results, of heaps. -/
import Derived.Test.YtcnalhganahiiaaGreatDoorCxAh
namespace Go.Cx
open Go.RowKit (Below)
set_option linter.unusedSimpArgs false
section
variable {σ ρ : Type}
def runN (step : σ → Tr (σ ⊕ ρ)) : Nat → Tr (σ ⊕ ρ) → Option ρ
  | 0, t => t.fold none (Sum.elim (fun _ => none) some)
  | n + 1, t => t.fold none (Sum.elim (fun s => runN step n (step s)) some)
theorem Tr.fold_some {τ β : Type} {f g : τ → Option β} {x : β} (h : ∀ a, f a = some x → g a = some x) : ∀ t : Tr τ, t.fold none f = some x → t.fold none g = some x
  | .bad, e => by simp [Tr.fold] at e
  | .r a, e => h a e
  | .c b t e, k => by
    cases b
    · exact Tr.fold_some h e k
    · exact Tr.fold_some h t k
theorem runN_succ (step : σ → Tr (σ ⊕ ρ)) : ∀ (n : Nat) (t : Tr (σ ⊕ ρ)) (x : ρ), runN step n t = some x → runN step (n + 1) t = some x
  | 0, t, x, h => by
    simp only [runN] at h ⊢
    refine Tr.fold_some (fun a e => ?_) t h
    cases a with
    | inl s => simp at e
    | inr y => exact e
  | n + 1, t, x, h => by
    simp only [runN] at h
    show t.fold none (Sum.elim (fun s => runN step (n + 1) (step s)) some) = some x
    refine Tr.fold_some (fun a e => ?_) t h
    cases a with
    | inl s => exact runN_succ step n _ x e
    | inr y => exact e
theorem runN_le {step : σ → Tr (σ ⊕ ρ)} {n m : Nat} (h : n ≤ m) {t : Tr (σ ⊕ ρ)} {x : ρ} (k : runN step n t = some x) : runN step m t = some x := by
  induction h with
  | refl => exact k
  | step _ ih => exact runN_succ _ _ _ _ ih
open Classical in
noncomputable def run (step : σ → Tr (σ ⊕ ρ)) (t : Tr (σ ⊕ ρ)) : Option ρ :=
  if h : ∃ x n, runN step n t = some x then some h.choose else none
theorem run_some {step : σ → Tr (σ ⊕ ρ)} {t : Tr (σ ⊕ ρ)} {x : ρ} : run step t = some x ↔ ∃ n, runN step n t = some x := by
  unfold run
  split
  · rename_i h
    obtain ⟨n, hn⟩ := h.choose_spec
    constructor
    · intro e; simp only [Option.some.injEq] at e; subst e; exact ⟨n, hn⟩
    · rintro ⟨m, hm⟩
      have a := runN_le (Nat.le_max_left n m) hn
      have b := runN_le (Nat.le_max_right n m) hm
      rw [a] at b; exact b
  · rename_i h
    constructor
    · intro e; simp at e
    · rintro ⟨m, hm⟩; exact absurd ⟨x, m, hm⟩ h
theorem run_unfold (step : σ → Tr (σ ⊕ ρ)) : ∀ t : Tr (σ ⊕ ρ), run step t = t.fold none (Sum.elim (fun s => run step (step s)) some)
  | .bad => by
    apply Option.ext; intro x
    rw [run_some]
    constructor
    · rintro ⟨n, h⟩; cases n <;> simp [runN, Tr.fold] at h
    · intro h; simp [Tr.fold] at h
  | .r (.inr y) => by
    apply Option.ext; intro x
    rw [run_some]
    constructor
    · rintro ⟨n, h⟩; cases n <;> exact h
    · intro h; exact ⟨0, h⟩
  | .r (.inl s) => by
    apply Option.ext; intro x
    show _ ↔ run step (step s) = some x
    rw [run_some, run_some]
    constructor
    · rintro ⟨n, h⟩
      cases n with
      | zero => simp [runN, Tr.fold] at h
      | succ n => exact ⟨n, h⟩
    · rintro ⟨n, h⟩; exact ⟨n + 1, h⟩
  | .c b t e => by
    have key : ∀ t', (∀ n, runN step n (.c b t e) = runN step n t') → run step (.c b t e) = run step t' := by
      intro t' h
      apply Option.ext; intro x
      rw [run_some, run_some]
      simp only [h]
    cases b with
    | true => rw [key t (fun n => by cases n <;> rfl), run_unfold step t]; rfl
    | false => rw [key e (fun n => by cases n <;> rfl), run_unfold step e]; rfl
theorem machine_sound {step : σ → Tr (σ ⊕ ρ)} {L : σ → Prop} {R : ρ → Prop} (h : ∀ s, (step s).fold False (Sum.elim L R) → L s) {x : ρ} (hx : R x) :
    ∀ (n : Nat) (t : Tr (σ ⊕ ρ)), runN step n t = some x → t.fold False (Sum.elim L R) := by
  intro n
  induction n with
  | zero =>
    intro t
    induction t with
    | bad => intro e; simp [runN, Tr.fold] at e
    | r a =>
      intro e
      cases a with
      | inl s => simp [runN, Tr.fold] at e
      | inr y => simp [runN, Tr.fold] at e; subst e; exact hx
    | c b t e i1 i2 =>
      cases b
      · exact fun k => i2 k
      · exact fun k => i1 k
  | succ n ih =>
    intro t
    induction t with
    | bad => intro e; simp [runN, Tr.fold] at e
    | r a =>
      intro e
      cases a with
      | inl s => exact h s (ih _ e)
      | inr y => simp [runN, Tr.fold] at e; subst e; exact hx
    | c b t e i1 i2 =>
      cases b
      · exact fun k => i2 k
      · exact fun k => i1 k
theorem Tr.fold_P {R : ρ → Prop} {x : ρ} (hx : R x) : ∀ t : Tr ρ, t.val = some x → t.fold False R
  | .bad, e => by simp [Tr.val, Tr.fold] at e
  | .r a, e => by simp [Tr.val, Tr.fold] at e; subst e; exact hx
  | .c b t e, k => by
    cases b
    · exact Tr.fold_P hx e k
    · exact Tr.fold_P hx t k
end
mutual
theorem giveA_mono {m : Nat} {hp : List Ob} : ∀ (x : AV) {K K' : AV → Prop}, (∀ y, K y → K' y) → giveA False m hp x K → giveA False m hp x K'
  | .oslice id ver len, K, K', hk, h => by
    simp only [giveA] at h ⊢
    split at h
    · rename_i e; rw [if_pos e]; exact hk _ h
    · rename_i e; rw [if_neg e]
      have key : ∀ {b1 b2 : Bool} {sz : Nat} {sh : Sh} {xs : List AV}, ask False b1 (ask False b2 (if sh.closed = true then K (AV.slice sz sh xs SK.ro) else False)) → ask False b1 (ask False b2 (if sh.closed = true then K' (AV.slice sz sh xs SK.ro) else False)) := by
        intro b1 b2 sz sh xs h
        simp only [ask] at h ⊢
        revert h
        cases b1 <;> cases b2 <;> simp only [cond_true, cond_false] <;> intro h
        · exact h
        · exact h
        · exact h
        · split at h
          · rename_i e; rw [if_pos e]; exact hk _ h
          · exact h.elim
      unfold grownR at h ⊢
      split at h
      · exact key h
      · exact key h
      · exact h.elim
  | .agg cs, K, K', hk, h => by simp only [giveA] at h ⊢; exact giveLA_mono cs (fun y hy => hk _ hy) h
  | .tuple cs, K, K', hk, h => by simp only [giveA] at h ⊢; exact giveLA_mono cs (fun y hy => hk _ hy) h
  | .fslice sz sh xs ys, K, K', hk, h => by
    simp only [giveA] at h ⊢
    split at h
    · rename_i e; rw [if_pos e]; exact hk _ h
    · exact h.elim
  | .int .., K, K', hk, h | .bool .., K, K', hk, h | .str .., K, K', hk, h | .ptr .., K, K', hk, h | .nilptr, K, K', hk, h | .rptr .., K, K', hk, h | .nilsl, K, K', hk, h
  | .slice .., K, K', hk, h | .optr .., K, K', hk, h | .func .., K, K', hk, h | .nilfunc, K, K', hk, h | .nilIface, K, K', hk, h | .junk, K, K', hk, h => by
    simp only [giveA] at h ⊢
    split at h
    · rename_i e; rw [if_pos e]; exact hk _ h
    · exact h.elim
theorem giveLA_mono {m : Nat} {hp : List Ob} : ∀ (l : List AV) {K K' : List AV → Prop}, (∀ y, K y → K' y) → giveLA False m hp l K → giveLA False m hp l K'
  | [], K, K', hk, h => by simp only [giveLA] at h ⊢; exact hk _ h
  | x :: l, K, K', hk, h => by
    simp only [giveLA] at h ⊢
    exact giveA_mono x (fun y hy => giveLA_mono l (fun z hz => hk _ hz) hy) h
end
theorem giveOA_mono {m : Nat} {hp : List Ob} : ∀ (l : List Ob) {K K' : List Ob → Prop}, (∀ y, K y → K' y) → giveOA False m hp l K → giveOA False m hp l K'
  | [], K, K', hk, h => by simp only [giveOA] at h ⊢; exact hk _ h
  | .fix ty cs :: l, K, K', hk, h => by
    simp only [giveOA] at h ⊢
    exact giveLA_mono cs (fun y hy => giveOA_mono l (fun z hz => hk _ hz) hy) h
  | .grow .. :: l, K, K', hk, h => by
    simp only [giveOA] at h ⊢
    split at h
    · rename_i e; rw [if_pos e]; exact giveOA_mono l (fun z hz => hk _ hz) h
    · exact h.elim
  | .froz .. :: l, K, K', hk, h => by
    simp only [giveOA] at h ⊢
    split at h
    · rename_i e; rw [if_pos e]; exact giveOA_mono l (fun z hz => hk _ hz) h
    · exact h.elim
  | .dead :: l, K, K', hk, h => by
    simp only [giveOA] at h ⊢
    split at h
    · rename_i e; rw [if_pos e]; exact giveOA_mono l (fun z hz => hk _ hz) h
    · exact h.elim
  | .hole :: l, K, K', hk, h => by
    simp only [giveOA] at h ⊢
    split at h
    · rename_i e; rw [if_pos e]; exact giveOA_mono l (fun z hz => hk _ hz) h
    · exact h.elim
theorem exitA_mono {m : Nat} {r : AV} {hp : List Ob} {K K' : AV → List Ob → Prop} (hk : ∀ y h, K y h → K' y h) (h : exitA False m r hp K) : exitA False m r hp K' := by
  unfold exitA at *
  exact giveA_mono r (fun y hy => giveOA_mono _ (fun z hz => hk _ _ hz) hy) h
theorem resA_mono {P : Program} {st : St} : ∀ (l : List ResultVar) {K K' : List AV → Prop}, (∀ y, K y → K' y) → resA False P st l K → resA False P st l K'
  | [], K, K', hk, h => hk _ h
  | .tmp t :: l, K, K', hk, h => by simp only [resA] at h ⊢; exact resA_mono l (fun z hz => hk _ hz) h
  | .cell a t :: l, K, K', hk, h => by
    simp only [resA] at h ⊢
    obtain ⟨v, c, h1, h2⟩ := loadA_P h
    have := loadA_hom (fun r : Option (AV × Cls) => match r with | some (v, _) => resA False P st l fun vs => K' (v :: vs) | none => False) none (P := P) t (st.fr.getD a .junk) st.hp (fun v c => some (v, c))
    rw [h1] at this
    exact this.mp (resA_mono l (fun z hz => hk _ hz) h2)
theorem callA_mono {E : En} {fn : Func} {args : List AV} {hp : List Ob} {R R' : AV → List Ob → Prop} (hk : ∀ y h, R y h → R' y h) (h : callA E fn args hp R) : callA E fn args hp R' := by
  unfold callA at *
  cases hb : fn.body with
  | none => rw [hb] at h; exact h.elim
  | some c =>
    rw [hb] at h
    simp only at h ⊢
    refine wpX_mono (fun b m K K' s hk hh => LP.mono b m K K' s hk hh) c _ (fun e s hs => ?_) h
    cases e with
    | exit id => exact hs
    | normal => exact resA_mono _ (fun vs hv => xgcK_mono (fun _ _ hv => exitA_mono hk hv) hv) hs
    | ret => exact resA_mono _ (fun vs hv => xgcK_mono (fun _ _ hv => exitA_mono hk hv) hv) hs
inductive Pat where
  | leaf (s : Sh)
  | lit (a : AV)
  | own (id v k : Nat)
  | rptr (l : List Pat)
  | agg (l : List Pat)
  | tuple (l : List Pat)
  | func (f : FuncId) (pre post : List Pat)
  /-- a slice, and the room behind it -/
  | fsl (sz : Nat) (sh : Sh)
  /-- a slice of so many things, each of one cell -/
  | sl (l : List Pat)
inductive OPat where
  | fix (ty : TypeId) (l : List Pat)
  | grow (ty : TypeId) (v sz : Nat) (sh : Sh)
  | dead
mutual
def Pat.n : Pat → Nat
  | .leaf _ => 1
  | .lit _ | .own .. => 0
  | .rptr l | .agg l | .tuple l | .sl l => Pat.nL l
  | .func _ a b => Pat.nL a + Pat.nL b
  | .fsl .. => 2
def Pat.nL : List Pat → Nat
  | [] => 0
  | p :: l => p.n + Pat.nL l
end
mutual
def inst (ls : List AV) : Pat → Nat → AV
  | .leaf s, i => reshape s (ls.getD i .junk)
  | .lit a, _ => a
  | .own id v k, _ => .oslice id v (getXs (ls.getD k .junk)).length
  | .rptr l, i => .rptr (instL ls l i)
  | .agg l, i => .agg (instL ls l i)
  | .tuple l, i => .tuple (instL ls l i)
  | .func f a b, i => .func f (instL ls a i) (instL ls b (i + Pat.nL a))
  | .fsl sz sh, i => .fslice sz sh (getXs (ls.getD i .junk)) (getXs (ls.getD (i + 1) .junk))
  | .sl l, i => .slice 1 .any (instL ls l i) .ro
def instL (ls : List AV) : List Pat → Nat → List AV
  | [], _ => []
  | p :: l, i => inst ls p i :: instL ls l (i + p.n)
end
def OPat.n : OPat → Nat
  | .fix _ l => Pat.nL l
  | .grow .. => 1
  | .dead => 0
def instO (ls : List AV) : OPat → Nat → Ob
  | .fix ty l, i => .fix ty (instL ls l i)
  | .grow ty v sz sh, i => .grow ty v sz sh (getXs (ls.getD i .junk))
  | .dead, _ => .dead
def instH (ls : List AV) : List OPat → Nat → List Ob
  | [], _ => []
  | o :: l, i => instO ls o i :: instH ls l (i + o.n)
def sameA : AV → AV → Bool
  | .int k n, .int k' n' => decide (k = k') && n == n'
  | .bool a, .bool b => a == b
  | .ptr i o, .ptr i' o' => i == i' && o == o'
  | .nilptr, .nilptr | .nilsl, .nilsl | .nilfunc, .nilfunc | .nilIface, .nilIface | .junk, .junk => true
  | _, _ => false
theorem sameA_eq {a b : AV} (h : sameA a b = true) : b = a := by
  unfold sameA at h
  split at h <;> simp_all
abbrev Found := List AV × List (Nat × Nat)
mutual
def mat : Pat → AV → Option Found
  | .leaf s, a => match fit s a with
    | some a' => some ([a'], [])
    | none => none
  | .lit x, a => cond (sameA x a) (some ([], [])) none
  | .own id v k, .oslice id' v' len => cond (id == id' && v == v') (some ([], [(k, len)])) none
  | .rptr l, .rptr cs => matL l cs
  | .agg l, .agg cs => matL l cs
  | .tuple l, .tuple cs => matL l cs
  | .func f a b, .func f' pre post => cond (f == f') (match matL a pre, matL b post with
    | some x, some y => some (x.1 ++ y.1, x.2 ++ y.2)
    | _, _ => none) none
  | .sl l, a => match fit (.slice 1 .any) a with
    | some (.slice _ _ xs _) => cond (xs.all oneCell) (matL l xs) none
    | _ => none
  | .fsl sz sh, .fslice sz' sh' xs ys => cond (sz == sz' && sh.beq sh') (some ([.slice sz sh xs .ro, .slice sz sh ys .ro], [])) none
  | _, _ => none
def matL : List Pat → List AV → Option Found
  | [], [] => some ([], [])
  | p :: l, a :: as => match mat p a, matL l as with
    | some x, some y => some (x.1 ++ y.1, x.2 ++ y.2)
    | _, _ => none
  | _, _ => none
end
def matO : OPat → Ob → Option Found
  | .fix ty l, .fix ty' cs => cond (ty == ty') (matL l cs) none
  | .grow ty v sz sh, .grow ty' v' sz' sh' xs => cond (ty == ty' && (v == v' && (sz == sz' && sh.beq sh'))) (some ([.slice sz sh xs .ro], [])) none
  | .dead, .dead => some ([], [])
  | .dead, .froz .. => some ([], [])
  | _, _ => none
def matH : List OPat → List Ob → Option Found
  | [], [] => some ([], [])
  | p :: l, a :: as => match matO p a, matH l as with
    | some x, some y => some (x.1 ++ y.1, x.2 ++ y.2)
    | _, _ => none
  | _, _ => none
def Stand (ls : List AV) (i : Nat) (x : List AV) : Prop := ∀ j l, x[j]? = some l → ls.getD (i + j) .junk = l
def Cons (ls : List AV) (cs : List (Nat × Nat)) : Prop := ∀ p ∈ cs, p.2 = (getXs (ls.getD p.1 .junk)).length
theorem Stand.left {ls : List AV} {i : Nat} {x y : List AV} (h : Stand ls i (x ++ y)) : Stand ls i x := fun j l e => h j l (by
  rw [List.getElem?_append_left (length_of_get e)]; exact e)
theorem Stand.right {ls : List AV} {i : Nat} {x y : List AV} (h : Stand ls i (x ++ y)) : Stand ls (i + x.length) y := fun j l e => by
  have := h (x.length + j) l (by rw [List.getElem?_append_right (by omega)]; simpa using e)
  rw [Nat.add_assoc]; exact this
theorem Cons.left {ls : List AV} {x y : List (Nat × Nat)} (h : Cons ls (x ++ y)) : Cons ls x := fun p hp => h p (by simp [hp])
theorem Cons.right {ls : List AV} {x y : List (Nat × Nat)} (h : Cons ls (x ++ y)) : Cons ls y := fun p hp => h p (by simp [hp])
theorem cells_one {x : AV} (h : oneCell x = true) : cells x = [x] := by
  cases x <;> first | rfl | simp [oneCell] at h
theorem flat_oneC : ∀ {xs : List AV}, xs.all oneCell = true → flat xs = xs
  | [], _ => rfl
  | x :: xs, h => by
    simp only [List.all_cons, Bool.and_eq_true] at h
    show cells x ++ flat xs = _
    rw [cells_one h.1, flat_oneC h.2]; rfl
mutual
theorem mat_V {ls : List AV} {g : Gh} : ∀ (p : Pat) (a : AV) {x : Found}, mat p a = some x → x.1.length = p.n ∧ ∀ i, Stand ls i x.1 → Cons ls x.2 → (∀ v, V g a v → V g (inst ls p i) v) ∧ (oneCell a = true → oneCell (inst ls p i) = true)
  | .leaf s, a, x, h => by
    simp only [mat] at h
    split at h
    · rename_i a' hf
      simp only [Option.some.injEq] at h; subst h
      obtain ⟨f1, f2, f3, f4⟩ := fit_sound s a a' hf
      refine ⟨rfl, fun i hs _ => ?_⟩
      have := hs 0 a' rfl
      simp only [Nat.add_zero] at this
      simp only [inst, this, f1]
      refine ⟨fun v hv => f2 _ _ hv, fun ho => ?_⟩
      clear this hs f1 f2 f3 f4
      unfold fit at hf
      split at hf <;> (try (split at hf)) <;> simp at hf <;> (try subst hf) <;> (try rfl) <;> (try exact ho) <;> simp [oneCell] at ho
    · simp at h
  | .lit y, a, x, h => by
    simp only [mat] at h
    cases hc : sameA y a with
    | false => rw [hc] at h; simp at h
    | true =>
      rw [hc] at h; simp at h; subst h
      have := sameA_eq hc; subst this
      exact ⟨rfl, fun i _ _ => ⟨fun v hv => hv, fun e => e⟩⟩
  | .own id v k, a, x, h => by
    cases a with
    | oslice id' v' len =>
      simp only [mat] at h
      cases hc : (id == id' && v == v') with
      | false => rw [hc] at h; simp at h
      | true =>
        rw [hc] at h; simp at h; subst h
        simp only [Bool.and_eq_true, beq_iff_eq] at hc
        obtain ⟨rfl, rfl⟩ := hc
        refine ⟨rfl, fun i _ hcs => ?_⟩
        have := hcs (k, len) (by simp)
        simp only at this; subst this
        simp only [inst]
        exact ⟨fun v hv => hv, fun _ => rfl⟩
    | _ => simp [mat] at h
  | .rptr l, a, x, h => by
    cases a with
    | rptr cs =>
      simp only [mat] at h
      obtain ⟨k1, k2⟩ := matL_V (ls := ls) (g := g) l cs h
      refine ⟨by simpa [Pat.n] using k1, fun i hs hc => ⟨fun v hv => ?_, fun _ => rfl⟩⟩
      obtain ⟨k3, -⟩ := k2 i hs hc
      cases hv with
      | rptr _ vs b o h1 h2 h3 =>
        have := k3 vs ⟨h1, h2⟩
        simp only [inst]
        exact .rptr _ vs b o this.1 this.2 h3
    | _ => simp [mat] at h
  | .agg l, a, x, h => by
    cases a with
    | agg cs =>
      simp only [mat] at h
      obtain ⟨k1, k2⟩ := matL_V (ls := ls) (g := g) l cs h
      refine ⟨by simpa [Pat.n] using k1, fun i hs hc => ⟨fun v hv => ?_, fun e => by simp [oneCell] at e⟩⟩
      obtain ⟨k3, -⟩ := k2 i hs hc
      cases hv with
      | agg _ vs h1 h2 =>
        have := k3 vs.toList ⟨by simpa using h1, fun i c v e1 e2 => h2 i c v e1 (by simpa using e2)⟩
        simp only [inst]
        exact .agg _ vs (by simpa using this.1) (fun i c v e1 e2 => this.2 i c v e1 (by simpa using e2))
    | _ => simp [mat] at h
  | .tuple l, a, x, h => by
    cases a with
    | tuple cs =>
      simp only [mat] at h
      obtain ⟨k1, k2⟩ := matL_V (ls := ls) (g := g) l cs h
      refine ⟨by simpa [Pat.n] using k1, fun i hs hc => ⟨fun v hv => ?_, fun e => by simp [oneCell] at e⟩⟩
      obtain ⟨k3, -⟩ := k2 i hs hc
      cases hv with
      | tuple _ vs h1 h2 =>
        have := k3 vs.toList ⟨by simpa using h1, fun i c v e1 e2 => h2 i c v e1 (by simpa using e2)⟩
        simp only [inst]
        exact .tuple _ vs (by simpa using this.1) (fun i c v e1 e2 => this.2 i c v e1 (by simpa using e2))
    | _ => simp [mat] at h
  | .func f pa pb, a, x, h => by
    cases a with
    | func f' pre post =>
      simp only [mat] at h
      cases hc : (f == f') with
      | false => rw [hc] at h; simp at h
      | true =>
        rw [hc] at h
        simp only [cond_true] at h
        simp only [beq_iff_eq] at hc; subst hc
        split at h
        · rename_i u v hu hv
          simp only [Option.some.injEq] at h; subst h
          obtain ⟨k1, k2⟩ := matL_V (ls := ls) (g := g) pa pre hu
          obtain ⟨j1, j2⟩ := matL_V (ls := ls) (g := g) pb post hv
          refine ⟨by simp [Pat.n, k1, j1], fun i hs hc => ⟨fun w hw => ?_, fun _ => rfl⟩⟩
          obtain ⟨k3, -⟩ := k2 i hs.left hc.left
          obtain ⟨j3, -⟩ := j2 (i + Pat.nL pa) (by rw [← k1]; exact hs.right) hc.right
          cases hw with
          | func _ _ _ vs ws h1 h2 h3 h4 =>
            have a1 := k3 vs.toList ⟨by simpa using h1, fun i c v e1 e2 => h2 i c v e1 (by simpa using e2)⟩
            have a2 := j3 ws.toList ⟨by simpa using h3, fun i c v e1 e2 => h4 i c v e1 (by simpa using e2)⟩
            simp only [inst]
            exact .func f _ _ vs ws (by simpa using a1.1) (fun i c v e1 e2 => a1.2 i c v e1 (by simpa using e2)) (by simpa using a2.1) (fun i c v e1 e2 => a2.2 i c v e1 (by simpa using e2))
        · simp at h
    | _ => simp [mat] at h
  | .sl l, a, x, h => by
    simp only [mat] at h
    split at h
    · rename_i sz sh xs k hf
      obtain ⟨f1, f2, f3, f4⟩ := fit_sound _ _ _ hf
      have : AV.slice sz sh xs k = .slice 1 .any xs .ro := by rw [← f1]; rfl
      simp only [AV.slice.injEq, true_and] at this
      obtain ⟨rfl, rfl, rfl⟩ := this
      cases ho : xs.all oneCell with
      | false => rw [ho] at h; simp at h
      | true =>
        rw [ho] at h
        simp only [cond_true] at h
        obtain ⟨k1, k2⟩ := matL_V (ls := ls) (g := g) l xs h
        refine ⟨by simpa [Pat.n] using k1, fun i hs hc => ⟨fun v hv0 => ?_, fun _ => rfl⟩⟩
        have hv := f2 g v hv0
        obtain ⟨k3, k4⟩ := k2 i hs hc
        simp only [inst]
        have ho' : (instL ls l i).all oneCell = true := List.all_eq_true.2 (k4 (List.all_eq_true.1 ho))
        have len : ∀ ys : List Value, VL g xs ys → xs.length = (instL ls l i).length := fun ys hy => hy.1.trans (k3 ys hy).1.symm
        cases hv with
        | slice _ _ _ _ vs b o c h1 h2 h3 h4 h5 h6 =>
          rw [flat_oneC ho] at h1 h2
          have hV := k3 vs ⟨h1, h2⟩
          have e := len vs ⟨h1, h2⟩
          rw [e]
          rw [e] at h5 h6
          refine .slice 1 .any _ .ro vs b o c ?_ ?_ h3 (fun y hy => ?_) h5 h6
          · rw [flat_oneC ho']; exact hV.1
          · rw [flat_oneC ho']; exact hV.2
          · have := List.all_eq_true.1 ho' y hy
            rw [cells_one this]
            exact ⟨by cases y <;> rfl, rfl, by simpa using this⟩
        | slice0 =>
          have e := len [] ⟨rfl, fun _ _ _ e => by simp at e⟩
          have : instL ls l i = [] := List.length_eq_zero_iff.1 e.symm
          rw [this]; exact .slice0 _ _
        | slice1 =>
          have e := len [] ⟨rfl, fun _ _ _ e => by simp at e⟩
          have : instL ls l i = [] := List.length_eq_zero_iff.1 e.symm
          rw [this]; exact .slice1 _ _ _ _ _
    · simp at h
  | .fsl sz sh, a, x, h => by
    cases a with
    | fslice sz' sh' xs ys =>
      simp only [mat] at h
      cases hc : (sz == sz' && sh.beq sh') with
      | false => rw [hc] at h; simp at h
      | true =>
        rw [hc] at h; simp at h; subst h
        simp only [Bool.and_eq_true, beq_iff_eq] at hc
        obtain ⟨rfl, hb⟩ := hc
        have := Sh.beq_eq _ _ hb; subst this
        refine ⟨rfl, fun i hs _ => ?_⟩
        have h0 := hs 0 _ rfl
        have h1 := hs 1 _ rfl
        simp only [Nat.add_zero] at h0
        simp only [inst, h0, h1, getXs]
        exact ⟨fun v hv => hv, fun _ => rfl⟩
    | _ => simp [mat] at h
theorem matL_V {ls : List AV} {g : Gh} : ∀ (l : List Pat) (as : List AV) {x : Found}, matL l as = some x → x.1.length = Pat.nL l ∧ ∀ i, Stand ls i x.1 → Cons ls x.2 → (∀ vs, VL g as vs → VL g (instL ls l i) vs) ∧ ((∀ c ∈ as, oneCell c = true) → ∀ c ∈ instL ls l i, oneCell c = true)
  | [], [], x, h => by
    simp only [matL, Option.some.injEq] at h; subst h
    exact ⟨rfl, fun i _ _ => ⟨fun vs hv => hv, fun _ c hc => by simp [instL] at hc⟩⟩
  | [], _ :: _, x, h => by simp [matL] at h
  | _ :: _, [], x, h => by simp [matL] at h
  | p :: l, a :: as, x, h => by
    simp only [matL] at h
    split at h
    · rename_i u v hu hv
      simp only [Option.some.injEq] at h; subst h
      obtain ⟨k1, k2⟩ := mat_V (ls := ls) (g := g) p a hu
      obtain ⟨j1, j2⟩ := matL_V (ls := ls) (g := g) l as hv
      refine ⟨by simp [Pat.nL, k1, j1], fun i hs hc => ?_⟩
      obtain ⟨k3, k4⟩ := k2 i hs.left hc.left
      obtain ⟨j3, j4⟩ := j2 (i + p.n) (by rw [← k1]; exact hs.right) hc.right
      refine ⟨fun vs hv => ?_, fun ho c hc => ?_⟩
      · obtain ⟨v, vs, rfl, h1, h2⟩ := hv.cons_inv
        simp only [instL]
        exact VL.cons (k3 v h1) (j3 vs h2)
      · simp only [instL, List.mem_cons] at hc
        rcases hc with rfl | hc
        · exact k4 (ho a (by simp))
        · exact j4 (fun c hc => ho c (by simp [hc])) c hc
    · simp at h
end
theorem matO_OK {ls : List AV} {g : Gh} {w : World} {i : Nat} : ∀ (p : OPat) (o : Ob) {x : Found}, matO p o = some x → x.1.length = p.n ∧ ∀ j, Stand ls j x.1 → Cons ls x.2 → (ObOK g w i (some o) → ObOK g w i (some (instO ls p j))) ∧ gone (some (instO ls p j)) = gone (some o) := by
  intro p o x h
  cases p with
  | fix ty l =>
    cases o with
    | fix ty' cs =>
      simp only [matO] at h
      cases hty : (ty == ty') with
      | false => rw [hty] at h; simp at h
      | true =>
      rw [hty] at h
      simp only [cond_true] at h
      simp only [beq_iff_eq] at hty
      subst hty
      obtain ⟨k1, k2⟩ := matL_V (ls := ls) (g := g) l cs h
      refine ⟨by simpa [OPat.n] using k1, fun j hs hc => ⟨fun ho => ?_, by simp [instO]⟩⟩
      obtain ⟨k3, k4⟩ := k2 j hs hc
      obtain ⟨c1, b, vs, fz, c2, c3, c4, c5, c6, c7, c8⟩ := ho
      exact ⟨c1, b, vs, fz, c2, c3, c4, k3 _ c5, k4 c6, c7, c8⟩
    | _ => simp [matO] at h
  | grow ty v sz sh =>
    cases o with
    | grow ty' v' sz' sh' xs =>
      simp only [matO] at h
      cases hc : (ty == ty' && (v == v' && (sz == sz' && sh.beq sh'))) with
      | false => rw [hc] at h; simp at h
      | true =>
        rw [hc] at h; simp at h; subst h
        simp only [Bool.and_eq_true, beq_iff_eq] at hc
        obtain ⟨rfl, rfl, rfl, hb⟩ := hc
        have := Sh.beq_eq _ _ hb; subst this
        refine ⟨rfl, fun j hs _ => ?_⟩
        have := hs 0 _ rfl
        simp only [Nat.add_zero] at this
        simp only [instO, this, getXs]
        exact ⟨fun h => h, by simp⟩
    | _ => simp [matO] at h
  | dead =>
    cases o with
    | dead =>
      simp only [matO, Option.some.injEq] at h; subst h
      exact ⟨rfl, fun j _ _ => ⟨fun h => h, by simp [instO]⟩⟩
    | froz a b c d =>
      simp only [matO, Option.some.injEq] at h; subst h
      exact ⟨rfl, fun j _ _ => ⟨fun ⟨h1, _⟩ => ⟨h1, trivial⟩, by simp [instO]⟩⟩
    | _ => simp [matO] at h
theorem matH_OK {ls : List AV} {g : Gh} {w : World} : ∀ (l : List OPat) (hp : List Ob) {x : Found}, matH l hp = some x → x.1.length = (l.map OPat.n).sum ∧ hp.length = l.length ∧
    ∀ j, Stand ls j x.1 → Cons ls x.2 → (instH ls l j).length = l.length ∧ ∀ i k, (ObOK g w (k + i) hp[i]? → ObOK g w (k + i) (instH ls l j)[i]?) ∧ gone (instH ls l j)[i]? = gone hp[i]?
  | [], [], x, h => by
    simp only [matH, Option.some.injEq] at h; subst h
    exact ⟨rfl, rfl, fun j _ _ => ⟨rfl, fun i k => ⟨fun h => h, by simp [instH]⟩⟩⟩
  | [], _ :: _, x, h => by simp [matH] at h
  | _ :: _, [], x, h => by simp [matH] at h
  | p :: l, o :: hp, x, h => by
    simp only [matH] at h
    split at h
    · rename_i u v hu hv
      simp only [Option.some.injEq] at h; subst h
      obtain ⟨j1, j0, j2⟩ := matH_OK (ls := ls) (g := g) (w := w) l hp hv
      have k1 := (matO_OK (ls := ls) (g := g) (w := w) (i := 0) p o hu).1
      refine ⟨by simp [k1, j1], by simp [j0], fun j hs hc => ?_⟩
      obtain ⟨j3, j4⟩ := j2 (j + p.n) (by rw [← k1]; exact hs.right) hc.right
      refine ⟨by simp [instH, j3], fun i k => ?_⟩
      cases i with
      | zero =>
        have k2 := (matO_OK (ls := ls) (g := g) (w := w) (i := k + 0) p o hu).2 j hs.left hc.left
        simp only [instH, List.getElem?_cons_zero, Option.some.injEq]
        exact ⟨k2.1, k2.2⟩
      | succ i =>
        have := j4 i (k + 1)
        simp only [instH, List.getElem?_cons_succ]
        rw [show k + 1 + i = k + (i + 1) by omega] at this
        exact this
    · simp at h
theorem matH_R {ls : List AV} {g : Gh} {w : World} {l : List OPat} {hp : List Ob} {x : Found} (h : matH l hp = some x) {j : Nat} (hs : Stand ls j x.1) (hc : Cons ls x.2) (hR : R g w hp) : R g w (instH ls l j) := by
  obtain ⟨-, -, k⟩ := matH_OK (ls := ls) (g := g) (w := w) l hp h
  obtain ⟨-, k⟩ := k j hs hc
  refine ⟨hR.below, hR.base, hR.frz, hR.imm, fun i => ?_, fun i i' b hne h1 h2 => hR.inj i i' b hne (by rw [← (k i 0).2]; exact h1) (by rw [← (k i' 0).2]; exact h2)⟩
  have := (k i 0).1
  rw [Nat.zero_add] at this
  exact this (hR.objs i)
def chkT {τ : Type} (ls : List AV) (t : Tr τ) : List (Nat × Nat) → Tr τ
  | [] => t
  | (k, len) :: cs => .c (len == (getXs (ls.getD k .junk)).length) (chkT ls t cs) .bad
def chkP (ls : List AV) (t : Prop) : List (Nat × Nat) → Prop
  | [] => t
  | (k, len) :: cs => cond (len == (getXs (ls.getD k .junk)).length) (chkP ls t cs) False
theorem chkT_inv {τ : Type} {ls : List AV} {t : Tr τ} {x : τ} : ∀ {cs : List (Nat × Nat)}, (chkT ls t cs).val = some x → Cons ls cs ∧ t.val = some x
  | [], h => ⟨fun p hp => by simp at hp, h⟩
  | (k, len) :: cs, h => by
    simp only [chkT] at h
    cases hb : (len == (getXs (ls.getD k .junk)).length) with
    | false => rw [hb] at h; simp [Tr.val, Tr.fold] at h
    | true =>
      rw [hb] at h
      obtain ⟨h1, h2⟩ := chkT_inv (cs := cs) h
      refine ⟨fun p hp => ?_, h2⟩
      simp only [List.mem_cons] at hp
      rcases hp with rfl | hp
      · simpa using hb
      · exact h1 p hp
theorem chkP_inv {ls : List AV} {t : Prop} : ∀ {cs : List (Nat × Nat)}, chkP ls t cs → Cons ls cs ∧ t
  | [], h => ⟨fun p hp => by simp at hp, h⟩
  | (k, len) :: cs, h => by
    simp only [chkP] at h
    cases hb : (len == (getXs (ls.getD k .junk)).length) with
    | false => rw [hb] at h; exact h.elim
    | true =>
      rw [hb] at h
      obtain ⟨h1, h2⟩ := chkP_inv (cs := cs) h
      refine ⟨fun p hp => ?_, h2⟩
      simp only [List.mem_cons] at hp
      rcases hp with rfl | hp
      · simpa using hb
      · exact h1 p hp
def patF (pats : List Pat) (K : List AV → Tr AV) (args : List AV) : Tr AV := match matL pats args with
  | some x => chkT x.1 (K x.1) x.2
  | none => .bad
def patH (pats : List Pat) (ops : List OPat) (K : List AV → Tr (AV × List Ob)) (args : List AV) (hp : List Ob) : Tr (AV × List Ob) := match matL pats args, matH ops hp with
  | some x, some y => chkT (x.1 ++ y.1) (K (x.1 ++ y.1)) (x.2 ++ y.2)
  | _, _ => .bad
def outP (O : Pat) (K : List AV → Prop) (r : AV) (_ : List Ob) : Prop := match mat O r with
  | some x => chkP x.1 (K x.1) x.2
  | none => False
def outH (O : Pat) (OO : List OPat) (K : List AV → Prop) (r : AV) (hp : List Ob) : Prop := match mat O r, matH OO hp with
  | some x, some y => chkP (x.1 ++ y.1) (K (x.1 ++ y.1)) (x.2 ++ y.2)
  | _, _ => False
theorem Stand.self (ls : List AV) : Stand ls 0 ls := fun j l e => by rw [Nat.zero_add, List.getD_eq_getElem?_getD, e]; rfl
def opt {ρ τ : Type} [Inhabited ρ] (o : Option ρ) (k : ρ → Tr τ) : Tr τ := .c o.isSome (k (o.getD default)) .bad
theorem opt_inv {ρ τ : Type} [Inhabited ρ] {o : Option ρ} {k : ρ → Tr τ} {r : τ} (h : (opt o k).val = some r) : ∃ x, o = some x ∧ (k x).val = some r := by
  cases o with
  | none => simp [opt, Tr.val, Tr.fold] at h
  | some x => exact ⟨x, rfl, h⟩
theorem outP_inv {O : Pat} {K : List AV → Prop} {r : AV} {hp : List Ob} (h : outP O K r hp) : ∃ ls, K ls ∧ Lo r (inst ls O 0) := by
  unfold outP at h
  split at h
  · rename_i x hx
    obtain ⟨h1, h2⟩ := chkP_inv h
    exact ⟨x.1, h2, fun g v hv => ((mat_V (ls := x.1) (g := g) O r hx).2 0 (Stand.self _) h1).1 v hv⟩
  · exact h.elim
theorem outH_inv {O : Pat} {OO : List OPat} {K : List AV → Prop} {r : AV} {hp : List Ob} (h : outH O OO K r hp) : ∃ ls, K ls ∧ Wk r hp (inst ls O 0) (instH ls OO O.n) := by
  unfold outH at h
  split at h
  · rename_i x y hx hy
    obtain ⟨h1, h2⟩ := chkP_inv h
    refine ⟨_, h2, fun g w v hR hv => ⟨g, Gh.le.refl g, ?_, ?_⟩⟩
    · have hn := (mat_V (ls := x.1 ++ y.1) (g := g) O r hx).1
      refine matH_R hy ?_ h1.right hR
      have := (Stand.self (x.1 ++ y.1)).right
      rw [Nat.zero_add, hn] at this; exact this
    · exact ((mat_V (ls := x.1 ++ y.1) (g := g) O r hx).2 0 (Stand.self _).left h1.left).1 v hv
  · exact h.elim
section
variable {E : En} {f : FuncId} {fn : Func} {c : Code}
theorem sound_pure_pat (hE : EnOK E) (hm : E.P.follows .mixedOrders = true) (h0 : E.keep = 0) (hf : E.P.funcs[f]? = some fn) (hb : fn.body = some c)
    (hn : (fn.name == "runtime.NumGoroutine") = false) {pats : List Pat} {K : List AV → Tr AV} (h : ∀ ls r, (K ls).val = some r → callA E fn (instL ls pats 0) [] (fun r' _ => Lo r' r)) :
    Sound E.P f (pureS (patF pats K)) :=
  sound_pure_g hE hm h0 hf hb hn fun args r hF g vs hv => by
    unfold patF at hF
    split at hF
    · rename_i x hx
      obtain ⟨h1, h2⟩ := chkT_inv hF
      exact ⟨_, ((matL_V (ls := x.1) (g := g) pats args hx).2 0 (Stand.self _) h1).1 vs hv, h _ _ h2⟩
    · simp [Tr.val, Tr.fold] at hF
theorem sound_heap_pat (hE : EnOK E) (hm : E.P.follows .mixedOrders = true) (hf : E.P.funcs[f]? = some fn) (hb : fn.body = some c)
    (hn : (fn.name == "runtime.NumGoroutine") = false) {pats : List Pat} {ops : List OPat} (hk : ops.length ≤ E.keep) (hk2 : ops.length ≤ E.base) {K : List AV → Tr (AV × List Ob)} (h : ∀ ls r, (K ls).val = some r → callA E fn (instL ls pats 0) (instH ls ops (Pat.nL pats)) (fun r' hp' => Wk r' hp' r.1 r.2)) :
    Sound E.P f (heapS (patH pats ops K)) :=
  sound_heap hE hm hf hb hn fun args hp r hp2 hF hl g w vs hR hv => by
    unfold patH at hF
    split at hF
    · rename_i x y hx hy
      obtain ⟨h1, h2⟩ := chkT_inv hF
      have hlen := (matL_V (ls := x.1 ++ y.1) (g := g) pats args hx).1
      have hs : Stand (x.1 ++ y.1) (Pat.nL pats) y.1 := by
        have := (Stand.self (x.1 ++ y.1)).right
        rw [Nat.zero_add, hlen] at this; exact this
      obtain ⟨-, q1, q2⟩ := matH_OK (ls := x.1 ++ y.1) (g := g) (w := w) ops hp hy
      refine ⟨g, _, _, E.keep, Gh.le.refl g, matH_R hy hs h1.right hR, ((matL_V (ls := x.1 ++ y.1) (g := g) pats args hx).2 0 (Stand.self _).left h1.left).1 vs hv, ?_, ?_, h _ _ h2⟩
      · rw [(q2 _ hs h1.right).1]; exact hk
      · rw [(q2 _ hs h1.right).1]; exact hk2
    · simp [Tr.val, Tr.fold] at hF
theorem flat_end {ρ : Type} {O : Pat} {tup : List AV → ρ} {res : ρ → AV} (hres : ∀ ls, inst ls O 0 = res (tup ls)) {as : List AV} {hp : List Ob} {T : Tr ρ}
    (hc : ∀ Rv : ρ → Prop, callA E fn as hp (outP O fun ls => Rv (tup ls)) = T.fold False Rv) {x : ρ} (hx : T.val = some x) : callA E fn as hp (fun r' _ => Lo r' (res x)) := by
  refine callA_mono (fun y h hy => ?_) (Eq.mpr (hc (· = x)) (Tr.fold_P (R := (· = x)) rfl T hx))
  obtain ⟨ls, rfl, h2⟩ := outP_inv hy
  rw [hres] at h2; exact h2
theorem mach_end {σ ρ : Type} {O : Pat} {tup : List AV → ρ} {res : ρ → AV} (hres : ∀ ls, inst ls O 0 = res (tup ls)) {as : List AV} {hp : List Ob} {step : σ → Tr (σ ⊕ ρ)} {T : Tr (σ ⊕ ρ)} {L : (ρ → Prop) → σ → Prop}
    (hc : ∀ Rv : ρ → Prop, callA E fn as hp (outP O fun ls => Rv (tup ls)) = T.fold False (Sum.elim (L Rv) Rv)) (hl : ∀ Rv s, (step s).fold False (Sum.elim (L Rv) Rv) → L Rv s)
    {x : ρ} (hx : run step T = some x) : callA E fn as hp (fun r' _ => Lo r' (res x)) := by
  obtain ⟨n, hn⟩ := run_some.1 hx
  refine callA_mono (fun y h hy => ?_) (Eq.mpr (hc (· = x)) (machine_sound (R := (· = x)) (hl _) rfl n T hn))
  obtain ⟨ls, rfl, h2⟩ := outP_inv hy
  rw [hres] at h2; exact h2
theorem flat_endH {ρ : Type} {O : Pat} {OO : List OPat} {tup : List AV → ρ} {res : ρ → AV × List Ob} (hres : ∀ ls, (inst ls O 0, instH ls OO O.n) = res (tup ls)) {as : List AV} {hp : List Ob} {T : Tr ρ}
    (hc : ∀ Rv : ρ → Prop, callA E fn as hp (outH O OO fun ls => Rv (tup ls)) = T.fold False Rv) {x : ρ} (hx : T.val = some x) : callA E fn as hp (fun r' hp' => Wk r' hp' (res x).1 (res x).2) := by
  refine callA_mono (fun y h hy => ?_) (Eq.mpr (hc (· = x)) (Tr.fold_P (R := (· = x)) rfl T hx))
  obtain ⟨ls, rfl, h2⟩ := outH_inv hy
  rw [← hres]; exact h2
theorem mach_endH {σ ρ : Type} {O : Pat} {OO : List OPat} {tup : List AV → ρ} {res : ρ → AV × List Ob} (hres : ∀ ls, (inst ls O 0, instH ls OO O.n) = res (tup ls)) {as : List AV} {hp : List Ob} {step : σ → Tr (σ ⊕ ρ)} {T : Tr (σ ⊕ ρ)} {L : (ρ → Prop) → σ → Prop}
    (hc : ∀ Rv : ρ → Prop, callA E fn as hp (outH O OO fun ls => Rv (tup ls)) = T.fold False (Sum.elim (L Rv) Rv)) (hl : ∀ Rv s, (step s).fold False (Sum.elim (L Rv) Rv) → L Rv s)
    {x : ρ} (hx : run step T = some x) : callA E fn as hp (fun r' hp' => Wk r' hp' (res x).1 (res x).2) := by
  obtain ⟨n, hn⟩ := run_some.1 hx
  refine callA_mono (fun y h hy => ?_) (Eq.mpr (hc (· = x)) (machine_sound (R := (· = x)) (hl _) rfl n T hn))
  obtain ⟨ls, rfl, h2⟩ := outH_inv hy
  rw [← hres]; exact h2
end
def tagA : AV → Nat
  | .nilptr => 1
  | .nilfunc => 2
  | .ptr .. | .rptr _ | .optr .. => 3
  | .func f _ _ => 10 + f
  | .slice _ .any xs _ | .fslice _ .any xs _ => 1000000 + 10000 * xs.length + (match xs with | .func f _ _ :: _ => f | _ => 0)
  | _ => 0
def tagsB : List Nat → List AV → Bool
  | [], [] => true
  | t :: ts, a :: as => t == tagA a && tagsB ts as
  | _, _ => false
def orS (p : List AV → Bool) (s t : Spec) : Spec := fun args hp => cond (p args) (s args hp) (t args hp)
theorem Sound.or {P : Program} {f : FuncId} {s t : Spec} (p : List AV → Bool) (hs : Sound P f s) (ht : Sound P f t) : Sound P f (orS p s t) where
  body := hs.body
  pure := fun args hp r hp' h => by
    unfold orS at h ⊢
    cases hb : p args with
    | true => rw [hb] at h; simpa [hb] using hs.pure args hp r hp' h
    | false => rw [hb] at h; simpa [hb] using ht.pure args hp r hp' h
  read := fun args hp r hp' h => by
    unfold orS at h
    cases hb : p args with
    | true => rw [hb] at h; exact hs.read args hp r hp' h
    | false => rw [hb] at h; exact ht.read args hp r hp' h
  heap := fun args hp r hp' h P hP hc h2 hl ho => by
    unfold orS at h ⊢
    cases hb : p args with
    | true => rw [hb] at h; simpa [hb] using hs.heap args hp r hp' h P hP hc h2 hl ho
    | false => rw [hb] at h; simpa [hb] using ht.heap args hp r hp' h P hP hc h2 hl ho
  calls := fun args hp r hp' c h => by
    unfold orS at h
    cases hb : p args with
    | true => rw [hb] at h; exact hs.calls args hp r hp' c h
    | false => rw [hb] at h; exact ht.calls args hp r hp' c h
end Go.Cx
