/- Machines' runs, plainly. -/
import Derived.Test.YtfhgmpeplfjmcaaCxAl
namespace Go.Cx
set_option linter.unusedSimpArgs false
variable {σ ρ τ : Type}
theorem Tr.val_c (b : Bool) (t e : Tr ρ) : (Tr.c b t e).val = cond b t.val e.val := by cases b <;> rfl
theorem Tr.val_r (x : ρ) : (Tr.r x).val = some x := rfl
theorem Tr.val_bad : (Tr.bad : Tr ρ).val = none := rfl
theorem run_val (step : σ → Tr (σ ⊕ ρ)) (t : Tr (σ ⊕ ρ)) : run step t = t.val.bind (Sum.elim (fun s => run step (step s)) some) := by
  rw [run_unfold]
  induction t with
  | bad => rfl
  | r x => cases x <;> rfl
  | c b t e iht ihe =>
    cases b with
    | true => exact iht
    | false => exact ihe
theorem run_inl {step : σ → Tr (σ ⊕ ρ)} {t : Tr (σ ⊕ ρ)} {s : σ} (h : t.val = some (.inl s)) : run step t = run step (step s) := by
  rw [run_val, h]; rfl
theorem run_inr {step : σ → Tr (σ ⊕ ρ)} {t : Tr (σ ⊕ ρ)} {x : ρ} (h : t.val = some (.inr x)) : run step t = some x := by
  rw [run_val, h]; rfl
theorem run_count {step : σ → Tr (σ ⊕ ρ)} {f : Nat → σ} {n : Nat} (h : ∀ i, i < n → (step (f i)).val = some (.inl (f (i + 1)))) : run step (step (f 0)) = run step (step (f n)) := by
  induction n with
  | zero => rfl
  | succ n ih => rw [ih (fun i hi => h i (by omega)), run_inl (h n (by omega))]
theorem run_until {step : σ → Tr (σ ⊕ ρ)} {f : Nat → σ} {n : Nat} {x : ρ} (h : ∀ i, i < n → (step (f i)).val = some (.inl (f (i + 1)))) (hx : (step (f n)).val = some (.inr x)) : run step (step (f 0)) = some x := by
  rw [run_count h, run_inr hx]
theorem run_exit {step : σ → Tr (σ ⊕ ρ)} {f : Nat → σ} {p : Nat → Bool} {e : ρ} {n : Nat} {z : ρ} (h : ∀ i, i < n → (step (f i)).val = some (if p i = true then .inl (f (i + 1)) else .inr e)) (hz : (step (f n)).val = some (.inr z)) :
    run step (step (f 0)) = some (if (List.range n).all p = true then z else e) := by
  have key : ∀ k i, i + k = n → (∀ j, j < i → p j = true) → run step (step (f i)) = some (if (List.range n).all p = true then z else e) := by
    intro k
    induction k with
    | zero =>
      intro i hi hp
      have : i = n := by omega
      subst this
      rw [run_inr hz, if_pos]
      simpa [List.all_eq_true] using hp
    | succ k ih =>
      intro i hi hp
      have hh := h i (by omega)
      cases hpi : p i with
      | true =>
        rw [hpi, if_pos rfl] at hh
        rw [run_inl hh]
        exact ih (i + 1) (by omega) (fun j hj => by
          by_cases e : j = i
          · subst e; exact hpi
          · exact hp j (by omega))
      | false =>
        rw [hpi] at hh
        rw [run_inr (x := e) (by simpa using hh), if_neg]
        simp only [List.all_eq_true, List.mem_range]
        intro hall
        have := hall i (by omega)
        rw [hpi] at this; simp at this
  exact key n 0 (by omega) (fun j hj => by omega)
def foldE {α β : Type} (g : β → α → β ⊕ ρ) : β → List α → β ⊕ ρ
  | acc, [] => .inl acc
  | acc, x :: l => match g acc x with
    | .inl acc => foldE g acc l
    | .inr e => .inr e
theorem run_foldE {α β : Type} {step : σ → Tr (σ ⊕ ρ)} {F : Nat → β → σ} {l : List α} {g : β → α → β ⊕ ρ} {z : β → Tr (σ ⊕ ρ)} {Inv : Nat → β → Prop}
    (h : ∀ i (hi : i < l.length) acc, Inv i acc → (step (F i acc)).val = some (match g acc l[i] with | .inl acc' => .inl (F (i + 1) acc') | .inr e => .inr e))
    (hI : ∀ i (hi : i < l.length) acc acc', Inv i acc → g acc l[i] = .inl acc' → Inv (i + 1) acc')
    (hz : ∀ acc, Inv l.length acc → step (F l.length acc) = z acc) {acc : β} (h0 : Inv 0 acc) :
    run step (step (F 0 acc)) = match foldE g acc l with | .inl acc' => run step (z acc') | .inr e => some e := by
  have key : ∀ k i acc, i + k = l.length → Inv i acc → run step (step (F i acc)) = match foldE g acc (l.drop i) with | .inl acc' => run step (z acc') | .inr e => some e := by
    intro k
    induction k with
    | zero =>
      intro i acc hi hinv
      have : i = l.length := by omega
      subst this
      rw [List.drop_length, hz acc hinv]; rfl
    | succ k ih =>
      intro i acc hi hinv
      have hlt : i < l.length := by omega
      have hh := h i hlt acc hinv
      rw [List.drop_eq_getElem_cons hlt, foldE]
      cases hg : g acc l[i] with
      | inl acc' =>
        rw [hg] at hh
        rw [run_inl hh]
        exact ih (i + 1) acc' (by omega) (hI i hlt acc acc' hinv hg)
      | inr e =>
        rw [hg] at hh
        rw [run_inr hh]
  simpa using key l.length 0 acc (by omega) h0
end Go.Cx
