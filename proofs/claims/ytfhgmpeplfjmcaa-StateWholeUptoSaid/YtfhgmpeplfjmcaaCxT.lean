/- Operations: what they hang on. -/
import Derived.Test.YtfhgmpeplfjmcaaCxS
namespace Go.Cx
noncomputable section
set_option linter.unusedSimpArgs false
theorem opF_congr {E : En} {o : Oper} {fr fr' : List AV} {hp : List Ob} (h : ∀ x ∈ o.op.operands.toList, evalA fr x = evalA fr' x) : opF E o fr hp = opF E o fr' hp := by
  unfold opF opA
  dsimp only
  generalize ownOf E o = ow
  generalize frzOf E o = fz
  have parts : ∀ (ps : Array (Nat × Operand)), (∀ x ∈ ps.toList.map (·.2), evalA fr x = evalA fr' x) → (ps.toList.map fun p => (p.1, evalA fr p.2)) = (ps.toList.map fun p => (p.1, evalA fr' p.2)) := by
    intro ps hps
    apply List.map_congr_left
    intro p hp
    rw [hps p.2 (List.mem_map.2 ⟨p, hp, rfl⟩)]
  have opt : ∀ (x : Option Operand), (∀ y ∈ x.toList, evalA fr y = evalA fr' y) → x.map (evalA fr) = x.map (evalA fr') := by
    intro x hx
    cases x with
    | none => rfl
    | some y => simp [hx y (by simp)]
  cases ho : o.op with
  | build t ps =>
    rw [ho] at h
    simp only
    rw [parts ps (by simpa [Op.operands] using h)]
  | buildSlice t n ps =>
    rw [ho] at h
    simp only
    rw [parts ps (by simpa [Op.operands] using h)]
  | makeFunc fn first captured =>
    rw [ho] at h
    simp only [Op.operands, Array.toList_append, List.mem_append] at h
    have e1 : first.toList.map (evalA fr) = first.toList.map (evalA fr') := List.map_congr_left fun x hx => h x (.inl hx)
    have e2 : captured.toList.map (evalA fr) = captured.toList.map (evalA fr') := List.map_congr_left fun x hx => h x (.inr hx)
    cases fn <;> simp only [e1, e2]
  | slice t x lo hi mx =>
    rw [ho] at h
    simp only [Op.operands, Array.toList_append, List.mem_append] at h
    have e0 := h x (.inl (.inl (.inl (by simp))))
    have e1 := opt lo (fun y hy => h y (.inl (.inl (.inr (by simpa using hy)))))
    have e2 := opt hi (fun y hy => h y (.inl (.inr (by simpa using hy))))
    cases mx <;> simp only [e0, e1, e2]
  | call c =>
    rw [ho] at h
    simp only [Op.operands, Call.operands, Array.toList_append, List.mem_append] at h
    have e1 : c.args.toList.map (evalA fr) = c.args.toList.map (evalA fr') := List.map_congr_left fun x hx => h x (.inr hx)
    cases hc : c.callee with
    | value f =>
      rw [hc] at h
      have e2 := h f (.inl (by simp))
      simp only [hc, e1, e2]
    | invoke r m => simp only [hc]
    | builtin b => simp only [hc, e1]
  | _ =>
    first
      | rfl
      | (rw [ho] at h
         simp only [Op.operands] at h
         simp [h])
theorem loadA_cls {P : Program} {t : TypeId} {a v : AV} {hp : List Ob} {c : Cls} (h : loadA none P t a hp (fun v c => some (v, c)) = some (v, c)) :
    c ≠ .write ∧ (c = .pure → ∀ h2, loadA none P t a h2 (fun v c => some (v, c)) = some (v, .pure)) := by
  have cl : ∀ {cs : List AV} {off : Nat} {c' : Cls}, fromCells none P t cs off (fun v => some (v, c')) = some (v, c) → c = c' := by
    intro cs off c' hh
    unfold fromCells at hh
    split at hh
    · split at hh <;> simp at hh; exact hh.2.symm
    · split at hh <;> simp at hh; exact hh.2.symm
    · simp at hh
    · split at hh <;> simp at hh; exact hh.2.symm
  unfold loadA at h ⊢
  split at h
  · split at h
    · have := cl h; subst this; exact ⟨by simp, fun e => by simp at e⟩
    · simp at h
  · have := cl h; subst this
    exact ⟨by simp, fun _ _ => h⟩
  · replace h := grownR_inv h
    obtain ⟨sz', sh, xs, he, rfl, h⟩ := h
    replace h := ask_some2 h
    have := cl h.2.2; subst this; exact ⟨by simp, fun e => by simp at e⟩
  · simp at h
theorem elems_cls {hp : List Ob} {x : AV} {sz : Nat} {sh : Sh} {xs : List AV} {c : Cls} (h : elems none hp x (fun a b d e => some (a, b, d, e)) = some (sz, sh, xs, c)) :
    c ≠ .write ∧ (c = .pure → ∀ {β : Type} (h2 : List Ob) (K : Nat → Sh → List AV → Cls → Option β), elems none h2 x K = K sz sh xs .pure) := by
  unfold elems at h ⊢
  split at h
  · simp at h; obtain ⟨rfl, rfl, rfl, rfl⟩ := h; exact ⟨by simp, fun _ _ _ _ => rfl⟩
  · simp at h; obtain ⟨rfl, rfl, rfl, rfl⟩ := h; exact ⟨by simp, fun _ _ _ _ => rfl⟩
  · simp at h; obtain ⟨rfl, rfl, rfl, rfl⟩ := h; exact ⟨by simp, fun _ _ _ _ => rfl⟩
  · replace h := grownR_inv h
    obtain ⟨sz', sh', xs', he, rfl, h⟩ := h
    simp at h; obtain ⟨rfl, rfl, rfl, rfl⟩ := h
    exact ⟨by simp, fun e => by simp at e⟩
  · simp at h
structure ClsOK (F : List Ob → Option (AV × List Ob × Cls)) (hp : List Ob) (v : AV) (hp' : List Ob) (c : Cls) : Prop where
  same : c.isWrite = false → hp' = hp
  pure : c = .pure → ∀ h2, F h2 = some (v, h2, .pure)
theorem cutA_cls {own : Bool} {esz : Nat} {x v : AV} {lo hi : Option Int} {hp hp' : List Ob} {c : Cls} (h : cutA none own esz x lo hi hp (fun v h c => some (v, h, c)) = some (v, hp', c)) :
    ClsOK (fun hp => cutA none own esz x lo hi hp (fun v h c => some (v, h, c))) hp v hp' c := by
  unfold cutA at h
  split at h
  · have k := (ask_some4 h).2.2.2.2
    simp only [Option.some.injEq, Prod.mk.injEq] at k; obtain ⟨rfl, rfl, rfl⟩ := k
    refine ⟨fun _ => rfl, fun _ h2 => ?_⟩
    have a := ask_some4 h
    simp only [cutA, a.1, a.2.1, a.2.2.1, a.2.2.2.1]; rfl
  · have k := (ask_some2 h).2.2
    simp only [Option.some.injEq, Prod.mk.injEq] at k; obtain ⟨rfl, rfl, rfl⟩ := k
    refine ⟨fun _ => rfl, fun _ h2 => ?_⟩
    have a := ask_some2 h
    simp only [cutA, a.1, a.2.1]; rfl
  · have k := (ask_some5 h).2.2.2.2.2
    simp only [Option.some.injEq, Prod.mk.injEq] at k; obtain ⟨rfl, rfl, rfl⟩ := k
    refine ⟨fun _ => rfl, fun _ h2 => ?_⟩
    have a := ask_some5 h
    simp only [cutA, a.1, a.2.1, a.2.2.1, a.2.2.2.1, a.2.2.2.2.1]; rfl
  · have k := (ask_some5 h).2.2.2.2.2
    simp only [Option.some.injEq, Prod.mk.injEq] at k; obtain ⟨rfl, rfl, rfl⟩ := k
    refine ⟨fun _ => rfl, fun _ h2 => ?_⟩
    have a := ask_some5 h
    simp only [cutA, a.1, a.2.1, a.2.2.1, a.2.2.2.1, a.2.2.2.2.1]; rfl
  · split at h
    · replace h := grownR_inv h
      obtain ⟨sz, sh, xs, he, rfl, h⟩ := h
      have k := (ask_some5 h).2.2.2.2.2
      simp only [Option.some.injEq, Prod.mk.injEq] at k; obtain ⟨rfl, rfl, rfl⟩ := k
      exact ⟨fun _ => rfl, fun e => by simp at e⟩
    replace h := grown_inv h
    obtain ⟨tyo, sz, sh, xs, he, rfl, h⟩ := h
    have k := (ask_some5 h).2.2.2.2.2
    split at k
    · have k := (ask_some k).2
      simp only [Option.some.injEq, Prod.mk.injEq] at k; obtain ⟨rfl, rfl, rfl⟩ := k
      exact ⟨fun e => by simp [Cls.isWrite] at e, fun e => by simp at e⟩
    · simp only [Option.some.injEq, Prod.mk.injEq] at k; obtain ⟨rfl, rfl, rfl⟩ := k
      exact ⟨fun e => by simp [Cls.isWrite] at e, fun e => by simp at e⟩
  · simp at h
theorem newGrow_cls {P : Program} {e : TypeId} {sz : Nat} {sh : Sh} {xs : List AV} {hp hp' : List Ob} {v : AV} {c : Cls} {F : List Ob → Option (AV × List Ob × Cls)} (h : newGrow none P e sz sh xs hp (fun v h c => some (v, h, c)) = some (v, hp', c)) : ClsOK F hp v hp' c := by
  obtain ⟨z, _, _, _, _, rfl, rfl, rfl⟩ := newGrow_inv h
  exact ⟨fun e => by simp [Cls.isWrite] at e, fun e => by simp at e⟩
theorem convA_cls {P : Program} {own : Bool} {s d : TypeId} {x v : AV} {hp hp' : List Ob} {c : Cls} (h : convA none P own s d x hp (fun v h c => some (v, h, c)) = some (v, hp', c)) :
    ClsOK (fun hp => convA none P own s d x hp (fun v h c => some (v, h, c))) hp v hp' c := by
  unfold convA at h
  split at h
  · rename_i h1 h2
    simp at h; obtain ⟨rfl, rfl, rfl⟩ := h
    exact ⟨fun _ => rfl, fun _ h3 => by simp only [convA, h1, h2]⟩
  · rename_i h1 h2
    simp at h; obtain ⟨rfl, rfl, rfl⟩ := h
    exact ⟨fun _ => rfl, fun _ h3 => by simp only [convA, h1, h2]⟩
  · split at h
    · split at h
      · simp at h; obtain ⟨rfl, rfl, rfl⟩ := h
        exact ⟨fun _ => rfl, fun e => by simp at e⟩
      · simp at h
    · simp at h
  · split at h
    · split at h
      · simp at h; obtain ⟨rfl, rfl, rfl⟩ := h
        exact ⟨fun _ => rfl, fun e => by simp at e⟩
      · simp at h
    · simp at h
  · rename_i h1 h2
    split at h
    · rename_i he
      split at h
      · simp at h; obtain ⟨rfl, rfl, rfl⟩ := h
        exact ⟨fun e => by simp [Cls.isWrite] at e, fun e => by simp at e⟩
      · rename_i ho
        simp at h; obtain ⟨rfl, rfl, rfl⟩ := h
        exact ⟨fun _ => rfl, fun _ h3 => by simp only [convA, h1, h2, he, if_neg ho]⟩
    · simp at h
  · split at h
    · split at h
      · replace h := grown_inv h
        obtain ⟨ty, sz, sh, xs, ho, rfl, h⟩ := h
        split at h
        · simp at h
        · simp at h; obtain ⟨rfl, rfl, rfl⟩ := h
          exact ⟨fun e => by simp [Cls.isWrite] at e, fun e => by simp at e⟩
      · simp at h
    · simp at h
  · rename_i h1 h2
    split at h
    · rename_i he
      split at h
      · simp at h; obtain ⟨rfl, rfl, rfl⟩ := h
        exact ⟨fun _ => rfl, fun _ h3 => by simp only [convA, h1, h2, he]⟩
      · rename_i hne
        obtain ⟨sz, sh, xs, cl, he', hk⟩ := elems_cps h
        obtain ⟨q1, q2⟩ := elems_cls he'
        split at hk
        · rename_i hs
          simp at hk; obtain ⟨rfl, rfl, rfl⟩ := hk
          refine ⟨fun _ => rfl, fun e h3 => ?_⟩
          simp only [convA, h1, h2, he]
          rw [q2 e h3, if_pos hs]
        · simp at hk
    · simp at h
  · simp at h
def appK (P : Program) (e : TypeId) (s : AV) (how : Option (Nat × Sh)) (ys : List AV) (c : Cls) (hp : List Ob) : Option (AV × List Ob × Cls) :=
  if okHow (sizeA P e) (shA P 8 e) how then
        match (generalizing := false) s with
        | .nilsl => newGrow none P e (sizeA P e) (shA P 8 e) ys hp fun v h c => some (v, h, c)
        | .fslice sz' sh' xs zs => if sz' == sizeA P e && sh'.beq (shA P 8 e) then
            cond (ys.length == 0) (some (.fslice sz' sh' xs zs, hp, c))
              (cond (decide (zs.length < ys.length)) (newGrow none P e (sizeA P e) (shA P 8 e) (xs ++ ys) hp fun v h c => some (v, h, c)) none) else none
        | .slice sz' sh' xs k => if sz' == sizeA P e && sh'.beq (shA P 8 e) then cond (ys.length == 0) (some (.slice sz' sh' xs k, hp, c)) none else none
        | .oslice id ver len => grown none hp id ver len fun ty' sz' sh' xs =>
            if ty' == e && sz' == sizeA P e && sh'.beq (shA P 8 e) then
              match (generalizing := false) zeroA P e with
              | some z => if (cells z).length = sizeA P e then
                  ask none (decide ((xs ++ ys).length * (bytesA P e + 1) < LIM))
                    (some (.oslice id ver (xs ++ ys).length, hp.set id (.grow ty' ver sz' sh' (xs ++ ys)), .write)) else none
              | none => none
            else none
        | _ => none
      else none
theorem appendB_cls {P : Program} {t tx : TypeId} {s x v : AV} {hp hp' : List Ob} {c : Cls} (h : appendB none P t tx s x hp (fun v h c => some (v, h, c)) = some (v, hp', c)) :
    ClsOK (fun hp => appendB none P t tx s x hp (fun v h c => some (v, h, c))) hp v hp' c := by
  have src : ∀ {K : Option (Nat × Sh) → List AV → Cls → List Ob → Option (AV × List Ob × Cls)}, srcA none hp x (fun a b d => K a b d hp) = some (v, hp', c) →
      ∃ how ys cl, K how ys cl hp = some (v, hp', c) ∧ cl ≠ .write ∧ (cl = .pure → ∀ h2, srcA none h2 x (fun a b d => K a b d h2) = K how ys .pure h2) := by
    intro K hs
    unfold srcA at hs ⊢
    split at hs
    · exact ⟨_, _, _, hs, by simp, fun _ _ => rfl⟩
    · exact ⟨_, _, _, hs, by simp, fun _ _ => rfl⟩
    · rename_i hne1 hne2
      obtain ⟨sz, sh, xs, cl, he', hk⟩ := elems_cps hs
      obtain ⟨q1, q2⟩ := elems_cls he'
      exact ⟨_, _, _, hk, q1, fun e h2 => q2 e h2 _⟩
  unfold appendB at h
  split at h
  · rename_i e htk
    simp only at h
    split at h
    · simp at h
    · rename_i hcond
      obtain ⟨how, ys, cl, hk, hw, hp2⟩ := src (K := appK P e s) h
      unfold appK at hk
      have back : ∀ {r : AV}, cl = .pure → (∀ h2, appK P e s how ys .pure h2 = some (r, h2, Cls.pure)) → ∀ h2, appendB none P t tx s x h2 (fun v h c => some (v, h, c)) = some (r, h2, .pure) := by
        intro r e hr h2
        unfold appendB
        rw [htk]
        simp only [if_neg hcond]
        exact (hp2 e h2).trans (hr h2)
      split at hk
      · rename_i hhow
        split at hk
        · exact newGrow_cls hk
        · split at hk
          · rename_i hm
            cases hb : (ys.length == 0) with
            | true =>
              rw [hb] at hk
              simp only [cond_true, Option.some.injEq, Prod.mk.injEq] at hk; obtain ⟨rfl, rfl, rfl⟩ := hk
              exact ⟨fun _ => rfl, fun e => back e fun h2 => by unfold appK; rw [if_pos hhow]; simp only [hm, if_true, hb, cond_true]⟩
            | false =>
              rw [hb] at hk
              simp only [cond_false] at hk
              cases hd : decide (_ < ys.length) with
              | false => rw [hd] at hk; simp at hk
              | true => rw [hd] at hk; exact newGrow_cls hk
          · simp at hk
        · split at hk
          · rename_i hm
            cases hb : (ys.length == 0) with
            | true =>
              rw [hb] at hk
              simp only [cond_true, Option.some.injEq, Prod.mk.injEq] at hk; obtain ⟨rfl, rfl, rfl⟩ := hk
              exact ⟨fun _ => rfl, fun e => back e fun h2 => by unfold appK; rw [if_pos hhow]; simp only [hm, if_true, hb, cond_true]⟩
            | false => rw [hb] at hk; simp at hk
          · simp at hk
        · replace hk := grown_inv hk
          obtain ⟨tyo, sz', sh', xs, hg, rfl, hk⟩ := hk
          split at hk
          · split at hk
            · split at hk
              · have hk := (ask_some hk).2
                simp only [Option.some.injEq, Prod.mk.injEq] at hk; obtain ⟨rfl, rfl, rfl⟩ := hk
                exact ⟨fun e => by simp [Cls.isWrite] at e, fun e => by simp at e⟩
              · simp at hk
            · simp at hk
          · simp at hk
        · simp at hk
      · simp at hk
  · simp at h
theorem appendA_cls {P : Program} {t tx : TypeId} {s x v : AV} {hp hp' : List Ob} {c : Cls} (h : appendA none P t tx s x hp (fun v h c => some (v, h, c)) = some (v, hp', c)) :
    ClsOK (fun hp => appendA none P t tx s x hp (fun v h c => some (v, h, c))) hp v hp' c := by
  by_cases hi : isIntT P tx = true
  · simp only [appendA, if_pos hi] at h ⊢
    have h0 := h
    unfold appendZ at h
    split at h
    · split at h
      · split at h
        · split at h
          · have h := (ask_some h).2
            exact newGrow_cls h
          · simp at h
        · simp at h
      · simp at h
    · simp at h
  · simp only [appendA, if_neg hi] at h ⊢
    exact appendB_cls h
end
end Go.Cx
