/- Results that are given up. -/
import Derived.Test.YtfhgmpeplfjmcaaCxAi
set_option linter.unusedSectionVars false
namespace Go.Cx
set_option linter.unusedSectionVars false
open Go.RowKit (Below)
def enK (P : Program) (T : FuncId → Option Spec) (own : List Nat) (nm : List (Nat × Nm)) (virt virtAt : List (Nat × List (Nat × Nat × Sh))) (keep : Nat) : En := { en P T own nm virt virtAt with keep := keep, base := keep }
theorem TblOK.enK {P : Program} {T : FuncId → Option Spec} (h : TblOK P T) (own : List Nat) (nm : List (Nat × Nm)) (virt virtAt : List (Nat × List (Nat × Nat × Sh))) (keep : Nat) : EnOK (Cx.enK P T own nm virt virtAt keep) := h
def enKB (P : Program) (T : FuncId → Option Spec) (own : List Nat) (nm : List (Nat × Nm)) (virt virtAt : List (Nat × List (Nat × Nat × Sh))) (keep base : Nat) (xgc : Bool) : En := { en P T own nm virt virtAt with keep := keep, base := base, xgc := xgc }
theorem TblOK.enKB {P : Program} {T : FuncId → Option Spec} (h : TblOK P T) (own : List Nat) (nm : List (Nat × Nm)) (virt virtAt : List (Nat × List (Nat × Nat × Sh))) (keep base : Nat) (xgc : Bool) : EnOK (Cx.enKB P T own nm virt virtAt keep base xgc) := h
mutual
def fzA {τ : Type} : AV → List Ob → (AV → List Ob → Tr τ) → Tr τ
  | .oslice id ver len, hp, K => match hp[id]? with
    | some (.grow _ ver' sz sh xs) => .c (ver == ver' && len == xs.length) (K (.slice sz sh xs .ro) (hp.set id (.froz ver' sz sh xs))) .bad
    | some (.froz ver' sz sh xs) => .c (ver == ver' && len == xs.length) (K (.slice sz sh xs .ro) hp) .bad
    | _ => .bad
  | .agg cs, hp, K => fzL cs hp fun cs hp => K (.agg cs) hp
  | .tuple cs, hp, K => fzL cs hp fun cs hp => K (.tuple cs) hp
  | x, hp, K => K x hp
def fzL {τ : Type} : List AV → List Ob → (List AV → List Ob → Tr τ) → Tr τ
  | [], hp, K => K [] hp
  | x :: l, hp, K => fzA x hp fun y hp => fzL l hp fun l hp => K (y :: l) hp
end
def frzR (s : Spec) : Spec := fun args hp => (s args hp).bind fun x => fzA x.1 x.2.1 fun v hp => .r (v, hp, .write)
theorem map_inv {ρ τ : Type} {f : ρ → τ} {t : Tr ρ} {r : τ} (h : (t.map f).val = some r) : ∃ x, t.val = some x ∧ f x = r := by
  rw [Tr.val_map] at h; simpa using h
theorem ret_inv {τ : Type} {x r : τ} (h : (Tr.r x).val = some r) : x = r := by simpa [Tr.val, Tr.fold] using h
mutual
theorem fzA_sound {w : World} : ∀ (x : AV) {g : Gh} {hp : List Ob} {cv : Value} {r : AV × List Ob × Cls} {K : AV → List Ob → Tr (AV × List Ob × Cls)}, (fzA x hp K).val = some r → R g w hp → V g x cv →
    ∃ g' y hp', g.le g' ∧ R g' w hp' ∧ V g' y cv ∧ (K y hp').val = some r
  | .oslice id ver len, g, hp, cv, r, K, h, hR, hV => by
    unfold fzA at h
    split at h
    · rename_i ty ver' sz sh xs he
      cases hb : (ver == ver' && len == xs.length) with
      | false => rw [hb] at h; simp [Tr.val, Tr.fold] at h
      | true =>
        rw [hb] at h
        simp only [Bool.and_eq_true, beq_iff_eq] at hb
        obtain ⟨rfl, rfl⟩ := hb
        obtain ⟨g', h1, h2, h3, -⟩ := hR.give he
        exact ⟨g', _, _, h1, h2, h3 g cv rfl hV, h⟩
    · rename_i ver' sz sh xs he
      cases hb : (ver == ver' && len == xs.length) with
      | false => rw [hb] at h; simp [Tr.val, Tr.fold] at h
      | true =>
        rw [hb] at h
        simp only [Bool.and_eq_true, beq_iff_eq] at hb
        obtain ⟨rfl, rfl⟩ := hb
        exact ⟨g, _, hp, Gh.le.refl g, hR, hR.frozV he hV, h⟩
    · simp [Tr.val, Tr.fold] at h
  | .agg cs, g, hp, cv, r, K, h, hR, hV => by
    unfold fzA at h
    cases hV with
    | agg _ vs hl hv =>
      obtain ⟨g', ys, hp', h1, h2, h3, h4⟩ := fzL_sound cs (vs := vs.toList) h hR ⟨by simpa using hl, fun i c v e1 e2 => hv i c v e1 (by simpa using e2)⟩
      exact ⟨g', _, hp', h1, h2, .agg ys vs (by simpa using h3.1) (fun i c v e1 e2 => h3.2 i c v e1 (by simpa using e2)), h4⟩
  | .tuple cs, g, hp, cv, r, K, h, hR, hV => by
    unfold fzA at h
    cases hV with
    | tuple _ vs hl hv =>
      obtain ⟨g', ys, hp', h1, h2, h3, h4⟩ := fzL_sound cs (vs := vs.toList) h hR ⟨by simpa using hl, fun i c v e1 e2 => hv i c v e1 (by simpa using e2)⟩
      exact ⟨g', _, hp', h1, h2, .tuple ys vs (by simpa using h3.1) (fun i c v e1 e2 => h3.2 i c v e1 (by simpa using e2)), h4⟩
  | .int .., g, hp, cv, r, K, h, hR, hV | .bool .., g, hp, cv, r, K, h, hR, hV | .str .., g, hp, cv, r, K, h, hR, hV | .ptr .., g, hp, cv, r, K, h, hR, hV | .nilptr, g, hp, cv, r, K, h, hR, hV
  | .rptr .., g, hp, cv, r, K, h, hR, hV | .nilsl, g, hp, cv, r, K, h, hR, hV | .slice .., g, hp, cv, r, K, h, hR, hV | .fslice .., g, hp, cv, r, K, h, hR, hV | .optr .., g, hp, cv, r, K, h, hR, hV
  | .func .., g, hp, cv, r, K, h, hR, hV | .nilfunc, g, hp, cv, r, K, h, hR, hV | .nilIface, g, hp, cv, r, K, h, hR, hV | .junk, g, hp, cv, r, K, h, hR, hV => ⟨g, _, hp, Gh.le.refl g, hR, hV, h⟩
theorem fzL_sound {w : World} : ∀ (l : List AV) {g : Gh} {hp : List Ob} {vs : List Value} {r : AV × List Ob × Cls} {K : List AV → List Ob → Tr (AV × List Ob × Cls)}, (fzL l hp K).val = some r → R g w hp → VL g l vs →
    ∃ g' ys hp', g.le g' ∧ R g' w hp' ∧ VL g' ys vs ∧ (K ys hp').val = some r
  | [], g, hp, vs, r, K, h, hR, hV => ⟨g, [], hp, Gh.le.refl g, hR, hV, h⟩
  | x :: l, g, hp, vs, r, K, h, hR, hV => by
    unfold fzL at h
    obtain ⟨v, vs, rfl, h1, h2⟩ := hV.cons_inv
    obtain ⟨g1, y, hp1, i1, i2, i3, i4⟩ := fzA_sound x h hR h1
    obtain ⟨g2, ys, hp2, j1, j2, j3, j4⟩ := fzL_sound l i4 i2 (h2.mono i1)
    exact ⟨g2, y :: ys, hp2, i1.trans j1, j2, VL.cons (i3.mono j1) j3, j4⟩
end
mutual
theorem fzA_write : ∀ (x : AV) {hp : List Ob} {r : AV × List Ob × Cls} {K : AV → List Ob → Tr (AV × List Ob × Cls)}, (∀ y h r, (K y h).val = some r → r.2.2 = .write) → (fzA x hp K).val = some r → r.2.2 = .write
  | .oslice id ver len, hp, r, K, hk, h => by
    unfold fzA at h
    split at h
    · rename_i ty ver' sz sh xs he
      cases hb : (ver == ver' && len == xs.length) with
      | false => rw [hb] at h; simp [Tr.val, Tr.fold] at h
      | true => rw [hb] at h; exact hk _ _ _ h
    · rename_i ver' sz sh xs he
      cases hb : (ver == ver' && len == xs.length) with
      | false => rw [hb] at h; simp [Tr.val, Tr.fold] at h
      | true => rw [hb] at h; exact hk _ _ _ h
    · simp [Tr.val, Tr.fold] at h
  | .agg cs, hp, r, K, hk, h => by unfold fzA at h; exact fzL_write cs (fun y h r e => hk _ _ _ e) h
  | .tuple cs, hp, r, K, hk, h => by unfold fzA at h; exact fzL_write cs (fun y h r e => hk _ _ _ e) h
  | .int .., hp, r, K, hk, h | .bool .., hp, r, K, hk, h | .str .., hp, r, K, hk, h | .ptr .., hp, r, K, hk, h | .nilptr, hp, r, K, hk, h
  | .rptr .., hp, r, K, hk, h | .nilsl, hp, r, K, hk, h | .slice .., hp, r, K, hk, h | .fslice .., hp, r, K, hk, h | .optr .., hp, r, K, hk, h
  | .func .., hp, r, K, hk, h | .nilfunc, hp, r, K, hk, h | .nilIface, hp, r, K, hk, h | .junk, hp, r, K, hk, h => hk _ _ _ h
theorem fzL_write : ∀ (l : List AV) {hp : List Ob} {r : AV × List Ob × Cls} {K : List AV → List Ob → Tr (AV × List Ob × Cls)}, (∀ y h r, (K y h).val = some r → r.2.2 = .write) → (fzL l hp K).val = some r → r.2.2 = .write
  | [], hp, r, K, hk, h => hk _ _ _ h
  | x :: l, hp, r, K, hk, h => by
    unfold fzL at h
    exact fzA_write x (fun y h r e => fzL_write l (fun z h r e => hk _ _ _ e) e) h
end
theorem frzR_write {s : Spec} {args : List AV} {hp : List Ob} {r : AV × List Ob × Cls} (h : (frzR s args hp).val = some r) : r.2.2 = .write := by
  unfold frzR at h
  rw [Tr.val_bind, Option.bind_eq_some_iff] at h
  obtain ⟨x, _, h⟩ := h
  refine fzA_write x.1 (fun y h r e => ?_) h
  have := ret_inv e; subst this; rfl
theorem Sound.frzR {P : Program} {f : FuncId} {s : Spec} (hs : Sound P f s) : Sound P f (Cx.frzR s) where
  body := hs.body
  pure := fun args hp r hp' h => by have := frzR_write h; simp at this
  read := fun args hp r hp' h => by have := frzR_write h; simp at this
  heap := fun args hp r hp' h => by have := frzR_write h; simp at this
  calls := fun args hp r hp' c h g w vs hR hv => by
    unfold Cx.frzR at h
    rw [Tr.val_bind, Option.bind_eq_some_iff] at h
    obtain ⟨⟨r1, hp1, c1⟩, h1, h2⟩ := h
    refine (hs.calls args hp r1 hp1 c1 h1 g w vs hR hv).mono ?_
    rintro e w' ⟨v, g1, rfl, i1, i2, i3⟩
    obtain ⟨g2, y, hp2, j1, j2, j3, j4⟩ := fzA_sound r1 h2 i2 i3
    have := ret_inv j4
    simp only [Prod.mk.injEq] at this
    obtain ⟨rfl, rfl, -⟩ := this
    exact ⟨v, g2, rfl, i1.trans j1, j2, j3⟩
end Go.Cx
namespace Go.Cx
open Go.RowKit (Below)
def Cls.far : Cls → Cls
  | .heap => .heap
  | _ => .write
def frzAr (s : Spec) : Spec := fun args hp => fzL args hp fun args hp => (s args hp).bind fun x => .r (x.1, x.2.1, x.2.2.far)
mutual
theorem fzA_K {Q : AV × List Ob × Cls → Prop} : ∀ (x : AV) {hp : List Ob} {r : AV × List Ob × Cls} {K : AV → List Ob → Tr (AV × List Ob × Cls)}, (∀ y h r, (K y h).val = some r → Q r) → (fzA x hp K).val = some r → Q r
  | .oslice id ver len, hp, r, K, hk, h => by
    unfold fzA at h
    split at h
    · simp only [Tr.val, Tr.fold] at h
      rename_i ver' sz sh xs he
      cases hb : (ver == ver' && len == xs.length) with
      | true => rw [hb] at h; exact hk _ _ _ h
      | false => rw [hb] at h; simp at h
    · simp only [Tr.val, Tr.fold] at h
      rename_i ver' sz sh xs he
      cases hb : (ver == ver' && len == xs.length) with
      | true => rw [hb] at h; exact hk _ _ _ h
      | false => rw [hb] at h; simp at h
    · simp [Tr.val, Tr.fold] at h
  | .agg cs, hp, r, K, hk, h => by unfold fzA at h; exact fzL_K cs (fun y h r e => hk _ _ _ e) h
  | .tuple cs, hp, r, K, hk, h => by unfold fzA at h; exact fzL_K cs (fun y h r e => hk _ _ _ e) h
  | .int .., hp, r, K, hk, h | .bool .., hp, r, K, hk, h | .str .., hp, r, K, hk, h | .ptr .., hp, r, K, hk, h | .nilptr, hp, r, K, hk, h
  | .rptr .., hp, r, K, hk, h | .nilsl, hp, r, K, hk, h | .slice .., hp, r, K, hk, h | .fslice .., hp, r, K, hk, h | .optr .., hp, r, K, hk, h
  | .func .., hp, r, K, hk, h | .nilfunc, hp, r, K, hk, h | .nilIface, hp, r, K, hk, h | .junk, hp, r, K, hk, h => hk _ _ _ h
theorem fzL_K {Q : AV × List Ob × Cls → Prop} : ∀ (l : List AV) {hp : List Ob} {r : AV × List Ob × Cls} {K : List AV → List Ob → Tr (AV × List Ob × Cls)}, (∀ y h r, (K y h).val = some r → Q r) → (fzL l hp K).val = some r → Q r
  | [], hp, r, K, hk, h => hk _ _ _ h
  | x :: l, hp, r, K, hk, h => by
    unfold fzL at h
    exact fzA_K x (fun y h r e => fzL_K l (fun z h r e => hk _ _ _ e) e) h
end
theorem far_write (c : Cls) : c.far.isWrite = true := by cases c <;> rfl
theorem frzAr_write {s : Spec} {args : List AV} {hp : List Ob} {r : AV × List Ob × Cls} (h : (frzAr s args hp).val = some r) : r.2.2.isWrite = true := by
  unfold frzAr at h
  refine fzL_K (Q := fun r => r.2.2.isWrite = true) args (fun y h r e => ?_) h
  rw [Tr.val_bind, Option.bind_eq_some_iff] at e
  obtain ⟨x, _, e⟩ := e
  have := ret_inv e; subst this; exact far_write _
structure FzOK (P : Nat → Prop) (hp h2 hp1 g1 : List Ob) : Prop where
  len : hp1.length = hp.length
  len2 : g1.length = h2.length
  same : ∀ i, P i → g1[i]? = hp1[i]?
  rest : ∀ i, ¬ P i → hp1[i]? = hp[i]? ∧ g1[i]? = h2[i]?
  ids : ∀ i o, hp1[i]? = some o → P i → ∀ j ∈ idsO o, P j
mutual
theorem fzA_loc {P : Nat → Prop} : ∀ (x : AV) {hp h2 : List Ob} {r : AV × List Ob × Cls} {K : AV → List Ob → Tr (AV × List Ob × Cls)}, (fzA x hp K).val = some r → (∀ i ∈ idsOf x, P i) → (∀ i o, hp[i]? = some o → P i → ∀ j ∈ idsO o, P j) →
    h2.length = hp.length → (∀ i, P i → h2[i]? = hp[i]?) → ∃ y hp1 g1, (K y hp1).val = some r ∧ (fzA x h2 K).val = (K y g1).val ∧ (∀ i ∈ idsOf y, P i) ∧ FzOK P hp h2 hp1 g1
  | .oslice id ver len, hp, h2, r, K, h, hi, hc, hl, ho => by
    have hid : P id := hi id (by simp [idsOf])
    unfold fzA at h ⊢
    rw [ho id hid]
    split at h
    · rename_i ty ver' sz sh xs he
      simp only [Tr.val, Tr.fold] at h ⊢
      cases hb : (ver == ver' && len == xs.length) with
      | true =>
        rw [hb] at h
        have lt : id < hp.length := (List.getElem?_eq_some_iff.1 he).1
        have hids := hc id _ he hid
        refine ⟨_, _, _, h, rfl, fun i hh => hids i (by simpa [idsOf, idsO] using hh), ⟨by simp, by simp, fun i hP => ?_, fun i hP => ?_, fun i o hh hP j hj => ?_⟩⟩
        · rw [List.getElem?_set, List.getElem?_set, hl]
          split
          · rfl
          · exact ho i hP
        · have hne : id ≠ i := fun e => hP (e ▸ hid)
          rw [List.getElem?_set, List.getElem?_set, if_neg hne, if_neg hne]
          exact ⟨rfl, rfl⟩
        · rw [List.getElem?_set] at hh
          split at hh
          · rename_i e
            subst e
            simp only [Option.some.injEq] at hh
            subst hh
            exact hids j (by simpa [idsO] using hj)
          · exact hc i o hh hP j hj
      | false => rw [hb] at h; simp at h
    · rename_i ver' sz sh xs he
      simp only [Tr.val, Tr.fold] at h ⊢
      cases hb : (ver == ver' && len == xs.length) with
      | true =>
        rw [hb] at h
        have hids := hc id _ he hid
        exact ⟨_, _, _, h, rfl, fun i hh => hids i (by simpa [idsOf, idsO] using hh), ⟨rfl, rfl, ho, fun i _ => ⟨rfl, rfl⟩, hc⟩⟩
      | false => rw [hb] at h; simp at h
    · simp [Tr.val, Tr.fold] at h
  | .agg cs, hp, h2, r, K, h, hi, hc, hl, ho => by
    unfold fzA at h ⊢
    obtain ⟨y, hp1, g1, k1, k2, k3, k4⟩ := fzL_loc cs h (by simpa [idsOf] using hi) hc hl ho
    exact ⟨_, _, _, k1, k2, by simpa [idsOf] using k3, k4⟩
  | .tuple cs, hp, h2, r, K, h, hi, hc, hl, ho => by
    unfold fzA at h ⊢
    obtain ⟨y, hp1, g1, k1, k2, k3, k4⟩ := fzL_loc cs h (by simpa [idsOf] using hi) hc hl ho
    exact ⟨_, _, _, k1, k2, by simpa [idsOf] using k3, k4⟩
  | .int .., hp, h2, r, K, h, hi, hc, hl, ho | .bool .., hp, h2, r, K, h, hi, hc, hl, ho | .str .., hp, h2, r, K, h, hi, hc, hl, ho | .ptr .., hp, h2, r, K, h, hi, hc, hl, ho | .nilptr, hp, h2, r, K, h, hi, hc, hl, ho
  | .rptr .., hp, h2, r, K, h, hi, hc, hl, ho | .nilsl, hp, h2, r, K, h, hi, hc, hl, ho | .slice .., hp, h2, r, K, h, hi, hc, hl, ho | .fslice .., hp, h2, r, K, h, hi, hc, hl, ho | .optr .., hp, h2, r, K, h, hi, hc, hl, ho
  | .func .., hp, h2, r, K, h, hi, hc, hl, ho | .nilfunc, hp, h2, r, K, h, hi, hc, hl, ho | .nilIface, hp, h2, r, K, h, hi, hc, hl, ho | .junk, hp, h2, r, K, h, hi, hc, hl, ho =>
    ⟨_, hp, h2, h, rfl, hi, ⟨rfl, rfl, ho, fun i _ => ⟨rfl, rfl⟩, hc⟩⟩
theorem fzL_loc {P : Nat → Prop} : ∀ (l : List AV) {hp h2 : List Ob} {r : AV × List Ob × Cls} {K : List AV → List Ob → Tr (AV × List Ob × Cls)}, (fzL l hp K).val = some r → (∀ i ∈ idsL l, P i) → (∀ i o, hp[i]? = some o → P i → ∀ j ∈ idsO o, P j) →
    h2.length = hp.length → (∀ i, P i → h2[i]? = hp[i]?) → ∃ y hp1 g1, (K y hp1).val = some r ∧ (fzL l h2 K).val = (K y g1).val ∧ (∀ i ∈ idsL y, P i) ∧ FzOK P hp h2 hp1 g1
  | [], hp, h2, r, K, h, hi, hc, hl, ho => ⟨_, hp, h2, h, rfl, hi, ⟨rfl, rfl, ho, fun i _ => ⟨rfl, rfl⟩, hc⟩⟩
  | x :: l, hp, h2, r, K, h, hi, hc, hl, ho => by
    unfold fzL at h ⊢
    simp only [idsL, List.mem_append] at hi
    obtain ⟨y, hp1, g1, k1, k2, k3, k4⟩ := fzA_loc x h (fun i hh => hi i (.inl hh)) hc hl ho
    obtain ⟨z, hp2, g2, j1, j2, j3, j4⟩ := fzL_loc l (h2 := g1) k1 (fun i hh => hi i (.inr hh)) k4.ids (by rw [k4.len2, k4.len, hl]) k4.same
    refine ⟨y :: z, hp2, g2, j1, k2.trans j2, fun i hh => ?_, ⟨j4.len.trans k4.len, j4.len2.trans k4.len2, j4.same, fun i hP => ⟨(j4.rest i hP).1.trans (k4.rest i hP).1, (j4.rest i hP).2.trans (k4.rest i hP).2⟩, j4.ids⟩⟩
    simp only [idsL, List.mem_append] at hh
    rcases hh with hh | hh
    · exact k3 i hh
    · exact j3 i hh
end
theorem frzAr_loc {Q : Program} {f : FuncId} {s : Spec} (hs : Sound Q f s) {args : List AV} {hp : List Ob} {r : AV} {hp' : List Ob} (h : (Cx.frzAr s args hp).val = some (r, hp', .heap)) : LocC (Cx.frzAr s) args hp r hp' := by
  intro P hP hc h2 hl ho
  unfold Cx.frzAr at h ⊢
  obtain ⟨y, hp1, g1, k1, k2, k3, k4⟩ := fzL_loc args h hP hc hl ho
  rw [Tr.val_bind, Option.bind_eq_some_iff] at k1
  obtain ⟨⟨r1, hp2, c1⟩, e1, e2⟩ := k1
  have := ret_inv e2
  simp only [Prod.mk.injEq] at this
  obtain ⟨rfl, rfl, hc1⟩ := this
  have hh : c1 = .heap := by cases c1 <;> simp_all [Cls.far]
  subst hh
  obtain ⟨g2, q1, q2, q3, q4⟩ := hs.heap _ _ _ _ e1 P k3 k4.ids g1 (by rw [k4.len2, k4.len, hl]) k4.same
  refine ⟨g2, ?_, q2, fun i hi => q3 i (by rwa [k4.len]), fun i hi hlt => ?_⟩
  · rw [k2, Tr.val_bind, q1]; rfl
  · rw [q4 i hi (by rw [k4.len]; exact hlt)]; exact (k4.rest i hi).2
theorem Sound.frzAr {P : Program} {f : FuncId} {s : Spec} (hs : Sound P f s) : Sound P f (Cx.frzAr s) where
  body := hs.body
  pure := fun args hp r hp' h => by have := frzAr_write h; simp [Cls.isWrite] at this
  read := fun args hp r hp' h => by have := frzAr_write h; simp [Cls.isWrite] at this
  heap := fun args hp r hp' h => frzAr_loc hs h
  calls := fun args hp r hp' c h g w vs hR hv => by
    unfold Cx.frzAr at h
    obtain ⟨g1, ys, hp1, i1, i2, i3, i4⟩ := fzL_sound args h hR hv
    rw [Tr.val_bind, Option.bind_eq_some_iff] at i4
    obtain ⟨⟨r1, hp2, c1⟩, h1, h2⟩ := i4
    have := ret_inv h2
    simp only [Prod.mk.injEq] at this
    obtain ⟨rfl, rfl, -⟩ := this
    refine (hs.calls ys hp1 r1 hp2 c1 h1 g1 w vs i2 i3).mono ?_
    rintro e w' ⟨v, g2, rfl, j1, j2, j3⟩
    exact ⟨v, g2, rfl, i1.trans j1, j2, j3⟩
theorem Wk.nil (ty : TypeId) {sz : Nat} (h0 : 0 < sz) (sh : Sh) (hp : List Ob) : Wk .nilsl hp (.oslice hp.length 0 0) (hp ++ [.grow ty 0 sz sh []]) := fun g w v hR hV => by
  obtain ⟨g', h1, h2, h3⟩ := hR.addVirt ty h0 sh
  cases hV
  exact ⟨g', h1, h3, .oslice0 _ _ _ h2 (Hdr.refl _ _ _ _)⟩
end Go.Cx
namespace Go.Cx
open Go.RowKit (Below)
section
variable {E : En} {f : FuncId} {fn : Func} {c : Code} {ρ σ : Type} [Inhabited ρ]
theorem pure_flat (hE : EnOK E) (hm : E.P.follows .mixedOrders = true) (h0 : E.keep = 0) (hf : E.P.funcs[f]? = some fn) (hb : fn.body = some c) (hn : (fn.name == "runtime.NumGoroutine") = false)
    {pats : List Pat} {O : Pat} {tup : List AV → ρ} {res : ρ → AV} {g : List AV → Option ρ} {T : List AV → Tr ρ} (hg : ∀ ls, g ls = (T ls).val) (hres : ∀ ls, inst ls O 0 = res (tup ls))
    (hc : ∀ ls (Rv : ρ → Prop), callA E fn (instL ls pats 0) [] (outP O fun ls => Rv (tup ls)) = (T ls).fold False Rv) : Sound E.P f (pureS (patF pats fun ls => opt (g ls) fun x => .r (res x))) :=
  sound_pure_pat hE hm h0 hf hb hn fun ls r hr => by
    obtain ⟨x, hx, hr⟩ := opt_inv hr
    rw [← ret_inv hr]
    rw [hg] at hx
    exact flat_end hres (hc ls) hx
theorem pure_fork (hE : EnOK E) (hm : E.P.follows .mixedOrders = true) (h0 : E.keep = 0) (hf : E.P.funcs[f]? = some fn) (hb : fn.body = some c) (hn : (fn.name == "runtime.NumGoroutine") = false)
    {pats : List Pat} {O : Pat} {tup : List AV → ρ} {res : ρ → AV} {T : List AV → Tr ρ} (hres : ∀ ls, inst ls O 0 = res (tup ls))
    (hc : ∀ ls (Rv : ρ → Prop), callA E fn (instL ls pats 0) [] (outP O fun ls => Rv (tup ls)) = (T ls).fold False Rv) : Sound E.P f (pureS (patF pats fun ls => (T ls).map res)) :=
  sound_pure_pat hE hm h0 hf hb hn fun ls r hr => by
    obtain ⟨x, hx, hr⟩ := map_inv hr
    rw [← hr]
    exact flat_end hres (hc ls) hx
theorem pure_mach (hE : EnOK E) (hm : E.P.follows .mixedOrders = true) (h0 : E.keep = 0) (hf : E.P.funcs[f]? = some fn) (hb : fn.body = some c) (hn : (fn.name == "runtime.NumGoroutine") = false)
    {pats : List Pat} {O : Pat} {tup : List AV → ρ} {res : ρ → AV} {g : List AV → Option ρ} {step : List AV → σ → Tr (σ ⊕ ρ)} {T : List AV → Tr (σ ⊕ ρ)} {L : List AV → (ρ → Prop) → σ → Prop} (hg : ∀ ls, g ls = run (step ls) (T ls)) (hres : ∀ ls, inst ls O 0 = res (tup ls))
    (hc : ∀ ls (Rv : ρ → Prop), callA E fn (instL ls pats 0) [] (outP O fun ls => Rv (tup ls)) = (T ls).fold False (Sum.elim (L ls Rv) Rv)) (hl : ∀ ls Rv s, (step ls s).fold False (Sum.elim (L ls Rv) Rv) → L ls Rv s) :
    Sound E.P f (pureS (patF pats fun ls => opt (g ls) fun x => .r (res x))) :=
  sound_pure_pat hE hm h0 hf hb hn fun ls r hr => by
    obtain ⟨x, hx, hr⟩ := opt_inv hr
    rw [← ret_inv hr]
    rw [hg] at hx
    exact mach_end hres (hc ls) (hl ls) hx
theorem heap_flat (hE : EnOK E) (hm : E.P.follows .mixedOrders = true) (hf : E.P.funcs[f]? = some fn) (hb : fn.body = some c) (hn : (fn.name == "runtime.NumGoroutine") = false)
    {pats : List Pat} {ops : List OPat} (hk : ops.length ≤ E.keep) (hk2 : ops.length ≤ E.base) {O : Pat} {OO : List OPat} {tup : List AV → ρ} {res : ρ → AV × List Ob} {g : List AV → Option ρ} {T : List AV → Tr ρ} (hg : ∀ ls, g ls = (T ls).val) (hres : ∀ ls, (inst ls O 0, instH ls OO O.n) = res (tup ls))
    (hc : ∀ ls (Rv : ρ → Prop), callA E fn (instL ls pats 0) (instH ls ops (Pat.nL pats)) (outH O OO fun ls => Rv (tup ls)) = (T ls).fold False Rv) : Sound E.P f (heapS (patH pats ops fun ls => opt (g ls) fun x => .r (res x))) :=
  sound_heap_pat hE hm hf hb hn hk hk2 fun ls r hr => by
    obtain ⟨x, hx, hr⟩ := opt_inv hr
    rw [← ret_inv hr]
    rw [hg] at hx
    exact flat_endH hres (hc ls) hx
theorem heap_fork (hE : EnOK E) (hm : E.P.follows .mixedOrders = true) (hf : E.P.funcs[f]? = some fn) (hb : fn.body = some c) (hn : (fn.name == "runtime.NumGoroutine") = false)
    {pats : List Pat} {ops : List OPat} (hk : ops.length ≤ E.keep) (hk2 : ops.length ≤ E.base) {O : Pat} {OO : List OPat} {tup : List AV → ρ} {res : ρ → AV × List Ob} {T : List AV → Tr ρ} (hres : ∀ ls, (inst ls O 0, instH ls OO O.n) = res (tup ls))
    (hc : ∀ ls (Rv : ρ → Prop), callA E fn (instL ls pats 0) (instH ls ops (Pat.nL pats)) (outH O OO fun ls => Rv (tup ls)) = (T ls).fold False Rv) : Sound E.P f (heapS (patH pats ops fun ls => (T ls).map res)) :=
  sound_heap_pat hE hm hf hb hn hk hk2 fun ls r hr => by
    obtain ⟨x, hx, hr⟩ := map_inv hr
    rw [← hr]
    exact flat_endH hres (hc ls) hx
theorem heap_mach (hE : EnOK E) (hm : E.P.follows .mixedOrders = true) (hf : E.P.funcs[f]? = some fn) (hb : fn.body = some c) (hn : (fn.name == "runtime.NumGoroutine") = false)
    {pats : List Pat} {ops : List OPat} (hk : ops.length ≤ E.keep) (hk2 : ops.length ≤ E.base) {O : Pat} {OO : List OPat} {tup : List AV → ρ} {res : ρ → AV × List Ob} {g : List AV → Option ρ} {step : List AV → σ → Tr (σ ⊕ ρ)} {T : List AV → Tr (σ ⊕ ρ)} {L : List AV → (ρ → Prop) → σ → Prop}
    (hg : ∀ ls, g ls = run (step ls) (T ls)) (hres : ∀ ls, (inst ls O 0, instH ls OO O.n) = res (tup ls))
    (hc : ∀ ls (Rv : ρ → Prop), callA E fn (instL ls pats 0) (instH ls ops (Pat.nL pats)) (outH O OO fun ls => Rv (tup ls)) = (T ls).fold False (Sum.elim (L ls Rv) Rv)) (hl : ∀ ls Rv s, (step ls s).fold False (Sum.elim (L ls Rv) Rv) → L ls Rv s) :
    Sound E.P f (heapS (patH pats ops fun ls => opt (g ls) fun x => .r (res x))) :=
  sound_heap_pat hE hm hf hb hn hk hk2 fun ls r hr => by
    obtain ⟨x, hx, hr⟩ := opt_inv hr
    rw [← ret_inv hr]
    rw [hg] at hx
    exact mach_endH hres (hc ls) (hl ls) hx
end
end Go.Cx
namespace Go.Cx
open Go.RowKit (Below)
def obTags (hp : List Ob) : AV → List Nat
  | .ptr id _ => match hp[id]? with
    | some (.fix _ cs) => 5 :: cs.map tagA
    | _ => []
  | _ => []
def obTags2 (hp : List Ob) : AV → List Nat
  | .func _ pre post => (pre ++ post).flatMap fun a => tagA a :: obTags hp a
  | a => obTags hp a
def tagsH (args : List AV) (hp : List Ob) : List Nat := args.map tagA ++ args.flatMap (obTags2 hp)
def isTags : List Nat → List Nat → Bool
  | [], [] => true
  | a :: l, b :: m => a == b && isTags l m
  | _, _ => false
def Writes (s : Spec) : Prop := ∀ args hp r, (s args hp).val = some r → r.2.2.isWrite = true
theorem Writes.heapS (F : List AV → List Ob → Tr (AV × List Ob)) : Writes (Cx.heapS F) := fun args hp r h => by
  obtain ⟨a, b, c⟩ := r
  obtain ⟨_, _, _, _, _, _, _, _, _, _, e⟩ := heapS_inv h
  rw [e]; rfl
theorem Writes.frzR (s : Spec) : Writes (Cx.frzR s) := fun _ _ _ h => by rw [frzR_write h]; rfl
theorem Writes.frzAr (s : Spec) : Writes (Cx.frzAr s) := fun _ _ _ h => frzAr_write h
def orH (ts : List Nat) (s t : Spec) : Spec := fun args hp => cond (isTags ts (tagsH args hp)) (s args hp) (t args hp)
theorem Writes.orH {ts : List Nat} {s t : Spec} (hs : Writes s) (ht : Writes t) : Writes (Cx.orH ts s t) := fun args hp r h => by
  unfold Cx.orH at h
  cases hb : isTags ts (tagsH args hp) with
  | true => rw [hb] at h; exact hs args hp r h
  | false => rw [hb] at h; exact ht args hp r h
theorem mem_idsL {x : AV} : ∀ {l : List AV}, x ∈ l → ∀ i ∈ idsOf x, i ∈ idsL l
  | y :: l, h, i, hi => by
    simp only [idsL, List.mem_append]
    rcases List.mem_cons.1 h with rfl | h
    · exact .inl hi
    · exact .inr (mem_idsL h i hi)
theorem obTags_congr {hp h2 : List Ob} {x : AV} (h : ∀ i ∈ idsOf x, h2[i]? = hp[i]?) : obTags h2 x = obTags hp x := by
  cases x with
  | ptr id off => simp only [obTags, h id (by simp [idsOf])]
  | _ => rfl
theorem flatMap_congr' {α β : Type} {f g : α → List β} : ∀ {l : List α}, (∀ x ∈ l, f x = g x) → l.flatMap f = l.flatMap g
  | [], _ => rfl
  | x :: l, h => by rw [List.flatMap_cons, List.flatMap_cons, h x List.mem_cons_self, flatMap_congr' fun y hy => h y (List.mem_cons_of_mem _ hy)]
theorem idsL_app (a b : List AV) : idsL (a ++ b) = idsL a ++ idsL b := by
  induction a with
  | nil => rfl
  | cons x a ih => simp [idsL, ih]
theorem obTags2_congr {hp h2 : List Ob} {x : AV} (h : ∀ i ∈ idsOf x, h2[i]? = hp[i]?) : obTags2 h2 x = obTags2 hp x := by
  cases x with
  | func f a b =>
    simp only [obTags2]
    refine flatMap_congr' fun y hy => ?_
    rw [obTags_congr fun i hi => h i ?_]
    simp only [idsOf]
    rw [← idsL_app]
    exact mem_idsL hy i hi
  | _ => exact obTags_congr h
theorem tagsH_congr {hp h2 : List Ob} {args : List AV} (h : ∀ i ∈ idsL args, h2[i]? = hp[i]?) : tagsH args h2 = tagsH args hp := by
  unfold tagsH
  rw [flatMap_congr' fun x hx => obTags2_congr fun i hi => h i (mem_idsL hx i hi)]
theorem Sound.orH {P : Program} {f : FuncId} {s t : Spec} (ts : List Nat) (ws : Writes s) (wt : Writes t) (hs : Sound P f s) (ht : Sound P f t) : Sound P f (Cx.orH ts s t) where
  body := hs.body
  pure := fun args hp r hp' h => by have := (Writes.orH (ts := ts) ws wt) args hp _ h; simp [Cls.isWrite] at this
  read := fun args hp r hp' h => by have := (Writes.orH (ts := ts) ws wt) args hp _ h; simp [Cls.isWrite] at this
  heap := fun args hp r hp' h P hP hc h2 hl ho => by
    unfold Cx.orH at h ⊢
    rw [tagsH_congr (fun i hi => ho i (hP i hi))]
    cases hb : isTags ts (tagsH args hp) with
    | true => rw [hb] at h; simpa [hb] using hs.heap args hp r hp' h P hP hc h2 hl ho
    | false => rw [hb] at h; simpa [hb] using ht.heap args hp r hp' h P hP hc h2 hl ho
  calls := fun args hp r hp' c h => by
    unfold Cx.orH at h
    cases hb : isTags ts (tagsH args hp) with
    | true => rw [hb] at h; exact hs.calls args hp r hp' c h
    | false => rw [hb] at h; exact ht.calls args hp r hp' c h
end Go.Cx
