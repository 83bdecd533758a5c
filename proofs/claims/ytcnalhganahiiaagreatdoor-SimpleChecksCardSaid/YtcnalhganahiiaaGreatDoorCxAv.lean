/- Results that are given up. -/
import Derived.Test.YtcnalhganahiiaaGreatDoorCxAi
import Derived.Lib.UnsafeStr
section
set_option linter.unusedSectionVars false
namespace Go.Cx
set_option linter.unusedSectionVars false
open Go.RowKit (Below)
def enK (P : Program) (T : FuncId → Option Spec) (own : List Nat) (nm : List (Nat × Nm)) (virt virtAt : List (Nat × List (Nat × Nat × Sh))) (keep : Nat) : En := { en P T own nm virt virtAt with keep := keep, base := keep }
theorem TblOK.enK {P : Program} {T : FuncId → Option Spec} (h : TblOK P T) (own : List Nat) (nm : List (Nat × Nm)) (virt virtAt : List (Nat × List (Nat × Nat × Sh))) (keep : Nat) : EnOK (Cx.enK P T own nm virt virtAt keep) := h
def enKB (P : Program) (T : FuncId → Option Spec) (own : List Nat) (nm : List (Nat × Nm)) (virt virtAt : List (Nat × List (Nat × Nat × Sh))) (keep base : Nat) (xgc : Bool) : En := { en P T own nm virt virtAt with keep := keep, base := base, xgc := xgc }
theorem TblOK.enKB {P : Program} {T : FuncId → Option Spec} (h : TblOK P T) (own : List Nat) (nm : List (Nat × Nm)) (virt virtAt : List (Nat × List (Nat × Nat × Sh))) (keep base : Nat) (xgc : Bool) : EnOK (Cx.enKB P T own nm virt virtAt keep base xgc) := h
mutual
def fzA {τ : Type} : AV → List Ob → (AV → List Ob → Tr τ) → Tr τ
  | .oslice id ver len, hp, K => match hp[id]? with
    | some (.grow _ ver' sz sh xs) => .c (ver == ver' && len == xs.length) (K (.slice sz sh xs .ro) (hp.set id (.froz ver' sz sh xs))) .bad
    | some (.froz ver' sz sh xs) => .c (ver == ver' && len == xs.length) (K (.slice sz sh xs .ro) hp) .bad
    | _ => .bad
  | .agg cs, hp, K => fzL cs hp fun cs hp => K (.agg cs) hp
  | .tuple cs, hp, K => fzL cs hp fun cs hp => K (.tuple cs) hp
  | x, hp, K => K x hp
def fzL {τ : Type} : List AV → List Ob → (List AV → List Ob → Tr τ) → Tr τ
  | [], hp, K => K [] hp
  | x :: l, hp, K => fzA x hp fun y hp => fzL l hp fun l hp => K (y :: l) hp
end
def frzR (s : Spec) : Spec := fun args hp => (s args hp).bind fun x => fzA x.1 x.2.1 fun v hp => .r (v, hp, .write)
theorem map_inv {ρ τ : Type} {f : ρ → τ} {t : Tr ρ} {r : τ} (h : (t.map f).val = some r) : ∃ x, t.val = some x ∧ f x = r := by
  rw [Tr.val_map] at h; simpa using h
theorem ret_inv {τ : Type} {x r : τ} (h : (Tr.r x).val = some r) : x = r := by simpa [Tr.val, Tr.fold] using h
mutual
theorem fzA_sound {w : World} : ∀ (x : AV) {g : Gh} {hp : List Ob} {cv : Value} {r : AV × List Ob × Cls} {K : AV → List Ob → Tr (AV × List Ob × Cls)}, (fzA x hp K).val = some r → R g w hp → V g x cv →
    ∃ g' y hp', g.le g' ∧ R g' w hp' ∧ V g' y cv ∧ (K y hp').val = some r
  | .oslice id ver len, g, hp, cv, r, K, h, hR, hV => by
    unfold fzA at h
    split at h
    · rename_i ty ver' sz sh xs he
      cases hb : (ver == ver' && len == xs.length) with
      | false => rw [hb] at h; simp [Tr.val, Tr.fold] at h
      | true =>
        rw [hb] at h
        simp only [Bool.and_eq_true, beq_iff_eq] at hb
        obtain ⟨rfl, rfl⟩ := hb
        obtain ⟨g', h1, h2, h3, -⟩ := hR.give he
        exact ⟨g', _, _, h1, h2, h3 g cv rfl hV, h⟩
    · rename_i ver' sz sh xs he
      cases hb : (ver == ver' && len == xs.length) with
      | false => rw [hb] at h; simp [Tr.val, Tr.fold] at h
      | true =>
        rw [hb] at h
        simp only [Bool.and_eq_true, beq_iff_eq] at hb
        obtain ⟨rfl, rfl⟩ := hb
        exact ⟨g, _, hp, Gh.le.refl g, hR, hR.frozV he hV, h⟩
    · simp [Tr.val, Tr.fold] at h
  | .agg cs, g, hp, cv, r, K, h, hR, hV => by
    unfold fzA at h
    cases hV with
    | agg _ vs hl hv =>
      obtain ⟨g', ys, hp', h1, h2, h3, h4⟩ := fzL_sound cs (vs := vs.toList) h hR ⟨by simpa using hl, fun i c v e1 e2 => hv i c v e1 (by simpa using e2)⟩
      exact ⟨g', _, hp', h1, h2, .agg ys vs (by simpa using h3.1) (fun i c v e1 e2 => h3.2 i c v e1 (by simpa using e2)), h4⟩
  | .tuple cs, g, hp, cv, r, K, h, hR, hV => by
    unfold fzA at h
    cases hV with
    | tuple _ vs hl hv =>
      obtain ⟨g', ys, hp', h1, h2, h3, h4⟩ := fzL_sound cs (vs := vs.toList) h hR ⟨by simpa using hl, fun i c v e1 e2 => hv i c v e1 (by simpa using e2)⟩
      exact ⟨g', _, hp', h1, h2, .tuple ys vs (by simpa using h3.1) (fun i c v e1 e2 => h3.2 i c v e1 (by simpa using e2)), h4⟩
  | .int .., g, hp, cv, r, K, h, hR, hV | .bool .., g, hp, cv, r, K, h, hR, hV | .str .., g, hp, cv, r, K, h, hR, hV | .ptr .., g, hp, cv, r, K, h, hR, hV | .nilptr, g, hp, cv, r, K, h, hR, hV
  | .rptr .., g, hp, cv, r, K, h, hR, hV | .nilsl, g, hp, cv, r, K, h, hR, hV | .slice .., g, hp, cv, r, K, h, hR, hV | .fslice .., g, hp, cv, r, K, h, hR, hV | .optr .., g, hp, cv, r, K, h, hR, hV
  | .func .., g, hp, cv, r, K, h, hR, hV | .nilfunc, g, hp, cv, r, K, h, hR, hV | .nilIface, g, hp, cv, r, K, h, hR, hV | .junk, g, hp, cv, r, K, h, hR, hV => ⟨g, _, hp, Gh.le.refl g, hR, hV, h⟩
theorem fzL_sound {w : World} : ∀ (l : List AV) {g : Gh} {hp : List Ob} {vs : List Value} {r : AV × List Ob × Cls} {K : List AV → List Ob → Tr (AV × List Ob × Cls)}, (fzL l hp K).val = some r → R g w hp → VL g l vs →
    ∃ g' ys hp', g.le g' ∧ R g' w hp' ∧ VL g' ys vs ∧ (K ys hp').val = some r
  | [], g, hp, vs, r, K, h, hR, hV => ⟨g, [], hp, Gh.le.refl g, hR, hV, h⟩
  | x :: l, g, hp, vs, r, K, h, hR, hV => by
    unfold fzL at h
    obtain ⟨v, vs, rfl, h1, h2⟩ := hV.cons_inv
    obtain ⟨g1, y, hp1, i1, i2, i3, i4⟩ := fzA_sound x h hR h1
    obtain ⟨g2, ys, hp2, j1, j2, j3, j4⟩ := fzL_sound l i4 i2 (h2.mono i1)
    exact ⟨g2, y :: ys, hp2, i1.trans j1, j2, VL.cons (i3.mono j1) j3, j4⟩
end
mutual
theorem fzA_write : ∀ (x : AV) {hp : List Ob} {r : AV × List Ob × Cls} {K : AV → List Ob → Tr (AV × List Ob × Cls)}, (∀ y h r, (K y h).val = some r → r.2.2 = .write) → (fzA x hp K).val = some r → r.2.2 = .write
  | .oslice id ver len, hp, r, K, hk, h => by
    unfold fzA at h
    split at h
    · rename_i ty ver' sz sh xs he
      cases hb : (ver == ver' && len == xs.length) with
      | false => rw [hb] at h; simp [Tr.val, Tr.fold] at h
      | true => rw [hb] at h; exact hk _ _ _ h
    · rename_i ver' sz sh xs he
      cases hb : (ver == ver' && len == xs.length) with
      | false => rw [hb] at h; simp [Tr.val, Tr.fold] at h
      | true => rw [hb] at h; exact hk _ _ _ h
    · simp [Tr.val, Tr.fold] at h
  | .agg cs, hp, r, K, hk, h => by unfold fzA at h; exact fzL_write cs (fun y h r e => hk _ _ _ e) h
  | .tuple cs, hp, r, K, hk, h => by unfold fzA at h; exact fzL_write cs (fun y h r e => hk _ _ _ e) h
  | .int .., hp, r, K, hk, h | .bool .., hp, r, K, hk, h | .str .., hp, r, K, hk, h | .ptr .., hp, r, K, hk, h | .nilptr, hp, r, K, hk, h
  | .rptr .., hp, r, K, hk, h | .nilsl, hp, r, K, hk, h | .slice .., hp, r, K, hk, h | .fslice .., hp, r, K, hk, h | .optr .., hp, r, K, hk, h
  | .func .., hp, r, K, hk, h | .nilfunc, hp, r, K, hk, h | .nilIface, hp, r, K, hk, h | .junk, hp, r, K, hk, h => hk _ _ _ h
theorem fzL_write : ∀ (l : List AV) {hp : List Ob} {r : AV × List Ob × Cls} {K : List AV → List Ob → Tr (AV × List Ob × Cls)}, (∀ y h r, (K y h).val = some r → r.2.2 = .write) → (fzL l hp K).val = some r → r.2.2 = .write
  | [], hp, r, K, hk, h => hk _ _ _ h
  | x :: l, hp, r, K, hk, h => by
    unfold fzL at h
    exact fzA_write x (fun y h r e => fzL_write l (fun z h r e => hk _ _ _ e) e) h
end
theorem frzR_write {s : Spec} {args : List AV} {hp : List Ob} {r : AV × List Ob × Cls} (h : (frzR s args hp).val = some r) : r.2.2 = .write := by
  unfold frzR at h
  rw [Tr.val_bind, Option.bind_eq_some_iff] at h
  obtain ⟨x, _, h⟩ := h
  refine fzA_write x.1 (fun y h r e => ?_) h
  have := ret_inv e; subst this; rfl
theorem Sound.frzR {P : Program} {f : FuncId} {s : Spec} (hs : Sound P f s) : Sound P f (Cx.frzR s) where
  body := hs.body
  pure := fun args hp r hp' h => by have := frzR_write h; simp at this
  read := fun args hp r hp' h => by have := frzR_write h; simp at this
  heap := fun args hp r hp' h => by have := frzR_write h; simp at this
  calls := fun args hp r hp' c h g w vs hLy hR hv => by
    unfold Cx.frzR at h
    rw [Tr.val_bind, Option.bind_eq_some_iff] at h
    obtain ⟨⟨r1, hp1, c1⟩, h1, h2⟩ := h
    refine (hs.calls args hp r1 hp1 c1 h1 g w vs hLy hR hv).mono ?_
    rintro e w' ⟨v, g1, rfl, i1, i2, i3⟩
    obtain ⟨g2, y, hp2, j1, j2, j3, j4⟩ := fzA_sound r1 h2 i2 i3
    have := ret_inv j4
    simp only [Prod.mk.injEq] at this
    obtain ⟨rfl, rfl, -⟩ := this
    exact ⟨v, g2, rfl, i1.trans j1, j2, j3⟩
end Go.Cx
namespace Go.Cx
open Go.RowKit (Below)
def Cls.far : Cls → Cls
  | .heap => .heap
  | _ => .write
def frzAr (s : Spec) : Spec := fun args hp => fzL args hp fun args hp => (s args hp).bind fun x => .r (x.1, x.2.1, x.2.2.far)
mutual
theorem fzA_K {Q : AV × List Ob × Cls → Prop} : ∀ (x : AV) {hp : List Ob} {r : AV × List Ob × Cls} {K : AV → List Ob → Tr (AV × List Ob × Cls)}, (∀ y h r, (K y h).val = some r → Q r) → (fzA x hp K).val = some r → Q r
  | .oslice id ver len, hp, r, K, hk, h => by
    unfold fzA at h
    split at h
    · simp only [Tr.val, Tr.fold] at h
      rename_i ver' sz sh xs he
      cases hb : (ver == ver' && len == xs.length) with
      | true => rw [hb] at h; exact hk _ _ _ h
      | false => rw [hb] at h; simp at h
    · simp only [Tr.val, Tr.fold] at h
      rename_i ver' sz sh xs he
      cases hb : (ver == ver' && len == xs.length) with
      | true => rw [hb] at h; exact hk _ _ _ h
      | false => rw [hb] at h; simp at h
    · simp [Tr.val, Tr.fold] at h
  | .agg cs, hp, r, K, hk, h => by unfold fzA at h; exact fzL_K cs (fun y h r e => hk _ _ _ e) h
  | .tuple cs, hp, r, K, hk, h => by unfold fzA at h; exact fzL_K cs (fun y h r e => hk _ _ _ e) h
  | .int .., hp, r, K, hk, h | .bool .., hp, r, K, hk, h | .str .., hp, r, K, hk, h | .ptr .., hp, r, K, hk, h | .nilptr, hp, r, K, hk, h
  | .rptr .., hp, r, K, hk, h | .nilsl, hp, r, K, hk, h | .slice .., hp, r, K, hk, h | .fslice .., hp, r, K, hk, h | .optr .., hp, r, K, hk, h
  | .func .., hp, r, K, hk, h | .nilfunc, hp, r, K, hk, h | .nilIface, hp, r, K, hk, h | .junk, hp, r, K, hk, h => hk _ _ _ h
theorem fzL_K {Q : AV × List Ob × Cls → Prop} : ∀ (l : List AV) {hp : List Ob} {r : AV × List Ob × Cls} {K : List AV → List Ob → Tr (AV × List Ob × Cls)}, (∀ y h r, (K y h).val = some r → Q r) → (fzL l hp K).val = some r → Q r
  | [], hp, r, K, hk, h => hk _ _ _ h
  | x :: l, hp, r, K, hk, h => by
    unfold fzL at h
    exact fzA_K x (fun y h r e => fzL_K l (fun z h r e => hk _ _ _ e) e) h
end
theorem far_write (c : Cls) : c.far.isWrite = true := by cases c <;> rfl
theorem frzAr_write {s : Spec} {args : List AV} {hp : List Ob} {r : AV × List Ob × Cls} (h : (frzAr s args hp).val = some r) : r.2.2.isWrite = true := by
  unfold frzAr at h
  refine fzL_K (Q := fun r => r.2.2.isWrite = true) args (fun y h r e => ?_) h
  rw [Tr.val_bind, Option.bind_eq_some_iff] at e
  obtain ⟨x, _, e⟩ := e
  have := ret_inv e; subst this; exact far_write _
structure FzOK (P : Nat → Prop) (hp h2 hp1 g1 : List Ob) : Prop where
  len : hp1.length = hp.length
  len2 : g1.length = h2.length
  same : ∀ i, P i → g1[i]? = hp1[i]?
  rest : ∀ i, ¬ P i → hp1[i]? = hp[i]? ∧ g1[i]? = h2[i]?
  ids : ∀ i o, hp1[i]? = some o → P i → ∀ j ∈ idsO o, P j
mutual
theorem fzA_loc {P : Nat → Prop} : ∀ (x : AV) {hp h2 : List Ob} {r : AV × List Ob × Cls} {K : AV → List Ob → Tr (AV × List Ob × Cls)}, (fzA x hp K).val = some r → (∀ i ∈ idsOf x, P i) → (∀ i o, hp[i]? = some o → P i → ∀ j ∈ idsO o, P j) →
    h2.length = hp.length → (∀ i, P i → h2[i]? = hp[i]?) → ∃ y hp1 g1, (K y hp1).val = some r ∧ (fzA x h2 K).val = (K y g1).val ∧ (∀ i ∈ idsOf y, P i) ∧ FzOK P hp h2 hp1 g1
  | .oslice id ver len, hp, h2, r, K, h, hi, hc, hl, ho => by
    have hid : P id := hi id (by simp [idsOf])
    unfold fzA at h ⊢
    rw [ho id hid]
    split at h
    · rename_i ty ver' sz sh xs he
      simp only [Tr.val, Tr.fold] at h ⊢
      cases hb : (ver == ver' && len == xs.length) with
      | true =>
        rw [hb] at h
        have lt : id < hp.length := (List.getElem?_eq_some_iff.1 he).1
        have hids := hc id _ he hid
        refine ⟨_, _, _, h, rfl, fun i hh => hids i (by simpa [idsOf, idsO] using hh), ⟨by simp, by simp, fun i hP => ?_, fun i hP => ?_, fun i o hh hP j hj => ?_⟩⟩
        · rw [List.getElem?_set, List.getElem?_set, hl]
          split
          · rfl
          · exact ho i hP
        · have hne : id ≠ i := fun e => hP (e ▸ hid)
          rw [List.getElem?_set, List.getElem?_set, if_neg hne, if_neg hne]
          exact ⟨rfl, rfl⟩
        · rw [List.getElem?_set] at hh
          split at hh
          · rename_i e
            subst e
            simp only [Option.some.injEq] at hh
            subst hh
            exact hids j (by simpa [idsO] using hj)
          · exact hc i o hh hP j hj
      | false => rw [hb] at h; simp at h
    · rename_i ver' sz sh xs he
      simp only [Tr.val, Tr.fold] at h ⊢
      cases hb : (ver == ver' && len == xs.length) with
      | true =>
        rw [hb] at h
        have hids := hc id _ he hid
        exact ⟨_, _, _, h, rfl, fun i hh => hids i (by simpa [idsOf, idsO] using hh), ⟨rfl, rfl, ho, fun i _ => ⟨rfl, rfl⟩, hc⟩⟩
      | false => rw [hb] at h; simp at h
    · simp [Tr.val, Tr.fold] at h
  | .agg cs, hp, h2, r, K, h, hi, hc, hl, ho => by
    unfold fzA at h ⊢
    obtain ⟨y, hp1, g1, k1, k2, k3, k4⟩ := fzL_loc cs h (by simpa [idsOf] using hi) hc hl ho
    exact ⟨_, _, _, k1, k2, by simpa [idsOf] using k3, k4⟩
  | .tuple cs, hp, h2, r, K, h, hi, hc, hl, ho => by
    unfold fzA at h ⊢
    obtain ⟨y, hp1, g1, k1, k2, k3, k4⟩ := fzL_loc cs h (by simpa [idsOf] using hi) hc hl ho
    exact ⟨_, _, _, k1, k2, by simpa [idsOf] using k3, k4⟩
  | .int .., hp, h2, r, K, h, hi, hc, hl, ho | .bool .., hp, h2, r, K, h, hi, hc, hl, ho | .str .., hp, h2, r, K, h, hi, hc, hl, ho | .ptr .., hp, h2, r, K, h, hi, hc, hl, ho | .nilptr, hp, h2, r, K, h, hi, hc, hl, ho
  | .rptr .., hp, h2, r, K, h, hi, hc, hl, ho | .nilsl, hp, h2, r, K, h, hi, hc, hl, ho | .slice .., hp, h2, r, K, h, hi, hc, hl, ho | .fslice .., hp, h2, r, K, h, hi, hc, hl, ho | .optr .., hp, h2, r, K, h, hi, hc, hl, ho
  | .func .., hp, h2, r, K, h, hi, hc, hl, ho | .nilfunc, hp, h2, r, K, h, hi, hc, hl, ho | .nilIface, hp, h2, r, K, h, hi, hc, hl, ho | .junk, hp, h2, r, K, h, hi, hc, hl, ho =>
    ⟨_, hp, h2, h, rfl, hi, ⟨rfl, rfl, ho, fun i _ => ⟨rfl, rfl⟩, hc⟩⟩
theorem fzL_loc {P : Nat → Prop} : ∀ (l : List AV) {hp h2 : List Ob} {r : AV × List Ob × Cls} {K : List AV → List Ob → Tr (AV × List Ob × Cls)}, (fzL l hp K).val = some r → (∀ i ∈ idsL l, P i) → (∀ i o, hp[i]? = some o → P i → ∀ j ∈ idsO o, P j) →
    h2.length = hp.length → (∀ i, P i → h2[i]? = hp[i]?) → ∃ y hp1 g1, (K y hp1).val = some r ∧ (fzL l h2 K).val = (K y g1).val ∧ (∀ i ∈ idsL y, P i) ∧ FzOK P hp h2 hp1 g1
  | [], hp, h2, r, K, h, hi, hc, hl, ho => ⟨_, hp, h2, h, rfl, hi, ⟨rfl, rfl, ho, fun i _ => ⟨rfl, rfl⟩, hc⟩⟩
  | x :: l, hp, h2, r, K, h, hi, hc, hl, ho => by
    unfold fzL at h ⊢
    simp only [idsL, List.mem_append] at hi
    obtain ⟨y, hp1, g1, k1, k2, k3, k4⟩ := fzA_loc x h (fun i hh => hi i (.inl hh)) hc hl ho
    obtain ⟨z, hp2, g2, j1, j2, j3, j4⟩ := fzL_loc l (h2 := g1) k1 (fun i hh => hi i (.inr hh)) k4.ids (by rw [k4.len2, k4.len, hl]) k4.same
    refine ⟨y :: z, hp2, g2, j1, k2.trans j2, fun i hh => ?_, ⟨j4.len.trans k4.len, j4.len2.trans k4.len2, j4.same, fun i hP => ⟨(j4.rest i hP).1.trans (k4.rest i hP).1, (j4.rest i hP).2.trans (k4.rest i hP).2⟩, j4.ids⟩⟩
    simp only [idsL, List.mem_append] at hh
    rcases hh with hh | hh
    · exact k3 i hh
    · exact j3 i hh
end
theorem frzAr_loc {Q : Program} {f : FuncId} {s : Spec} (hs : Sound Q f s) {args : List AV} {hp : List Ob} {r : AV} {hp' : List Ob} (h : (Cx.frzAr s args hp).val = some (r, hp', .heap)) : LocC (Cx.frzAr s) args hp r hp' := by
  intro P hP hc h2 hl ho
  unfold Cx.frzAr at h ⊢
  obtain ⟨y, hp1, g1, k1, k2, k3, k4⟩ := fzL_loc args h hP hc hl ho
  rw [Tr.val_bind, Option.bind_eq_some_iff] at k1
  obtain ⟨⟨r1, hp2, c1⟩, e1, e2⟩ := k1
  have := ret_inv e2
  simp only [Prod.mk.injEq] at this
  obtain ⟨rfl, rfl, hc1⟩ := this
  have hh : c1 = .heap := by cases c1 <;> simp_all [Cls.far]
  subst hh
  obtain ⟨g2, q1, q2, q3, q4⟩ := hs.heap _ _ _ _ e1 P k3 k4.ids g1 (by rw [k4.len2, k4.len, hl]) k4.same
  refine ⟨g2, ?_, q2, fun i hi => q3 i (by rwa [k4.len]), fun i hi hlt => ?_⟩
  · rw [k2, Tr.val_bind, q1]; rfl
  · rw [q4 i hi (by rw [k4.len]; exact hlt)]; exact (k4.rest i hi).2
theorem Sound.frzAr {P : Program} {f : FuncId} {s : Spec} (hs : Sound P f s) : Sound P f (Cx.frzAr s) where
  body := hs.body
  pure := fun args hp r hp' h => by have := frzAr_write h; simp [Cls.isWrite] at this
  read := fun args hp r hp' h => by have := frzAr_write h; simp [Cls.isWrite] at this
  heap := fun args hp r hp' h => frzAr_loc hs h
  calls := fun args hp r hp' c h g w vs hLy hR hv => by
    unfold Cx.frzAr at h
    obtain ⟨g1, ys, hp1, i1, i2, i3, i4⟩ := fzL_sound args h hR hv
    rw [Tr.val_bind, Option.bind_eq_some_iff] at i4
    obtain ⟨⟨r1, hp2, c1⟩, h1, h2⟩ := i4
    have := ret_inv h2
    simp only [Prod.mk.injEq] at this
    obtain ⟨rfl, rfl, -⟩ := this
    refine (hs.calls ys hp1 r1 hp2 c1 h1 g1 w vs (hLy.le i1) i2 i3).mono ?_
    rintro e w' ⟨v, g2, rfl, j1, j2, j3⟩
    exact ⟨v, g2, rfl, i1.trans j1, j2, j3⟩
theorem Wk.nil (ty : TypeId) {sz : Nat} (h0 : 0 < sz) (sh : Sh) (hp : List Ob) : Wk .nilsl hp (.oslice hp.length 0 0) (hp ++ [.grow ty 0 sz sh []]) := fun g w v hR hV => by
  obtain ⟨g', h1, h2, h3⟩ := hR.addVirt ty h0 sh
  cases hV
  exact ⟨g', h1, h3, .oslice0 _ _ _ h2 (Hdr.refl _ _ _ _)⟩
end Go.Cx
namespace Go.Cx
open Go.RowKit (Below)
section
variable {E : En} {f : FuncId} {fn : Func} {c : Code} {ρ σ : Type} [Inhabited ρ]
theorem pure_flat (hE : EnOK E) (hm : E.P.follows .mixedOrders = true) (h0 : E.keep = 0) (hf : E.P.funcs[f]? = some fn) (hb : fn.body = some c) (hn : (fn.name == "runtime.NumGoroutine") = false)
    {pats : List Pat} {O : Pat} {tup : List AV → ρ} {res : ρ → AV} {g : List AV → Option ρ} {T : List AV → Tr ρ} (hg : ∀ ls, g ls = (T ls).val) (hres : ∀ ls, inst ls O 0 = res (tup ls))
    (hc : ∀ ls (Rv : ρ → Prop), callA E fn (instL ls pats 0) [] (outP O fun ls => Rv (tup ls)) = (T ls).fold False Rv) : Sound E.P f (pureS (patF pats fun ls => opt (g ls) fun x => .r (res x))) :=
  sound_pure_pat hE hm h0 hf hb hn fun ls r hr => by
    obtain ⟨x, hx, hr⟩ := opt_inv hr
    rw [← ret_inv hr]
    rw [hg] at hx
    exact flat_end hres (hc ls) hx
theorem pure_fork (hE : EnOK E) (hm : E.P.follows .mixedOrders = true) (h0 : E.keep = 0) (hf : E.P.funcs[f]? = some fn) (hb : fn.body = some c) (hn : (fn.name == "runtime.NumGoroutine") = false)
    {pats : List Pat} {O : Pat} {tup : List AV → ρ} {res : ρ → AV} {T : List AV → Tr ρ} (hres : ∀ ls, inst ls O 0 = res (tup ls))
    (hc : ∀ ls (Rv : ρ → Prop), callA E fn (instL ls pats 0) [] (outP O fun ls => Rv (tup ls)) = (T ls).fold False Rv) : Sound E.P f (pureS (patF pats fun ls => (T ls).map res)) :=
  sound_pure_pat hE hm h0 hf hb hn fun ls r hr => by
    obtain ⟨x, hx, hr⟩ := map_inv hr
    rw [← hr]
    exact flat_end hres (hc ls) hx
theorem pure_mach (hE : EnOK E) (hm : E.P.follows .mixedOrders = true) (h0 : E.keep = 0) (hf : E.P.funcs[f]? = some fn) (hb : fn.body = some c) (hn : (fn.name == "runtime.NumGoroutine") = false)
    {pats : List Pat} {O : Pat} {tup : List AV → ρ} {res : ρ → AV} {g : List AV → Option ρ} {step : List AV → σ → Tr (σ ⊕ ρ)} {T : List AV → Tr (σ ⊕ ρ)} {L : List AV → (ρ → Prop) → σ → Prop} (hg : ∀ ls, g ls = run (step ls) (T ls)) (hres : ∀ ls, inst ls O 0 = res (tup ls))
    (hc : ∀ ls (Rv : ρ → Prop), callA E fn (instL ls pats 0) [] (outP O fun ls => Rv (tup ls)) = (T ls).fold False (Sum.elim (L ls Rv) Rv)) (hl : ∀ ls Rv s, (step ls s).fold False (Sum.elim (L ls Rv) Rv) → L ls Rv s) :
    Sound E.P f (pureS (patF pats fun ls => opt (g ls) fun x => .r (res x))) :=
  sound_pure_pat hE hm h0 hf hb hn fun ls r hr => by
    obtain ⟨x, hx, hr⟩ := opt_inv hr
    rw [← ret_inv hr]
    rw [hg] at hx
    exact mach_end hres (hc ls) (hl ls) hx
theorem heap_flat (hE : EnOK E) (hm : E.P.follows .mixedOrders = true) (hf : E.P.funcs[f]? = some fn) (hb : fn.body = some c) (hn : (fn.name == "runtime.NumGoroutine") = false)
    {pats : List Pat} {ops : List OPat} (hk : ops.length ≤ E.keep) (hk2 : ops.length ≤ E.base) {O : Pat} {OO : List OPat} {tup : List AV → ρ} {res : ρ → AV × List Ob} {g : List AV → Option ρ} {T : List AV → Tr ρ} (hg : ∀ ls, g ls = (T ls).val) (hres : ∀ ls, (inst ls O 0, instH ls OO O.n) = res (tup ls))
    (hc : ∀ ls (Rv : ρ → Prop), callA E fn (instL ls pats 0) (instH ls ops (Pat.nL pats)) (outH O OO fun ls => Rv (tup ls)) = (T ls).fold False Rv) : Sound E.P f (heapS (patH pats ops fun ls => opt (g ls) fun x => .r (res x))) :=
  sound_heap_pat hE hm hf hb hn hk hk2 fun ls r hr => by
    obtain ⟨x, hx, hr⟩ := opt_inv hr
    rw [← ret_inv hr]
    rw [hg] at hx
    exact flat_endH hres (hc ls) hx
theorem heap_fork (hE : EnOK E) (hm : E.P.follows .mixedOrders = true) (hf : E.P.funcs[f]? = some fn) (hb : fn.body = some c) (hn : (fn.name == "runtime.NumGoroutine") = false)
    {pats : List Pat} {ops : List OPat} (hk : ops.length ≤ E.keep) (hk2 : ops.length ≤ E.base) {O : Pat} {OO : List OPat} {tup : List AV → ρ} {res : ρ → AV × List Ob} {T : List AV → Tr ρ} (hres : ∀ ls, (inst ls O 0, instH ls OO O.n) = res (tup ls))
    (hc : ∀ ls (Rv : ρ → Prop), callA E fn (instL ls pats 0) (instH ls ops (Pat.nL pats)) (outH O OO fun ls => Rv (tup ls)) = (T ls).fold False Rv) : Sound E.P f (heapS (patH pats ops fun ls => (T ls).map res)) :=
  sound_heap_pat hE hm hf hb hn hk hk2 fun ls r hr => by
    obtain ⟨x, hx, hr⟩ := map_inv hr
    rw [← hr]
    exact flat_endH hres (hc ls) hx
theorem heap_mach (hE : EnOK E) (hm : E.P.follows .mixedOrders = true) (hf : E.P.funcs[f]? = some fn) (hb : fn.body = some c) (hn : (fn.name == "runtime.NumGoroutine") = false)
    {pats : List Pat} {ops : List OPat} (hk : ops.length ≤ E.keep) (hk2 : ops.length ≤ E.base) {O : Pat} {OO : List OPat} {tup : List AV → ρ} {res : ρ → AV × List Ob} {g : List AV → Option ρ} {step : List AV → σ → Tr (σ ⊕ ρ)} {T : List AV → Tr (σ ⊕ ρ)} {L : List AV → (ρ → Prop) → σ → Prop}
    (hg : ∀ ls, g ls = run (step ls) (T ls)) (hres : ∀ ls, (inst ls O 0, instH ls OO O.n) = res (tup ls))
    (hc : ∀ ls (Rv : ρ → Prop), callA E fn (instL ls pats 0) (instH ls ops (Pat.nL pats)) (outH O OO fun ls => Rv (tup ls)) = (T ls).fold False (Sum.elim (L ls Rv) Rv)) (hl : ∀ ls Rv s, (step ls s).fold False (Sum.elim (L ls Rv) Rv) → L ls Rv s) :
    Sound E.P f (heapS (patH pats ops fun ls => opt (g ls) fun x => .r (res x))) :=
  sound_heap_pat hE hm hf hb hn hk hk2 fun ls r hr => by
    obtain ⟨x, hx, hr⟩ := opt_inv hr
    rw [← ret_inv hr]
    rw [hg] at hx
    exact mach_endH hres (hc ls) (hl ls) hx
end
end Go.Cx
namespace Go.Cx
open Go.RowKit (Below)
def obTags (hp : List Ob) : AV → List Nat
  | .ptr id _ => match hp[id]? with
    | some (.fix _ cs) => 5 :: cs.map tagA
    | _ => []
  | _ => []
def obTags2 (hp : List Ob) : AV → List Nat
  | .func _ pre post => (pre ++ post).flatMap fun a => tagA a :: obTags hp a
  | a => obTags hp a
def tagsH (args : List AV) (hp : List Ob) : List Nat := args.map tagA ++ args.flatMap (obTags2 hp)
def isTags : List Nat → List Nat → Bool
  | [], [] => true
  | a :: l, b :: m => a == b && isTags l m
  | _, _ => false
def Writes (s : Spec) : Prop := ∀ args hp r, (s args hp).val = some r → r.2.2.isWrite = true
theorem Writes.heapS (F : List AV → List Ob → Tr (AV × List Ob)) : Writes (Cx.heapS F) := fun args hp r h => by
  obtain ⟨a, b, c⟩ := r
  obtain ⟨_, _, _, _, _, _, _, _, _, _, e⟩ := heapS_inv h
  rw [e]; rfl
theorem Writes.frzR (s : Spec) : Writes (Cx.frzR s) := fun _ _ _ h => by rw [frzR_write h]; rfl
theorem Writes.frzAr (s : Spec) : Writes (Cx.frzAr s) := fun _ _ _ h => frzAr_write h
def orH (ts : List Nat) (s t : Spec) : Spec := fun args hp => cond (isTags ts (tagsH args hp)) (s args hp) (t args hp)
theorem Writes.orH {ts : List Nat} {s t : Spec} (hs : Writes s) (ht : Writes t) : Writes (Cx.orH ts s t) := fun args hp r h => by
  unfold Cx.orH at h
  cases hb : isTags ts (tagsH args hp) with
  | true => rw [hb] at h; exact hs args hp r h
  | false => rw [hb] at h; exact ht args hp r h
theorem mem_idsL {x : AV} : ∀ {l : List AV}, x ∈ l → ∀ i ∈ idsOf x, i ∈ idsL l
  | y :: l, h, i, hi => by
    simp only [idsL, List.mem_append]
    rcases List.mem_cons.1 h with rfl | h
    · exact .inl hi
    · exact .inr (mem_idsL h i hi)
theorem obTags_congr {hp h2 : List Ob} {x : AV} (h : ∀ i ∈ idsOf x, h2[i]? = hp[i]?) : obTags h2 x = obTags hp x := by
  cases x with
  | ptr id off => simp only [obTags, h id (by simp [idsOf])]
  | _ => rfl
theorem flatMap_congr' {α β : Type} {f g : α → List β} : ∀ {l : List α}, (∀ x ∈ l, f x = g x) → l.flatMap f = l.flatMap g
  | [], _ => rfl
  | x :: l, h => by rw [List.flatMap_cons, List.flatMap_cons, h x List.mem_cons_self, flatMap_congr' fun y hy => h y (List.mem_cons_of_mem _ hy)]
theorem idsL_app (a b : List AV) : idsL (a ++ b) = idsL a ++ idsL b := by
  induction a with
  | nil => rfl
  | cons x a ih => simp [idsL, ih]
theorem obTags2_congr {hp h2 : List Ob} {x : AV} (h : ∀ i ∈ idsOf x, h2[i]? = hp[i]?) : obTags2 h2 x = obTags2 hp x := by
  cases x with
  | func f a b =>
    simp only [obTags2]
    refine flatMap_congr' fun y hy => ?_
    rw [obTags_congr fun i hi => h i ?_]
    simp only [idsOf]
    rw [← idsL_app]
    exact mem_idsL hy i hi
  | _ => exact obTags_congr h
theorem tagsH_congr {hp h2 : List Ob} {args : List AV} (h : ∀ i ∈ idsL args, h2[i]? = hp[i]?) : tagsH args h2 = tagsH args hp := by
  unfold tagsH
  rw [flatMap_congr' fun x hx => obTags2_congr fun i hi => h i (mem_idsL hx i hi)]
theorem Sound.orH {P : Program} {f : FuncId} {s t : Spec} (ts : List Nat) (ws : Writes s) (wt : Writes t) (hs : Sound P f s) (ht : Sound P f t) : Sound P f (Cx.orH ts s t) where
  body := hs.body
  pure := fun args hp r hp' h => by have := (Writes.orH (ts := ts) ws wt) args hp _ h; simp [Cls.isWrite] at this
  read := fun args hp r hp' h => by have := (Writes.orH (ts := ts) ws wt) args hp _ h; simp [Cls.isWrite] at this
  heap := fun args hp r hp' h P hP hc h2 hl ho => by
    unfold Cx.orH at h ⊢
    rw [tagsH_congr (fun i hi => ho i (hP i hi))]
    cases hb : isTags ts (tagsH args hp) with
    | true => rw [hb] at h; simpa [hb] using hs.heap args hp r hp' h P hP hc h2 hl ho
    | false => rw [hb] at h; simpa [hb] using ht.heap args hp r hp' h P hP hc h2 hl ho
  calls := fun args hp r hp' c h => by
    unfold Cx.orH at h
    cases hb : isTags ts (tagsH args hp) with
    | true => rw [hb] at h; exact hs.calls args hp r hp' c h
    | false => rw [hb] at h; exact ht.calls args hp r hp' c h
end Go.Cx

end

section
namespace Go.Cx
noncomputable section
def cloneO (ty sz k : Nat) (sh : Sh) : Spec := heapS (patH [.leaf (.slice sz sh)] [] fun ls => .c (decide ((getXs (ls.getD 0 .junk)).length * k < LIM)) (.r (.oslice 0 0 (getXs (ls.getD 0 .junk)).length, [.grow ty 0 sz sh (getXs (ls.getD 0 .junk))])) .bad)
def cloneF (sz k : Nat) (sh : Sh) : Spec := pureS (patF [.leaf (.slice sz sh)] fun ls => .c (decide ((getXs (ls.getD 0 .junk)).length * k < LIM)) (.r (.slice sz sh (getXs (ls.getD 0 .junk)) .ro)) .bad)
theorem cloneO_ok {E : En} (hE : EnOK E) (hm : E.P.follows .mixedOrders = true) {f : FuncId} {fn : Func} {c : Code} (hf : E.P.funcs[f]? = some fn) (hb : fn.body = some c) (hn : (fn.name == "runtime.NumGoroutine") = false)
    {ty sz k : Nat} {sh : Sh} (h0 : 0 < sz)
    (hcn : ∀ xs R, callA E fn [.slice sz sh xs .nn] [] R = (bif decide (xs.length * k < LIM) then R (.oslice 0 0 xs.length) [.grow ty 0 sz sh xs] else False))
    (hcz : ∀ R, callA E fn [.nilsl] [] R = R .nilsl []) : Sound E.P f (cloneO ty sz k sh) := by
  refine sound_heap hE hm hf hb hn ?_
  intro args hp r hp2 hF hl g w vs hR hv
  unfold patH at hF
  split at hF
  · rename_i x y hx hy
    obtain ⟨h1, h2⟩ := chkT_inv hF
    cases hp with
    | cons o l => simp [matH] at hy
    | nil =>
      dsimp only at h2
      have hv1 : VL g [.slice sz sh (getXs ((x.1 ++ y.1).getD 0 .junk)) .ro] vs := ((matL_V (ls := x.1 ++ y.1) (g := g) _ args hx).2 0 (Stand.self _).left h1.left).1 vs hv
      generalize (x.1 ++ y.1).getD 0 .junk = l0 at h2 hv1
      obtain ⟨m, t1, t2⟩ := ToldL.VL hv1
      cases hb : decide ((getXs l0).length * k < LIM) with
      | false => rw [hb] at h2; simp [Tr.val, Tr.fold] at h2
      | true =>
        rw [hb] at h2
        simp only [Tr.val, Tr.fold, cond_true, Option.some.injEq, Prod.mk.injEq] at h2
        obtain ⟨rfl, rfl⟩ := h2
        cases m with
        | nil => simp [ToldL] at t1
        | cons b m =>
          obtain ⟨t3, t4⟩ := t1
          cases m with
          | cons => simp [ToldL] at t4
          | nil =>
            refine ⟨g, _, [], E.keep, Gh.le.refl g, hR, t2, by simp, by simp, ?_⟩
            rcases t3 with rfl | ⟨hn, rfl⟩
            · refine Eq.mpr (hcn _ _) ?_
              rw [hb]
              exact Wk.refl _ _
            · refine Eq.mpr (hcz _) ?_
              rw [hn]
              exact Wk.nil ty h0 sh []
  · simp [Tr.val, Tr.fold] at hF
theorem cloneF_ok {E : En} (hE : EnOK E) (hm : E.P.follows .mixedOrders = true) (h0 : E.keep = 0) {f : FuncId} {fn : Func} {c : Code} (hf : E.P.funcs[f]? = some fn) (hb : fn.body = some c) (hn : (fn.name == "runtime.NumGoroutine") = false)
    {sz k : Nat} {sh : Sh}
    (hcn : ∀ xs R, callA E fn [.slice sz sh xs .nn] [] R = (bif decide (xs.length * k < LIM) then (bif xs.length == xs.length then R (.slice sz sh xs .ro) [] else False) else False))
    (hcz : ∀ R, callA E fn [.nilsl] [] R = R .nilsl []) : Sound E.P f (cloneF sz k sh) := by
  refine sound_pure_g hE hm h0 hf hb hn ?_
  intro args r hF g vs hv
  unfold patF at hF
  split at hF
  · rename_i x hx
    obtain ⟨h1, h2⟩ := chkT_inv hF
    have hv1 : VL g [.slice sz sh (getXs (x.1.getD 0 .junk)) .ro] vs := ((matL_V (ls := x.1) (g := g) _ args hx).2 0 (Stand.self _) h1).1 vs hv
    dsimp only at h2
    generalize x.1.getD 0 .junk = l0 at h2 hv1
    cases hb : decide ((getXs l0).length * k < LIM) with
    | false => rw [hb] at h2; simp [Tr.val, Tr.fold] at h2
    | true =>
      rw [hb] at h2
      simp only [Tr.val, Tr.fold, cond_true, Option.some.injEq] at h2
      subst h2
      obtain ⟨m, t1, t2⟩ := ToldL.VL hv1
      cases m with
      | nil => simp [ToldL] at t1
      | cons b m =>
        obtain ⟨t3, t4⟩ := t1
        cases m with
        | cons => simp [ToldL] at t4
        | nil =>
          refine ⟨_, t2, ?_⟩
          rcases t3 with rfl | ⟨hn, rfl⟩
          · refine Eq.mpr (hcn _ _) ?_
            rw [hb]
            simp only [cond_true, beq_self_eq_true]
            exact Lo.refl _
          · refine Eq.mpr (hcz _) ?_
            rw [hn]
            exact Lo.nil
  · simp [Tr.val, Tr.fold] at hF
end
end Go.Cx

end

section
namespace Go.Cx
open Go.RowKit (Below)
set_option linter.unusedSimpArgs false
theorem sound_heap_walk {P : Program} {f : FuncId} {fn : Func} {c : Code} (hf : P.funcs[f]? = some fn) (hb : fn.body = some c) (hn : (fn.name == "runtime.NumGoroutine") = false) {F : List AV → List Ob → Tr (AV × List Ob)}
    (h : ∀ args hp r hp2, (F args hp).val = some (r, hp2) → hp.length ≤ hp2.length → ∀ g w vs, R g w hp → VL g args vs →
      Calls P f vs.toArray w fun e w' => ∃ v g', e = .returned v ∧ g.le g' ∧ R g' w' hp2 ∧ V g' r v) : Sound P f (heapS F) where
  body := ⟨fn, c, hf, hb, hn⟩
  pure := by
    intro args hp r hp' hs
    obtain ⟨_, _, _, _, _, _, _, _, _, _, e⟩ := heapS_inv hs
    simp at e
  read := by
    intro args hp r hp' hs
    obtain ⟨_, _, _, _, _, _, _, _, _, _, e⟩ := heapS_inv hs
    simp at e
  heap := fun args hp r hp' h => heapS_loc F args hp r hp' h
  calls := by
    intro args hp r hp' cl hs g w vs _ hR hv
    obtain ⟨L, r2, hp2, -, h1, h1', h2, h3, rfl, rfl, rfl⟩ := heapS_inv hs
    have K := Lok.of hR h1
    refine Calls.mono (h _ _ _ _ h2 (by simpa [smallH] using h3) _ w vs K.toSmall (K.args hv h1')) ?_
    rintro e w' ⟨v, g2, rfl, hle, hR2, hV⟩
    obtain ⟨g', j1, j2, j3⟩ := K.back hle hR2 h3
    exact ⟨v, g', rfl, j1, j2, j3 _ _ hV⟩
section
variable {g : Gh} {w : World} {hp : List Ob}
theorem R.setFix (h : R g w hp) {id ty off : Nat} {cs : List AV} (he : hp[id]? = some (.fix ty cs)) {v : AV} {cv : Value} (hv : V g v cv) (h1 : oneCell v = true) {b : Nat} (hb : g.blk id = some b) :
    R g (w.setCell ⟨b, off, none⟩ cv) (hp.set id (.fix ty (cs.set off v))) := by
  have k := h.objs id
  rw [he] at k
  obtain ⟨k1, b', vs, fz, k2, k3, k4, k5, k6, k7, k8⟩ := k
  rw [k2] at hb; cases hb
  obtain ⟨r1, r2, r3, r4⟩ := rest_setCells b [cv] off w
  have := heap_setCells b [cv] off w vs ty fz k4
  have hset : w.setCells b off [cv] = w.setCell ⟨b, off, none⟩ cv := rfl
  rw [hset] at this r1 r2 r3 r4
  refine h.turn (g' := g) (b := b) (Gh.le.refl g) (length_of_get he) (by rw [he]; simp) (.inl k2) (fun _ _ => rfl) (fun _ _ => rfl) (fun _ _ _ e => .inl e) (fun _ _ _ e => e) r1 r2 r3 (by omega)
    (fun k _ hk => by have := heap_setCells_other b [cv] off w k hk; rwa [hset] at this) ?_ (fun _ b' ho => ?_)
  · refine ⟨k1, b, _, fz, k2, k3, this, ?_, fun c hc => ?_, k7, fun o ho => ?_⟩
    · simpa [putR] using k5.set off hv
    · rcases List.mem_or_eq_of_mem_set hc with hc | rfl
      · exact k6 c hc
      · exact h1
    · rw [← hset, World.frozen?_setCells]
      exact k8 o (by simpa using ho)
  · left
    rcases ho with ho | ⟨_, _, _, ho⟩
    · rw [k2] at ho; exact (Option.some.inj ho).symm
    · rw [k1] at ho; simp at ho
theorem R.freeze (h : R g w hp) {b n : Nat} (hno : ∀ i, gone hp[i]? = false → ¬ own g i b) (hfree : g.free b) : R g (w.freeze ⟨b, 0, none⟩ n) hp := by
  have hoth : ∀ k, k ≠ b → (w.freeze ⟨b, 0, none⟩ n).heap[k]? = w.heap[k]? := by
    intro k hk
    unfold World.freeze
    split
    · rfl
    · simp only [Array.getElem?_modify]; rw [if_neg (fun e => hk e.symm)]
  have hcell : ∀ b' o, (w.freeze ⟨b, 0, none⟩ n).cell? ⟨b', o, none⟩ = w.cell? ⟨b', o, none⟩ := by
    intro b' o
    by_cases e : b' = b
    · subst e
      unfold World.freeze
      split
      · rfl
      · simp only [World.cell?, Array.getElem?_modify, if_true]
        cases hh : w.heap[b']? with
        | none => rfl
        | some ob => cases ob <;> rfl
    · exact cell_congr (hoth b' e)
  have hsz : (w.freeze ⟨b, 0, none⟩ n).heap.size = w.heap.size := by
    unfold World.freeze; split <;> simp
  have hos : (w.freeze ⟨b, 0, none⟩ n).os = w.os ∧ (w.freeze ⟨b, 0, none⟩ n).tape = w.tape ∧ (w.freeze ⟨b, 0, none⟩ n).output = w.output := by
    unfold World.freeze; split <;> exact ⟨rfl, rfl, rfl⟩
  refine ⟨h.below.trans ⟨hos.1, hos.2.1, hos.2.2, by omega, fun k hk => hoth k (by have := hfree.1; omega)⟩, by rw [hsz]; exact h.base, fun k hk => ?_, fun b' o v e => by rw [hcell]; exact h.imm b' o v e, fun i => ?_, h.inj⟩
  · obtain ⟨a1, a2⟩ := h.frz k hk
    refine ⟨by rw [hsz]; exact a1, ?_⟩
    rw [hoth k (fun e => by subst e; rw [hfree.2] at hk; simp at hk)]; exact a2
  · refine (h.objs i).keep rfl rfl rfl (Gh.le.refl g) (fun b' ho hd => ?_) (fun _ _ _ _ e => e)
    exact hoth b' (fun e => hno i hd (e ▸ ho))
end
section
variable {P : Program} (w : World)
theorem run_loadBytes' : ∀ (l : List Int) (a : Addr) (acc : ByteArray), (∀ j n, l[j]? = some n → w.cell? (a.add j) = some (.int .u8 n)) →
    (loadBytes a acc l.length).run P w = .ok ⟨acc.data ++ (l.map fun n => UInt8.ofNat n.toNat).toArray⟩ w
  | [], a, acc, _ => by simp [loadBytes]
  | x :: l, a, acc, h => by
    have h0 : w.cell? a = some (.int .u8 x) := by
      have := h 0 x rfl
      simpa [Addr.add] using this
    have ih := run_loadBytes' l (a.add 1) (acc.push (UInt8.ofNat x.toNat)) (fun j y hy => by
      have := h (j + 1) y (by simpa using hy)
      have e : (a.add 1).add j = a.add (j + 1) := by
        unfold Addr.add
        by_cases hj : j = 0
        · subst hj; simp
        · simp [hj]; omega
      rw [e]; exact this)
    simp only [List.length_cons, loadBytes, Sem.run_bind, run_load, h0, Result.andThen]
    show (loadBytes (a.add 1) (acc.push (UInt8.ofNat x.toNat)) l.length).run P w = _
    rw [ih]
    congr 1
    apply ByteArray.ext
    simp [ByteArray.push]
theorem run_unsafeString_row' (pt it ty e : TypeId) (hp : P.underlying pt = some (.pointer e)) (hc : P.cellsOf e = 1) (g cells : Nat) (hsh : w.shape? g = some (e, cells)) (l : List Int) (h0 : l ≠ []) (hn : l.length ≤ cells) (h63 : l.length ≤ 9223372036854775807)
    (hcell : ∀ j n, l[j]? = some n → w.cell? ((⟨g, 0, none⟩ : Addr).add j) = some (.int .u8 n)) :
    (Builtin.unsafeString_ #[pt, it] ty #[.pointer (some ⟨g, 0, none⟩), .int .i64 l.length]).run P w = .ok (.string ⟨(l.map fun n => UInt8.ofNat n.toNat).toArray⟩) (w.freeze ⟨g, 0, none⟩ l.length) := by
  have hl : l.length ≠ 0 := by simpa using h0
  have hlb := run_loadBytes' (P := P) w l ⟨g, 0, none⟩ .empty hcell
  have hlies := Lib.liesAt_bytes (P := P) hc (cells / P.cellsOf e) l.length (by rw [hc]; simpa using hn)
  have h63' : ¬ (9223372036854775807 : Int) < (l.length : Int) := by omega
  have hdef : Builtin.unsafeString_ #[pt, it] ty #[.pointer (some ⟨g, 0, none⟩), .int .i64 l.length] =
      (do
        let n ← asInt (.int .i64 l.length)
        if n < 0 then runtimePanic (.error "unsafe.String: len out of range")
        if n > IntKind.i64.max then unsupported (.unsafePointer "String: a length above the largest int")
        if n = 0 then pure (.string .empty)
        else if ← variablesAt ⟨g, 0, none⟩ (← elemOf pt) n.toNat then do
          let s ← loadBytes ⟨g, 0, none⟩ .empty n.toNat
          freeze ⟨g, 0, none⟩ n.toNat
          pure (.string s)
        else unsupported (.unsafePointer "String: not so many bytes at ptr")) := rfl
  rw [hdef]
  have hmax : IntKind.i64.max = 9223372036854775807 := rfl
  have hneg : ¬ (l.length : Int) < 0 := by omega
  simp [asInt, asIntOf, hmax, h63', hneg, hl, variablesAt, hsh, elemOf, run_underlying hp, hlies, hlb]
end
theorem grow_bytes {g : Gh} {w : World} {hp : List Ob} (h : R g w hp) {id ty ver : Nat} {xs : List AV} (he : hp[id]? = some (.grow ty ver 1 (.int .u8) xs)) {vb : Value} (hv : V g (.oslice id ver xs.length) vb) :
    (xs = [] ∧ vb = .slice none 0 0) ∨ ∃ b c cur fz, vb = .slice (some ⟨b, 0, none⟩) xs.length c ∧ w.heap[b]? = some (.cells cur ty fz) ∧ xs.length ≤ c ∧ xs.length ≤ cur.size ∧ xs.length < TOP ∧ own g id b ∧
      (∀ (j : Nat) n, (xs.map getI)[j]? = some n → cur[j]? = some (.int .u8 n)) := by
  rcases h.growOK he with k | ⟨b, c, vs, fz, k⟩
  · left
    have := k.nil; subst this
    exact ⟨rfl, k.slice hv⟩
  · right
    have h8 : ∀ x ∈ xs, (cells x).length = 1 ∧ reshape (.int .u8) x = x := fun x hx => ⟨(k.sh x hx).2.1, (k.sh x hx).1⟩
    have hvl := k.vl
    rw [flat_one h8] at hvl
    have hb := bytes_ints (fun x hx => (h8 x hx).2) hvl
    refine ⟨b, c, vs, fz, k.slice hv, k.heap, k.le, by rw [k.size, Nat.mul_one]; exact k.le, k.lim, .inr ⟨_, _, _, k.cur⟩, fun j n hn => ?_⟩
    have hlt : j < xs.length := by have := length_of_get hn; simpa using this
    have : (vs.toList.take (xs.length * 1))[j]? = some (.int .u8 n) := by
      rw [hb, List.getElem?_map, hn]; rfl
    rw [List.getElem?_take, if_pos (by omega)] at this
    simpa using this
end Go.Cx

end

section
namespace Go.Cx
open Go.RowKit (Below)
set_option linter.unusedSimpArgs false
structure Flat (s : Spec) : Prop where
  same : ∀ args hp r hp' c, (s args hp).val = some (r, hp', c) → hp' = hp ∧ c = .pure ∧ ∀ h2, (s args h2).val = some (r, h2, .pure)
theorem sound_new {P : Program} {f : FuncId} {fn : Func} {c : Code} (hf : P.funcs[f]? = some fn) (hb : fn.body = some c) (hn : (fn.name == "runtime.NumGoroutine") = false) {s : Spec} (hs : Flat s)
    (h : ∀ args hp r hp' c, (s args hp).val = some (r, hp', c) → ∀ g w vs, Lay P w → VL g args vs → Calls P f vs.toArray w fun e w' => ∃ v, e = .returned v ∧ Below w.heap.size w w' ∧ ∀ g', V g' r v) : Sound P f s where
  body := ⟨fn, c, hf, hb, hn⟩
  pure := fun args hp r hp' e => ⟨(hs.same _ _ _ _ _ e).1, (hs.same _ _ _ _ _ e).2.2⟩
  read := fun args hp r hp' e => (hs.same _ _ _ _ _ e).1
  heap := fun args hp r hp' e => by have := (hs.same _ _ _ _ _ e).2.1; simp at this
  calls := fun args hp r hp' cl e g w vs hL hR hv => by
    obtain ⟨rfl, -, -⟩ := hs.same _ _ _ _ _ e
    refine Calls.mono (h _ _ _ _ _ e g w vs (hL.now hR) hv) ?_
    rintro e' w' ⟨v, rfl, hbel, hV⟩
    exact ⟨v, g, rfl, Gh.le.refl g, hR.grow hbel, hV g⟩
theorem Sound.weaker {P : Program} {f : FuncId} {s t : Spec} (h : Sound P f s) (ht : Flat t) (hst : ∀ args hp r hp' c, (t args hp).val = some (r, hp', c) → (s args hp).val = some (r, hp', c)) : Sound P f t where
  body := h.body
  pure := fun args hp r hp' e => ⟨(ht.same _ _ _ _ _ e).1, (ht.same _ _ _ _ _ e).2.2⟩
  read := fun args hp r hp' e => (ht.same _ _ _ _ _ e).1
  heap := fun args hp r hp' e => by have := (ht.same _ _ _ _ _ e).2.1; simp at this
  calls := fun args hp r hp' cl e => h.calls args hp r hp' cl (hst _ _ _ _ _ e)
theorem Sound.never {P : Program} {f : FuncId} {fn : Func} {c : Code} (hf : P.funcs[f]? = some fn) (hb : fn.body = some c) (hn : (fn.name == "runtime.NumGoroutine") = false) {s : Spec} (h : ∀ args hp, (s args hp).val = .none) : Sound P f s where
  body := ⟨fn, c, hf, hb, hn⟩
  pure := fun args hp r hp' e => by rw [h] at e; cases e
  read := fun args hp r hp' e => by rw [h] at e; cases e
  heap := fun args hp r hp' e => by rw [h] at e; cases e
  calls := fun args hp r hp' cl e => by rw [h] at e; cases e
theorem val_if {ρ : Type} {b : Bool} {t e : Tr ρ} : (Tr.c b t e).val = cond b t.val e.val := by cases b <;> rfl
theorem val_if_bad {ρ : Type} {b : Bool} {t : Tr ρ} {x : ρ} (h : (Tr.c b t .bad).val = some x) : b = true ∧ t.val = some x := by
  rw [val_if] at h
  cases b with
  | true => exact ⟨rfl, h⟩
  | false => cases h
theorem val_ret {ρ : Type} {y x : ρ} (h : (Tr.r y).val = some x) : y = x := Option.some.inj h
end Go.Cx

end
