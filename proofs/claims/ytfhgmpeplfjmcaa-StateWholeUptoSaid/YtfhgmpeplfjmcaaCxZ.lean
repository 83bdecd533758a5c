/- A call's end; from a body to a summary. -/
import Derived.Test.YtfhgmpeplfjmcaaCxY
namespace Go.Cx
open Go.RowKit (Below)
set_option linter.unusedSimpArgs false
theorem loadA_P {P : Program} {t : TypeId} {a : AV} {hp : List Ob} {K : AV → Cls → Prop} (h : loadA False P t a hp K) : ∃ v c, loadA none P t a hp (fun v c => some (v, c)) = some (v, c) ∧ K v c := by
  have := loadA_hom (fun r : Option (AV × Cls) => ∃ v c, r = some (v, c) ∧ K v c) (bad := none) (P := P) t a hp (fun v c => some (v, c))
  simp only [Option.some.injEq, Prod.mk.injEq, reduceCtorEq, false_and, exists_false] at this
  refine this.mpr ?_
  have e : (fun a b => ∃ v c, (a = v ∧ b = c) ∧ K v c) = K := by
    funext a b
    apply propext
    constructor
    · rintro ⟨_, _, ⟨rfl, rfl⟩, hk⟩; exact hk
    · intro hk; exact ⟨_, _, ⟨rfl, rfl⟩, hk⟩
  rw [e]; exact h
theorem grown_P {hp : List Ob} {id ver len : Nat} {K : TypeId → Nat → Sh → List AV → Prop} (h : grown False hp id ver len K) : ∃ ty sz sh xs, hp[id]? = some (.grow ty ver sz sh xs) ∧ len = xs.length ∧ K ty sz sh xs := by
  unfold grown at h
  split at h
  · rename_i ver' sz sh xs he
    unfold ask at h
    cases h1 : ver == ver' with
    | false => rw [h1] at h; exact h.elim
    | true =>
      rw [h1] at h
      cases h2 : len == xs.length with
      | false => rw [h2] at h; exact h.elim
      | true =>
        rw [h2] at h
        have e := eq_of_beq h1; subst e
        exact ⟨_, sz, sh, xs, he, eq_of_beq h2, h⟩
  · exact h.elim
theorem grownR_P {hp : List Ob} {id ver len : Nat} {K : Nat → Sh → List AV → Prop} (h : grownR False hp id ver len K) : ∃ sz sh xs, ((∃ ty, hp[id]? = some (.grow ty ver sz sh xs)) ∨ hp[id]? = some (.froz ver sz sh xs)) ∧ len = xs.length ∧ K sz sh xs := by
  unfold grownR at h
  split at h
  · rename_i ty ver' sz sh xs he
    unfold ask at h
    cases h1 : ver == ver' with
    | false => rw [h1] at h; exact h.elim
    | true =>
      rw [h1] at h
      cases h2 : len == xs.length with
      | false => rw [h2] at h; exact h.elim
      | true =>
        rw [h2] at h
        have e := eq_of_beq h1; subst e
        exact ⟨sz, sh, xs, .inl ⟨ty, he⟩, eq_of_beq h2, h⟩
  · rename_i ver' sz sh xs he
    unfold ask at h
    cases h1 : ver == ver' with
    | false => rw [h1] at h; exact h.elim
    | true =>
      rw [h1] at h
      cases h2 : len == xs.length with
      | false => rw [h2] at h; exact h.elim
      | true =>
        rw [h2] at h
        have e := eq_of_beq h1; subst e
        exact ⟨sz, sh, xs, .inr he, eq_of_beq h2, h⟩
  · exact h.elim
structure Gv (g : Gh) (w : World) (hp hp0 : List Ob) (m : Nat) : Prop where
  r : R g w hp0
  len : hp0.length = hp.length
  ob : ∀ i, m ≤ i → hp0[i]? = hp[i]? ∨ ((∃ ty ver sz sh xs, hp[i]? = some (.grow ty ver sz sh xs)) ∧ ∀ ty ver sz sh xs, hp[i]? = some (.grow ty ver sz sh xs) → ∀ g2 cv, g2.cur = g.cur → V g2 (.oslice i ver xs.length) cv → V g (.slice sz sh xs .ro) cv)
theorem cur_le {g g' : Gh} (h : g'.cur = g.cur) {i : Nat} {x : Nat × Nat × Option Nat × Nat} (e : g.cur i = some x) : g'.cur i = some x := by rw [h]; exact e
theorem give_obj {g : Gh} {w : World} {hp hp0 : List Ob} {m : Nat} (k : Gv g w hp hp0 m) {ty : TypeId} {id ver sz : Nat} {sh : Sh} {xs : List AV} (hm : m ≤ id) (he : hp[id]? = some (.grow ty ver sz sh xs)) {cv : Value} (hV : V g (.oslice id ver xs.length) cv) :
    ∃ g' hp1, g.le g' ∧ g'.cur = g.cur ∧ Gv g' w hp hp1 m ∧ V g' (.slice sz sh xs .ro) cv ∧ (∀ i, i < m → hp1[i]? = hp0[i]?) := by
  rcases k.ob id hm with ho | ⟨hd, ho⟩
  · obtain ⟨g', hle, hR, hs, hcur⟩ := k.r.give (ho.trans he)
    refine ⟨g', _, hle, hcur, ⟨hR, by simp [k.len], fun i hmi => ?_⟩, hs g cv rfl hV, fun i hi => ?_⟩
    · by_cases e : i = id
      · subst e
        right
        refine ⟨⟨_, _, _, _, _, he⟩, fun ty' ver' sz' sh' xs' he' g2 cv e2 hV2 => ?_⟩
        rw [he] at he'; cases he'
        exact hs g2 cv (e2.trans hcur) hV2
      · rw [List.getElem?_set_ne (Ne.symm e)]
        refine (k.ob i hmi).imp (fun e => e) (fun ⟨h1, h2⟩ => ⟨h1, fun ty ver sz sh xs he g2 cv e2 hV2 => ?_⟩)
        exact (h2 ty ver sz sh xs he g2 cv (e2.trans hcur) hV2).mono hle
    · rw [List.getElem?_set_ne (by omega)]
  · exact ⟨g, hp0, Gh.le.refl g, rfl, k, ho ty ver sz sh xs he g cv rfl hV, fun _ _ => rfl⟩
theorem Gv.refl {g : Gh} {w : World} {hp : List Ob} (m : Nat) (h : R g w hp) : Gv g w hp hp m := ⟨h, rfl, fun _ _ => .inl rfl⟩
mutual
theorem giveA_sound {w : World} {hp : List Ob} {m : Nat} : ∀ (x : AV) {g : Gh} {hp0 : List Ob} {cv : Value} {K : AV → Prop}, giveA False m hp x K → Gv g w hp hp0 m → V g x cv →
    ∃ g' hp1 y, g.le g' ∧ g'.cur = g.cur ∧ Gv g' w hp hp1 m ∧ V g' y cv ∧ refs m y = true ∧ K y ∧ (∀ i, i < m → hp1[i]? = hp0[i]?) ∧ (oneCell x = true → oneCell y = true)
  | .oslice id ver len, g, hp0, cv, K, h, k, hV => by
    simp only [giveA] at h
    split at h
    · rename_i hlt
      exact ⟨g, hp0, _, Gh.le.refl g, rfl, k, hV, by simpa [refs] using hlt, h, fun _ _ => rfl, fun e => e⟩
    · rename_i hge
      obtain ⟨sz, sh, xs, he, rfl, h'⟩ := grownR_P h
      split at h'
      · rename_i hcl
        rcases he with ⟨tyo, he⟩ | he
        rotate_left
        · have ho : hp0[id]? = some (.froz ver sz sh xs) := by
            rcases k.ob id (by omega) with ho | ⟨⟨_, _, _, _, _, ho⟩, _⟩
            · exact ho.trans he
            · rw [he] at ho; simp at ho
          exact ⟨g, hp0, _, Gh.le.refl g, rfl, k, k.r.frozV ho hV, by simp [refs, hcl], h', fun _ _ => rfl, fun _ => rfl⟩
        obtain ⟨g', hp1, h1, h2, h3, h4, h5⟩ := give_obj k (by omega) he hV
        exact ⟨g', hp1, _, h1, h2, h3, h4, by simp [refs, hcl], h', h5, fun _ => rfl⟩
      · exact h'.elim
  | .agg cs, g, hp0, cv, K, h, k, hV => by
    simp only [giveA] at h
    cases hV with
    | agg _ vs hl hv =>
      have hvl : VL g cs vs.toList := ⟨by simpa using hl, fun i c v e1 e2 => hv i c v e1 (by simpa using e2)⟩
      obtain ⟨g', hp1, ys, h1, h2, h3, h4, h5, h6, h7, -⟩ := giveLA_sound cs h k hvl
      exact ⟨g', hp1, _, h1, h2, h3, .agg ys vs (by simpa using h4.1) (fun i c v e1 e2 => h4.2 i c v e1 (by simpa using e2)), by simpa [refs] using h5, h6, h7, fun e => by simp [oneCell] at e⟩
  | .tuple cs, g, hp0, cv, K, h, k, hV => by
    simp only [giveA] at h
    cases hV with
    | tuple _ vs hl hv =>
      have hvl : VL g cs vs.toList := ⟨by simpa using hl, fun i c v e1 e2 => hv i c v e1 (by simpa using e2)⟩
      obtain ⟨g', hp1, ys, h1, h2, h3, h4, h5, h6, h7, -⟩ := giveLA_sound cs h k hvl
      exact ⟨g', hp1, _, h1, h2, h3, .tuple ys vs (by simpa using h4.1) (fun i c v e1 e2 => h4.2 i c v e1 (by simpa using e2)), by simpa [refs] using h5, h6, h7, fun e => by simp [oneCell] at e⟩
  | .fslice sz sh xs ys, g, hp0, cv, K, h, k, hV => by
    simp only [giveA] at h
    split at h
    · rename_i hr; exact ⟨g, hp0, _, Gh.le.refl g, rfl, k, hV, hr, h, fun _ _ => rfl, fun e => e⟩
    · exact h.elim
  | .int a b, g, hp0, cv, K, h, k, hV => ⟨g, hp0, _, Gh.le.refl g, rfl, k, hV, rfl, by simpa [giveA, refs] using h, fun _ _ => rfl, fun e => e⟩
  | .bool b, g, hp0, cv, K, h, k, hV => ⟨g, hp0, _, Gh.le.refl g, rfl, k, hV, rfl, by simpa [giveA, refs] using h, fun _ _ => rfl, fun e => e⟩
  | .str b, g, hp0, cv, K, h, k, hV => ⟨g, hp0, _, Gh.le.refl g, rfl, k, hV, rfl, by simpa [giveA, refs] using h, fun _ _ => rfl, fun e => e⟩
  | .ptr a b, g, hp0, cv, K, h, k, hV => by
    simp only [giveA] at h
    split at h
    · rename_i hr; exact ⟨g, hp0, _, Gh.le.refl g, rfl, k, hV, hr, h, fun _ _ => rfl, fun e => e⟩
    · exact h.elim
  | .nilptr, g, hp0, cv, K, h, k, hV => ⟨g, hp0, _, Gh.le.refl g, rfl, k, hV, rfl, by simpa [giveA, refs] using h, fun _ _ => rfl, fun e => e⟩
  | .rptr cs, g, hp0, cv, K, h, k, hV => by
    simp only [giveA] at h
    split at h
    · rename_i hr; exact ⟨g, hp0, _, Gh.le.refl g, rfl, k, hV, hr, h, fun _ _ => rfl, fun e => e⟩
    · exact h.elim
  | .nilsl, g, hp0, cv, K, h, k, hV => ⟨g, hp0, _, Gh.le.refl g, rfl, k, hV, rfl, by simpa [giveA, refs] using h, fun _ _ => rfl, fun e => e⟩
  | .slice a b c d, g, hp0, cv, K, h, k, hV => by
    simp only [giveA] at h
    split at h
    · rename_i hr; exact ⟨g, hp0, _, Gh.le.refl g, rfl, k, hV, hr, h, fun _ _ => rfl, fun e => e⟩
    · exact h.elim
  | .optr a b c d e f, g, hp0, cv, K, h, k, hV => by
    simp only [giveA] at h
    split at h
    · rename_i hr; exact ⟨g, hp0, _, Gh.le.refl g, rfl, k, hV, hr, h, fun _ _ => rfl, fun e => e⟩
    · exact h.elim
  | .func a b c, g, hp0, cv, K, h, k, hV => by
    simp only [giveA] at h
    split at h
    · rename_i hr; exact ⟨g, hp0, _, Gh.le.refl g, rfl, k, hV, hr, h, fun _ _ => rfl, fun e => e⟩
    · exact h.elim
  | .nilfunc, g, hp0, cv, K, h, k, hV => ⟨g, hp0, _, Gh.le.refl g, rfl, k, hV, rfl, by simpa [giveA, refs] using h, fun _ _ => rfl, fun e => e⟩
  | .nilIface, g, hp0, cv, K, h, k, hV => ⟨g, hp0, _, Gh.le.refl g, rfl, k, hV, rfl, by simpa [giveA, refs] using h, fun _ _ => rfl, fun e => e⟩
  | .junk, g, hp0, cv, K, h, k, hV => ⟨g, hp0, _, Gh.le.refl g, rfl, k, hV, rfl, by simpa [giveA, refs] using h, fun _ _ => rfl, fun e => e⟩
theorem giveLA_sound {w : World} {hp : List Ob} {m : Nat} : ∀ (l : List AV) {g : Gh} {hp0 : List Ob} {vs : List Value} {K : List AV → Prop}, giveLA False m hp l K → Gv g w hp hp0 m → VL g l vs →
    ∃ g' hp1 ys, g.le g' ∧ g'.cur = g.cur ∧ Gv g' w hp hp1 m ∧ VL g' ys vs ∧ refsL m ys = true ∧ K ys ∧ (∀ i, i < m → hp1[i]? = hp0[i]?) ∧ (l.all oneCell = true → ys.all oneCell = true)
  | [], g, hp0, vs, K, h, k, hV => ⟨g, hp0, [], Gh.le.refl g, rfl, k, hV, rfl, by simpa [giveLA] using h, fun _ _ => rfl, fun e => e⟩
  | x :: l, g, hp0, vs, K, h, k, hV => by
    simp only [giveLA] at h
    obtain ⟨v, vs, rfl, hx, hl⟩ := hV.cons_inv
    obtain ⟨g1, hp1, y, h1, h2, h3, h4, h5, h6, h7, h8⟩ := giveA_sound x h k hx
    obtain ⟨g2, hp2, ys, i1, i2, i3, i4, i5, i6, i7, i8⟩ := giveLA_sound l h6 h3 (hl.mono h1)
    refine ⟨g2, hp2, y :: ys, h1.trans i1, i2.trans h2, i3, VL.cons (h4.mono i1) i4, by simp [refsL, h5, i5], i6, fun i hi => (i7 i hi).trans (h7 i hi), fun e => ?_⟩
    simp only [List.all_cons, Bool.and_eq_true] at e ⊢
    exact ⟨h8 e.1, i8 e.2⟩
end
theorem addr_of_loadAt {P : Program} {w : World} {t : TypeId} {ca cv : Value} (h : (Instr.loadAt t ca).run P w = .ok cv w) : ∃ ad, ca = .pointer (some ad) := by
  unfold Instr.loadAt at h
  simp only [Sem.run_bind] at h
  cases ca with
  | pointer q => cases q <;> simp_all [Instr.sureAddr]
  | _ => simp [Instr.sureAddr] at h
def res1 (tmps : Array Value) : ResultVar → Sem Value
  | .tmp t => pure (tmps.getD t undef)
  | .cell a t => do loadVar t (← asAddr (tmps.getD a undef))
theorem resA_sound {P : Program} {g : Gh} {st : St} {tmps : Array Value} {w : World} (hR : R g w st.hp) (hv : VL g st.fr tmps.toList) : ∀ (l : List ResultVar) {K : List AV → Prop}, resA False P st l K →
    ∃ vs cs, (l.mapM (res1 tmps)).run P w = .ok cs w ∧ VL g vs cs ∧ K vs
  | [], K, h => ⟨[], [], rfl, VL.nil g, h⟩
  | .tmp t :: l, K, h => by
    simp only [resA] at h
    obtain ⟨vs, cs, h1, h2, h3⟩ := resA_sound hR hv l h
    have := hv.getD t
    refine ⟨_ :: vs, tmps.getD t undef :: cs, ?_, VL.cons ?_ h2, h3⟩
    · simp only [List.mapM_cons, res1, Sem.run_bind, Sem.run_pure, Result.andThen_ok, h1]
    · simpa [Array.getD_eq_getD_getElem?, List.getD_eq_getElem?_getD] using this
  | .cell a t :: l, K, h => by
    simp only [resA] at h
    obtain ⟨v, c, hl, h⟩ := loadA_P h
    obtain ⟨vs, cs, h1, h2, h3⟩ := resA_sound hR hv l h
    have hva := hv.getD a
    have hva : V g (st.fr.getD a .junk) (tmps.getD a undef) := by simpa [Array.getD_eq_getD_getElem?, List.getD_eq_getElem?_getD] using hva
    obtain ⟨cv, hrun, hcv⟩ := loadA_sound hR hl hva
    have has : (res1 tmps (.cell a t)).run P w = .ok cv w := by
      obtain ⟨ad, had⟩ := addr_of_loadAt hrun
      have e : res1 tmps (.cell a t) = (do loadVar t (← asAddr (tmps.getD a undef))) := rfl
      rw [e, had]
      rw [had] at hrun
      exact hrun
    refine ⟨v :: vs, cv :: cs, ?_, VL.cons hcv h2, h3⟩
    rw [List.mapM_cons, Sem.run_bind, has]
    simp only [Sem.run_bind, Result.andThen_ok, h1, Sem.run_pure]
def resV (cs : List Value) : Value := if h : cs.length = 1 then cs[0] else .tuple ⟨cs⟩
theorem resV_V {g : Gh} {vs : List AV} {cs : List Value} (h2 : VL g vs cs) : V g (tupA vs) (resV cs) := by
  unfold resV
  have hl := h2.1
  cases cs with
  | nil =>
    cases vs with
    | nil => exact .tuple [] #[] rfl (fun i c v e => by simp at e)
    | cons => simp at hl
  | cons c cs =>
    cases cs with
    | nil =>
      cases vs with
      | nil => simp at hl
      | cons v vs =>
        cases vs with
        | nil => exact h2.head
        | cons => simp at hl
    | cons d cs =>
      cases vs with
      | nil => simp at hl
      | cons v vs =>
        cases vs with
        | nil => simp at hl
        | cons u vs => exact .tuple _ _ (by simpa using hl) (fun i c v e1 e2 => h2.2 i c v e1 (by simpa using e2))
theorem results_sound {P : Program} {fn : Func} {g : Gh} {st : St} {tmps : Array Value} {w : World} (hR : R g w st.hp) (hv : VL g st.fr tmps.toList) {K : List AV → Prop} (h : resA False P st fn.results.toList K) :
    ∃ vs cs, (results fn tmps).run P w = .ok (resV cs) w ∧ VL g vs cs ∧ K vs := by
  obtain ⟨vs, cs, h1, h2, h3⟩ := resA_sound hR hv fn.results.toList h
  refine ⟨vs, cs, ?_, h2, h3⟩
  have e : results fn tmps = (do let vs ← fn.results.mapM (res1 tmps); pure (if h : vs.size = 1 then vs[0] else .tuple vs)) := rfl
  rw [e, Array.mapM_eq_mapM_toList]
  unfold resV
  simp only [Sem.run_bind, Sem.run_map, h1]
  by_cases hs : cs.length = 1
  · simp [hs]
  · simp [hs]
end Go.Cx
