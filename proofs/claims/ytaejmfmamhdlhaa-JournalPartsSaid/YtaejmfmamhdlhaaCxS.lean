/- A code, sound. -/
import Derived.Test.YtaejmfmamhdlhaaCxR
import Derived.Scope
import Derived.Tactics
namespace Go.Cx
open Go.RowKit (Below)
set_option linter.unusedSimpArgs false

/-- An abstract state beside the model's. -/
structure Rel (g0 g : Gh) (st : St) (a : Act) (w : World) : Prop where
  le : g0.le g
  r : R g w st.hp
  vl : VL g st.fr a.tmps.toList
  defers : a.defers = []

/-- What is asked behind an abstract code, asked of the model's. -/
def QC (g0 : Gh) (K : Ex → St → Prop) : Exit → Act → World → Prop
  | .normal, a, w => ∃ g st, Rel g0 g st a w ∧ K .normal st
  | .exit id, a, w => ∃ g st, Rel g0 g st a w ∧ K (.exit id) st
  | .ret, a, w => ∃ g st, Rel g0 g st a w ∧ K .ret st
  | _, _, _ => False

theorem Ids.of_le {g0 g : Gh} {w : World} {hp : List Ob} (hle : g0.le g) (h : R g w hp) : Ids g0 hp.length := by
  intro i hi
  have k := h.none_blk hi
  constructor
  · cases hb : g0.blk i with
    | none => rfl
    | some b => rw [hle.blk i b hb] at k; simp at k
  · cases hc : g0.cur i with
    | none => rfl
    | some x =>
      obtain ⟨v, l, b, c⟩ := x
      obtain ⟨y, hy, _⟩ := hle.cur i v l b c hc
      rw [hy] at k; simp at k

theorem Rel.put {g0 g g' : Gh} {st : St} {a : Act} {w w' : World} (h : Rel g0 g st a w) (hle : g.le g') {hp' : List Ob} (hR : R g' w' hp') {v : AV} {cv : Value} (hV : V g' v cv) (dst : Option Nat) :
    Rel g0 g' ⟨putA st.fr dst v, hp'⟩ (a.put dst cv) w' := by
  refine ⟨h.le.trans hle, hR, ?_, ?_⟩
  · cases dst with
    | none => exact h.vl.mono hle
    | some d =>
      simp only [putA, Act.put, Array.toList_setIfInBounds]
      exact (h.vl.mono hle).set d hV
  · cases dst with
    | none => exact h.defers
    | some d => exact h.defers

theorem Rel.fix {g0 g : Gh} {st : St} {a : Act} {w : World} (h : Rel g0 g st a w) {d : Nat} {b : Bool} (hd : st.fr.getD d .junk = .bool b) : a.tmps.toList[d]? = some (.bool b) ∧ Rel g0 g ⟨st.fr.set d (.bool b), st.hp⟩ a w := by
  have hlt : d < st.fr.length := by
    rcases Nat.lt_or_ge d st.fr.length with h' | h'
    · exact h'
    · rw [List.getD_eq_getElem?_getD, List.getElem?_eq_none h'] at hd; simp at hd
  have hg : st.fr[d]? = some (.bool b) := by
    rw [List.getD_eq_getElem?_getD, List.getElem?_eq_getElem hlt] at hd
    rw [List.getElem?_eq_getElem hlt]; simpa using hd
  obtain ⟨cv, hcv, hV⟩ := h.vl.get hg
  have := bool_inv hV
  subst this
  refine ⟨hcv, h.le, h.r, ⟨by simpa using h.vl.1, fun i c v e1 e2 => ?_⟩, h.defers⟩
  rw [List.getElem?_set] at e1
  split at e1
  · rename_i e; subst e
    simp at e1; subst e1
    rw [hcv] at e2; simp at e2; subst e2; exact .bool b
  · exact h.vl.2 i c v e1 e2

theorem yielded_of {ops : Array Oper} {a : Act} {j d : Nat} {b : Bool} (hj : (ops.toList[j]?).bind (·.dst) = some d) (hd : a.tmps.toList[d]? = some (.bool b)) : yielded ops a.tmps j = some b := by
  have h1 : (ops[j]?).bind (·.dst) = some d := by simpa using hj
  have h2 : a.tmps[d]? = some (.bool b) := by simpa using hd
  simp [yielded, h1, h2]

theorem V.undef {g : Gh} : V g (.tuple []) Go.undef := .tuple [] #[] rfl (fun i c v e => by simp at e)

/-- What was not run yields nothing. -/
theorem Rel.none {g0 g : Gh} {st : St} {a : Act} {w : World} (h : Rel g0 g st a w) {ops : Array Oper} {j d : Nat} (hj : (ops.toList[j]?).bind (·.dst) = some d) (hd : st.fr.getD d .junk = .tuple []) : yielded ops a.tmps j = none := by
  have h1 : (ops[j]?).bind (·.dst) = some d := by simpa using hj
  have hlt : d < st.fr.length := by
    rcases Nat.lt_or_ge d st.fr.length with h' | h'
    · exact h'
    · rw [List.getD_eq_getElem?_getD, List.getElem?_eq_none h'] at hd; simp at hd
  have hg : st.fr[d]? = some (.tuple []) := by
    rw [List.getD_eq_getElem?_getD, List.getElem?_eq_getElem hlt] at hd
    rw [List.getElem?_eq_getElem hlt]; simpa using hd
  obtain ⟨cv, hcv, hV⟩ := h.vl.get hg
  have h2 : a.tmps[d]? = some cv := by simpa using hcv
  cases hV with
  | tuple _ vs _ _ => simp [yielded, h1, h2]

/-- The operations of a region in the text's order. -/
theorem ops_sound {E : En} (hE : EnOK E) {g0 : Gh} {ops : Array Oper} {Q : Exit → Act → World → Prop} : ∀ (l : List Oper) (st : St) (cl : List Cls) (K : St → List Cls → Prop),
    runOps False E ops.toList l st cl K → (∀ g st a w cl, Rel g0 g st a w → K st cl → Q .normal a w) → ∀ g a w, Rel g0 g st a w → wpList E.P ops Q l a w
  | [], st, cl, K, h, hQ, g, a, w, hr => hQ g st a w _ hr h
  | o :: rest, st, cl, K, h, hQ, g, a, w, hr => by
    simp only [wpList]
    have run : ∀ {st : St}, Rel g0 g st a w → (opA False E o st.fr st.hp fun v hp c => runOps False E ops.toList rest ⟨putA st.fr o.dst v, hp⟩ (c :: cl) K) → o.wp E.P a w (wpList E.P ops Q rest) Q := by
      intro st hr hh
      obtain ⟨v, hp', c, hop, hk⟩ := opA_P hh
      exact opF_wp hE hr.r hr.vl hop fun g' w' cv hle hR hV => ops_sound hE rest _ _ K hk hQ g' _ _ (hr.put hle hR hV o.dst)
    have skip : ∀ {st : St} {c : Cls}, Rel g0 g st a w → runOps False E ops.toList rest ⟨putA st.fr o.dst (.tuple []), st.hp⟩ (c :: cl) K → wpList E.P ops Q rest (a.put o.dst undef) w := by
      intro st c hr hh
      exact ops_sound hE rest _ _ K hh hQ g _ _ (hr.put (Gh.le.refl g) hr.r V.undef o.dst)
    simp only [runOps] at h
    split at h
    · rename_i hg
      have hw : Region.wanted o (yielded ops a.tmps) = true := by simp [Region.wanted, hg]
      rw [if_pos hw]
      exact .inl (run hr h)
    · rename_i j want hg
      split at h
      · rename_i d hd
        split at h
        · rename_i b hb
          obtain ⟨hy, hr'⟩ := hr.fix hb
          have hyl := yielded_of hd hy
          cases b with
          | true =>
            simp only [cond_true] at h
            cases want with
            | true =>
              have hw : Region.wanted o (yielded ops a.tmps) = true := by simp [Region.wanted, hg, hyl]
              rw [if_pos hw]; simp only [if_true] at h; exact .inl (run hr' h)
            | false =>
              have hw : ¬ Region.wanted o (yielded ops a.tmps) = true := by simp [Region.wanted, hg, hyl]
              rw [if_neg hw]; simp only [Bool.false_eq_true, if_false] at h; exact skip hr' h
          | false =>
            simp only [cond_false] at h
            cases want with
            | true =>
              have hw : ¬ Region.wanted o (yielded ops a.tmps) = true := by simp [Region.wanted, hg, hyl]
              rw [if_neg hw]; simp only [if_true] at h; exact skip hr' h
            | false =>
              have hw : Region.wanted o (yielded ops a.tmps) = true := by simp [Region.wanted, hg, hyl]
              rw [if_pos hw]; simp only [Bool.false_eq_true, if_false] at h; exact .inl (run hr' h)
        · rename_i hb
          have hw : ¬ Region.wanted o (yielded ops a.tmps) = true := by simp [Region.wanted, hg, hr.none hd hb]
          rw [if_neg hw]; exact skip hr h
        · exact h.elim
      · exact h.elim

/-- What is asked of a region that draws its order. -/
def Draws (E : En) : Prop := ∀ (g0 : Gh) (ops : Array Oper) (Q : Exit → Act → World → Prop) (st : St) (K : St → Prop) (id : Nat),
  (runOps False E ops.toList ops.toList st [] fun st' cl => cond (fine ops.toList cl) (K st') False) → (∀ g st a w, Rel g0 g st a w → K st → Q .normal a w) → ∀ g a w, Rel g0 g st a w → (Code.region id ops true).wp E.P Q a w

theorem wkAt_VL {g : Gh} : ∀ (l : List (Nat × Sh)) {fr : List AV} {vs : List Value}, VL g fr vs → VL g (wkAt l fr) vs ∧ ((∀ c ∈ fr, oneCell c) → ∀ c ∈ wkAt l fr, oneCell c)
  | [], fr, vs, h => ⟨h, fun e => e⟩
  | (i, sh) :: l, fr, vs, h => by
    simp only [wkAt]
    split
    · rename_i x hx
      split
      · rename_i y hy
        cases hc : (oneCell y || !oneCell x) with
        | false => simp only [cond_false]; exact wkAt_VL l h
        | true =>
          simp only [cond_true]
          obtain ⟨v, e1, e2⟩ := h.get hx
          have hv := h.set i ((fit_sound sh x y hy).2.1 _ _ e2)
          have e3 : vs.set i v = vs := by
            apply List.ext_getElem?
            intro j
            rw [List.getElem?_set]
            split
            · rename_i e; subst e; rw [e1]; simp [length_of_get e1]
            · rfl
          rw [e3] at hv
          obtain ⟨k1, k2⟩ := wkAt_VL l hv
          refine ⟨k1, fun e => k2 fun c hm => ?_⟩
          rcases List.mem_or_eq_of_mem_set hm with hm | rfl
          · exact e c hm
          · have := e x (List.mem_of_getElem? hx)
            rw [this] at hc; simpa using hc
      · exact wkAt_VL l h
    · exact wkAt_VL l h

theorem R.weakFix {g : Gh} {w : World} {hp : List Ob} (h : R g w hp) {j : Nat} {ty : TypeId} {cs cs' : List AV} (he : hp[j]? = some (.fix ty cs)) (hv : ∀ vs, VL g cs vs → VL g cs' vs) (h1 : (∀ c ∈ cs, oneCell c) → ∀ c ∈ cs', oneCell c) : R g w (hp.set j (.fix ty cs')) := by
  have hlt := length_of_get he
  have hd' : ∀ i : Nat, gone (hp.set j (.fix ty cs'))[i]? = false → gone hp[i]? = false := by
    intro i hn
    rw [List.getElem?_set] at hn
    split at hn
    · rename_i e1; subst e1; rw [he]; rfl
    · exact hn
  refine ⟨h.below, h.base, h.frz, h.imm, fun i => ?_, fun i k b hik hi hk => h.inj i k b hik (hd' i hi) (hd' k hk)⟩
  by_cases e : j = i
  · subst e
    rw [List.getElem?_set_self hlt]
    have k := h.objs j
    rw [he] at k
    obtain ⟨k1, b, vs, fz, k2, k3, k4, k5, k6, k7, k8⟩ := k
    exact ⟨k1, b, vs, fz, k2, k3, k4, hv _ k5, h1 k6, k7, k8⟩
  · rw [List.getElem?_set_ne e]; exact h.objs i

theorem wkO_R {g : Gh} {w : World} : ∀ (l : List (Nat × Nat × Sh)) {hp : List Ob}, R g w hp → R g w (wkO l hp)
  | [], hp, h => h
  | (j, i, sh) :: l, hp, h => by
    simp only [wkO]
    split
    · rename_i ty cs he
      exact wkO_R l (h.weakFix he (fun vs hv => (wkAt_VL [(i, sh)] hv).1) (fun e => by
        have k := h.objs j
        rw [he] at k
        obtain ⟨k1, b, vs, fz, k2, k3, k4, k5, k6, k7, k8⟩ := k
        exact (wkAt_VL [(i, sh)] k5).2 e))
    · exact wkO_R l h

theorem R.deaden {g : Gh} {w : World} {hp : List Ob} (h : R g w hp) : R g w (hp.map deadO) := by
  have hg : ∀ i : Nat, gone (hp.map deadO)[i]? = gone hp[i]? := by
    intro i
    rw [List.getElem?_map]
    cases hp[i]? with
    | none => rfl
    | some o => cases o <;> rfl
  refine ⟨h.below, h.base, h.frz, h.imm, fun i => ?_, fun i k b hik hi hk => h.inj i k b hik (by rw [← hg]; exact hi) (by rw [← hg]; exact hk)⟩
  have k := h.objs i
  rw [List.getElem?_map]
  cases ho : hp[i]? with
  | none => rw [ho] at k; exact k
  | some o =>
    rw [ho] at k
    cases o with
    | froz ver sz sh xs => obtain ⟨k1, b, c, k2, k3⟩ := k; exact ⟨k1, _, k2⟩
    | _ => exact k

theorem nrm_sound {g0 g : Gh} {m : Nat} {l : Nm} {st : St} {K : St → Prop} {a : Act} {w : World} (h : nrm m l st K) (hr : Rel g0 g st a w) (hi : Ids g0 m) : ∃ g' st', Rel g0 g' st' a w ∧ K st' := by
  unfold nrm at h
  dsimp only at h
  rw [List.map_take] at h
  cases hb : (refsL m (wkAt l.weak (clearAt st.fr l.forget)) && (((wkO l.weakO st.hp).map deadO).take m).all (refsO m)) with
  | false => rw [hb] at h; exact h.elim
  | true =>
    rw [hb] at h
    simp only [Bool.and_eq_true] at hb
    exact ⟨g.trim m, _, ⟨hr.le.trim hi, (wkO_R l.weakO hr.r).deaden.trim hb.2, (wkAt_VL l.weak (clear_VL l.forget hr.vl)).1.trim hb.1, hr.defers⟩, lenO_out (lenAt_out h)⟩

theorem joinK_sound {E : En} {g0 g : Gh} (hI : Ids g0 E.keep) {b : Code} {F : St → Prop} {st : St} {a : Act} {w : World} (h : joinK E b F st) (hr : Rel g0 g st a w) : ∃ g' st', Rel g0 g' st' a w ∧ F st' := by
  unfold joinK at h
  split at h
  · rename_i m hm
    unfold cutK at h
    dsimp only at h
    obtain ⟨g1, k1, k2, k3, -, k5⟩ := virtL_sound (E.virt (tagC b)) hr.r hr.vl
    have hi : Ids g0 (max E.keep m) := fun i hi => hI i (by omega)
    obtain ⟨g', st', hr', hk⟩ := nrm_sound h (g := g1) ⟨hr.le.trans k1, k2, k3, hr.defers⟩ hi
    exact ⟨g', st', hr', hk.out⟩
  · exact ⟨g, st, hr, h⟩

/-- Behind a loop's round. -/
def Rounds (P : Program) (c : Code) (Q : Exit → Act → World → Prop) (a : Act) (w : World) : Prop :=
  ∀ (b : Frame) (k : List Item) (cs : List Frame), ∃ e a' w', Q e a' w' ∧ Arrives P (lone (b.at a (.code c :: .inLoop c :: k)) cs w) b k cs e a' w'

theorem Rounds.loop {P : Program} {c : Code} {Q : Exit → Act → World → Prop} {a : Act} {w : World} (h : Rounds P c Q a w) : (Code.loop c).wp P Q a w := by
  intro b k cs
  obtain ⟨e, a', w', hq, harr⟩ := h b k cs
  exact ⟨e, a', w', hq, .of_steps (.one step_loop) harr⟩

theorem Rounds.round {P : Program} {c : Code} {Q : Exit → Act → World → Prop} {a : Act} {w : World} (h : c.wp P (Exit.then (Rounds P c Q) Q) a w) : Rounds P c Q a w := by
  intro b k cs
  obtain ⟨e, a₁, w₁, hq, harr⟩ := h b (.inLoop c :: k) cs
  cases e with
  | normal =>
    obtain ⟨e₂, a₂, w₂, hq₂, harr₂⟩ := hq b k cs
    exact ⟨e₂, a₂, w₂, hq₂, .of_steps (Steps.trans harr (.one step_inLoop)) harr₂⟩
  | exit id => exact ⟨_, a₁, w₁, hq, .pass (x := .inLoop c) rfl (fun _ _ => .inl (by simp)) harr⟩
  | goto l => exact ⟨_, a₁, w₁, hq, .pass (x := .inLoop c) rfl (fun _ _ => .inl (by simp)) harr⟩
  | ret => exact ⟨_, a₁, w₁, hq, .pass (x := .inLoop c) rfl (fun _ _ => .inl (by simp)) harr⟩
  | panic ch => exact ⟨_, a₁, w₁, hq, .pass (x := .inLoop c) rfl (fun _ _ => .inl (by simp)) harr⟩
  | outgrown => exact ⟨_, a₁, w₁, hq, .pass (x := .inLoop c) rfl (fun _ _ => .inl (by simp)) harr⟩

theorem wp_sound {E : En} (hE : EnOK E) (hD : Draws E) {g0 : Gh} {lp : Handler}
    (hI : Ids g0 E.keep) (hlp : ∀ b m K s, lp b m K s → Ids g0 m → ∀ g a w, Rel g0 g s a w → Rounds E.P b (QC g0 K) a w) : ∀ (c : Code) (K : Ex → St → Prop) (st : St), wpX E lp c K st → ∀ g a w, Rel g0 g st a w → c.wp E.P (QC g0 K) a w
  | .skip, K, st, h, g, a, w, hr => wp_skip ⟨g, st, hr, h⟩
  | .label l, K, st, h, g, a, w, hr => wp_label ⟨g, st, hr, h⟩
  | .region id ops draw, K, st, h, g, a, w, hr => by
    simp only [wpX] at h
    rw [runOpsK_eq] at h
    cases draw with
    | true =>
      simp only [Bool.not_true, Bool.false_or] at h
      exact hD g0 ops _ st (K .normal) id h (fun g st a w hr hk => ⟨g, st, hr, hk⟩) g a w hr
    | false =>
      simp only [Bool.not_false, Bool.true_or, cond_true] at h
      refine wp_region_list ?_
      exact ops_sound hE ops.toList st [] _ h (fun g st a w cl hr hk => ⟨g, st, hr, hk⟩) g a w hr
  | .seq x y, K, st, h, g, a, w, hr => by
    refine wp_seq ?_
    have := wp_sound hE hD hI hlp x _ st h g a w hr
    refine Code.wp_mono (fun e a w hq => ?_) this
    cases e with
    | normal =>
      obtain ⟨g', st', hr', hk⟩ := hq
      obtain ⟨g2, st2, hr2, hk2⟩ := joinK_sound hI hk hr'
      exact wp_sound hE hD hI hlp y K st2 hk2 g2 a w hr2
    | exit id => exact hq
    | ret => exact hq
    | goto l => exact hq
    | panic ch => exact hq
    | outgrown => exact hq
  | .cond c x y, K, st, h, g, a, w, hr => by
    simp only [wpX] at h
    split at h
    · rename_i t ht
      have hV := eval_V hr.vl c
      rw [ht] at hV
      refine wp_cond (t := t) (bool_inv hV) ?_
      cases t
      · exact wp_sound hE hD hI hlp y K st h g a w hr
      · exact wp_sound hE hD hI hlp x K st h g a w hr
    · exact h.elim
  | .block id b, K, st, h, g, a, w, hr => by
    refine wp_block ?_
    have := wp_sound hE hD hI hlp b _ st h g a w hr
    refine Code.wp_mono (fun e a w hq => ?_) this
    cases e with
    | normal => exact hq
    | exit id' =>
      obtain ⟨g', st', hr', hk⟩ := hq
      simp only [Exit.inBlock]
      simp only [blockK] at hk
      split
      · rename_i e; rw [if_pos e] at hk; exact ⟨g', st', hr', hk⟩
      · rename_i e; rw [if_neg e] at hk; exact ⟨g', st', hr', hk⟩
    | ret => exact hq
    | goto l => exact hq
    | panic ch => exact hq
    | outgrown => exact hq
  | .loop b, K, st, h, g, a, w, hr => by
    simp only [wpX] at h
    obtain ⟨g1, k1, k2, k3, -, k5⟩ := virtL_sound (E.virt (firstRegion b)) hr.r hr.vl
    have hi : Ids g0 (virtL (E.virt (firstRegion b)) (st.fr, st.hp)).2.length := fun i hi => Ids.of_le hr.le hr.r i (by omega)
    obtain ⟨g', st', hr', hk⟩ := nrm_sound h (g := g1) ⟨hr.le.trans k1, k2, k3, hr.defers⟩ hi
    exact (hlp b _ K st' hk hi g' a w hr').loop
  | .scope b, K, st, h, g, a, w, hr => by
    refine wp_scope_straight ?_
    have := wp_sound hE hD hI hlp b K st h g a w hr
    refine Code.wp_mono (fun e a w hq => ?_) this
    cases e <;> exact hq
  | .exit id, K, st, h, g, a, w, hr => wp_exit ⟨g, st, hr, h⟩
  | .ret, K, st, h, g, a, w, hr => wp_ret ⟨g, st, hr, h⟩
  | .rangeFunc .., K, st, h, g, a, w, hr => by simp [wpX] at h
  | .goto _, K, st, h, g, a, w, hr => by simp [wpX] at h
  | .refuse _, K, st, h, g, a, w, hr => by simp [wpX] at h

theorem wpA_sound {E : En} (hE : EnOK E) (hD : Draws E) {g0 : Gh} {c : Code} {K : Ex → St → Prop} {st : St} (hI : Ids g0 E.keep) (h : wpA E c K st) {g : Gh} {a : Act} {w : World} (hr : Rel g0 g st a w) : c.wp E.P (QC g0 K) a w := by
  refine wp_sound hE hD hI (lp := LP E) (fun b m K s hl hi g a w hr => ?_) c K st h g a w hr
  refine hl.out (fun b m K s => Ids g0 m → ∀ g a w, Rel g0 g s a w → Rounds E.P b (QC g0 K) a w) (fun b m K K' s hk hh hi g a w hr => ?_) (fun b m K s hw hi g a w hr => ?_) hi g a w hr
  · intro b' k cs
    obtain ⟨e, a', w', h1, h2⟩ := hh hi g a w hr b' k cs
    refine ⟨e, a', w', ?_, h2⟩
    cases e with
    | normal => obtain ⟨g, st, h3, h4⟩ := h1; exact ⟨g, st, h3, hk _ _ h4⟩
    | exit id => obtain ⟨g, st, h3, h4⟩ := h1; exact ⟨g, st, h3, hk _ _ h4⟩
    | ret => obtain ⟨g, st, h3, h4⟩ := h1; exact ⟨g, st, h3, hk _ _ h4⟩
    | goto l => exact h1
    | panic ch => exact h1
    | outgrown => exact h1
  refine Rounds.round ?_
  have := wp_sound hE hD hI (lp := fun b m K s => Ids g0 m → ∀ g a w, Rel g0 g s a w → Rounds E.P b (QC g0 K) a w) (fun b m K s hl hi g a w hr => hl hi g a w hr) b _ s hw g a w hr
  refine Code.wp_mono (fun e a w hq => ?_) this
  cases e with
  | normal =>
    obtain ⟨g', st', hr', hk⟩ := hq
    simp only [stepK] at hk
    obtain ⟨g2, st2, hr2, hk2⟩ := nrm_sound hk hr' hi
    exact hk2 hi g2 a w hr2
  | exit id => exact hq
  | ret => exact hq
  | goto l => exact hq
  | panic ch => exact hq
  | outgrown => exact hq

end Go.Cx
