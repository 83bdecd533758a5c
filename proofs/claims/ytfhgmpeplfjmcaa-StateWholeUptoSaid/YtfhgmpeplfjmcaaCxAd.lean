/- A call's end where objects are kept. -/
import Derived.Test.YtfhgmpeplfjmcaaCxAa
namespace Go.Cx
open Go.RowKit (Below)
set_option linter.unusedSimpArgs false
theorem giveOA_sound {w : World} {hp : List Ob} {m : Nat} : ∀ (l : List Ob) (d : List Ob) {g : Gh} {hp0 : List Ob} {K : List Ob → Prop}, giveOA False m hp l K → Gv g w hp hp0 m →
    (∀ i, hp0[i]? = (d ++ l)[i]? ∨ d.length + l.length ≤ i) → d.length + l.length ≤ m → d.all (refsO m) = true →
    ∃ g' hp1 l', g.le g' ∧ Gv g' w hp hp1 m ∧ (∀ i, hp1[i]? = (d ++ l')[i]? ∨ d.length + l.length ≤ i) ∧ l'.length = l.length ∧ l'.all (refsO m) = true ∧ K l'
  | [], d, g, hp0, K, h, k, hi, hm, hd => ⟨g, hp0, [], Gh.le.refl g, k, hi, rfl, rfl, h⟩
  | .fix ty cs :: l, d, g, hp0, K, h, k, hi, hm, hd => by
    simp only [giveOA] at h
    simp only [List.length_cons] at hi hm ⊢
    have he : hp0[d.length]? = some (.fix ty cs) := by
      rcases hi d.length with e | e
      · rw [e]; simp
      · omega
    have kk := k.r.objs d.length
    rw [he] at kk
    obtain ⟨k1, b, vs, fz, k2, k3, k4, k5, k6, k7, k8⟩ := kk
    obtain ⟨g1, hp1, ys, h1, h2, h3, h4, h5, h6, h7, h8⟩ := giveLA_sound cs h k k5
    have hone : ys.all oneCell = true := h8 (by simp only [List.all_eq_true]; exact k6)
    have he1 : hp1[d.length]? = some (.fix ty cs) := (h7 _ (by omega)).trans he
    have kk := h3.r.objs d.length
    rw [he1] at kk
    obtain ⟨j1, b', vs', fz', j2, j3, j4, j5, j6, j7, j8⟩ := kk
    have hb' : b' = b := by
      have := h1.blk _ _ k2; rw [j2] at this; simpa using this
    subst hb'
    have hvs : vs' = vs := by rw [k4] at j4; simp at j4; exact j4.1.symm
    subst hvs
    have hR : R g1 w (hp1.set d.length (.fix ty ys)) := by
      have dead : ∀ j : Nat, gone (hp1.set d.length (.fix ty ys))[j]? = false → gone hp1[j]? = false := by
        intro j hj
        by_cases e : j = d.length
        · subst e; rw [he1]; rfl
        · rwa [List.getElem?_set_ne (Ne.symm e)] at hj
      refine ⟨h3.r.below, h3.r.base, h3.r.frz, h3.r.imm, fun j => ?_, fun a b c hab ha hb oa ob => h3.r.inj a b c hab (dead a ha) (dead b hb) oa ob⟩
      by_cases e : j = d.length
      · subst e
        rw [List.getElem?_set_self (length_of_get he1)]
        exact ⟨j1, b', vs', fz', j2, j3, j4, h4, List.all_eq_true.1 hone, j7, j8⟩
      · rw [List.getElem?_set_ne (Ne.symm e)]; exact h3.r.objs j
    have k' : Gv g1 w hp (hp1.set d.length (.fix ty ys)) m := ⟨hR, by simp [h3.len], fun i hmi => by
      rw [List.getElem?_set_ne (by omega)]; exact h3.ob i hmi⟩
    obtain ⟨g2, hp2, l', i1, i2, i3, i4, i5, i6⟩ := giveOA_sound l (d ++ [.fix ty ys]) (g := g1) (hp0 := hp1.set d.length (.fix ty ys)) h6 k' (fun i => by
      by_cases e : i = d.length
      · subst e
        left
        rw [List.getElem?_set_self (length_of_get he1)]
        simp
      · rw [List.getElem?_set_ne (Ne.symm e)]
        rcases hi i with e1 | e1
        · by_cases hlt : i < m
          · left
            rw [h7 i hlt, e1]
            rcases Nat.lt_or_ge i d.length with h | h
            · simp [List.getElem?_append, h, Nat.lt_succ_of_lt h]
            · rw [List.getElem?_append_right h, List.append_assoc, List.getElem?_append_right h]
              obtain ⟨j, hj⟩ : ∃ j, i - d.length = j + 1 := ⟨i - d.length - 1, by omega⟩
              rw [hj]; simp
          · right; simp; omega
        · right; simp; omega) (by simp; omega) (by simp [hd, refsO, h5])
    refine ⟨g2, hp2, .fix ty ys :: l', h1.trans i1, i2, fun i => ?_, by simp [i4], by simp [refsO, h5, i5], i6⟩
    rcases i3 i with e | e
    · left; rw [e]; simp
    · right; simp at e; omega
  | .grow t a b c e :: l, d, g, hp0, K, h, k, hi, hm, hd => by
    simp only [giveOA] at h
    simp only [List.length_cons] at hi hm ⊢
    split at h
    · rename_i hr
      obtain ⟨g2, hp2, l', i1, i2, i3, i4, i5, i6⟩ := giveOA_sound l (d ++ [.grow t a b c e]) h k (fun i => (hi i).imp (fun e => by rw [e]; simp) (fun e => by simp; omega)) (by simp; omega) (by simp [hd, hr])
      exact ⟨g2, hp2, .grow t a b c e :: l', i1, i2, fun i => (i3 i).imp (fun e => by rw [e]; simp) (fun e => by simp at e; omega), by simp [i4], by simp [hr, i5], i6⟩
    · exact h.elim
  | .froz a b c e :: l, d, g, hp0, K, h, k, hi, hm, hd => by
    simp only [giveOA] at h
    simp only [List.length_cons] at hi hm ⊢
    split at h
    · rename_i hr
      obtain ⟨g2, hp2, l', i1, i2, i3, i4, i5, i6⟩ := giveOA_sound l (d ++ [.froz a b c e]) h k (fun i => (hi i).imp (fun e => by rw [e]; simp) (fun e => by simp; omega)) (by simp; omega) (by simp [hd, hr])
      exact ⟨g2, hp2, .froz a b c e :: l', i1, i2, fun i => (i3 i).imp (fun e => by rw [e]; simp) (fun e => by simp at e; omega), by simp [i4], by simp [hr, i5], i6⟩
    · exact h.elim
  | .dead :: l, d, g, hp0, K, h, k, hi, hm, hd => by
    simp only [giveOA] at h
    simp only [List.length_cons] at hi hm ⊢
    split at h
    · rename_i hr
      obtain ⟨g2, hp2, l', i1, i2, i3, i4, i5, i6⟩ := giveOA_sound l (d ++ [.dead]) h k (fun i => (hi i).imp (fun e => by rw [e]; simp) (fun e => by simp; omega)) (by simp; omega) (by simp [hd, hr])
      exact ⟨g2, hp2, .dead :: l', i1, i2, fun i => (i3 i).imp (fun e => by rw [e]; simp) (fun e => by simp at e; omega), by simp [i4], by simp [hr, i5], i6⟩
    · exact h.elim
  | .hole :: l, d, g, hp0, K, h, k, hi, hm, hd => by
    simp only [giveOA] at h
    simp only [List.length_cons] at hi hm ⊢
    split at h
    · rename_i hr
      obtain ⟨g2, hp2, l', i1, i2, i3, i4, i5, i6⟩ := giveOA_sound l (d ++ [.hole]) h k (fun i => (hi i).imp (fun e => by rw [e]; simp) (fun e => by simp; omega)) (by simp; omega) (by simp [hd, hr])
      exact ⟨g2, hp2, .hole :: l', i1, i2, fun i => (i3 i).imp (fun e => by rw [e]; simp) (fun e => by simp at e; omega), by simp [i4], by simp [hr, i5], i6⟩
    · exact h.elim
theorem calls_heap {E : En} (hE : EnOK E) (hm : E.P.follows .mixedOrders = true) {f : FuncId} {fn : Func} {c : Code} (hf : E.P.funcs[f]? = some fn) (hb : fn.body = some c)
    {args : List AV} {hp : List Ob} {S : AV → List Ob → Prop} (hkp : hp.length ≤ E.keep) (hbs : hp.length ≤ E.base) (h : callA E fn args hp S) {g : Gh} {w : World} (hR : R g w hp) {vs : List Value} (hv : VL g args vs) :
    Calls E.P f vs.toArray w fun e w' => ∃ v g' r hp', e = .returned v ∧ g.le g' ∧ R g' w' hp' ∧ V g' r v ∧ S r hp' := by
  unfold callA at h
  rw [hb] at h
  simp only at h
  have hrel : Rel g g ⟨initA fn args, hp⟩ { tmps := vs.toArray ++ Array.replicate (fn.ntmps - vs.toArray.size) undef, defers := [] } w := ⟨Gh.le.refl g, hR, hv.init, rfl⟩
  refine calls_of_wp hf hb (Code.wp_mono (fun e a w' hq => ?_) (wp_sound_E hE hm (fun i hi => Ids.of_le (Gh.le.refl g) hR i (by omega)) (fun i hi => Ids.of_le (Gh.le.refl g) hR i (by omega)) h hrel))
  have key : ∀ {g' : Gh} {st : St}, Rel g g' st a w' → (resA False E.P st fn.results.toList fun vs => xgcK E.xgc E.base vs st.hp fun vs hp => exitA False E.keep (tupA vs) hp S) →
      a.defers = [] ∧ ∃ v, (results fn a.tmps).run E.P w' = .ok v w' ∧ (fun e w' => ∃ v g' r hp', e = .returned v ∧ g.le g' ∧ R g' w' hp' ∧ V g' r v ∧ S r hp' : Ending → World → Prop) (.returned v) w' := by
    intro g' st hr hk
    obtain ⟨vs, cs, h1, h2, h3⟩ := results_sound hr.r hr.vl hk
    refine ⟨hr.defers, _, h1, ?_⟩
    obtain ⟨g1, vs1, hp0, x1, x2, x3, h3⟩ := xgcK_sound h3 hr.le hr.r h2 (fun i hi => Ids.of_le (Gh.le.refl g) hR i (by omega))
    unfold exitA at h3
    obtain ⟨g2, hp1, y, i1, i2, i3, i4, i5, i6, i7, -⟩ := giveA_sound _ h3 (Gv.refl E.keep x2) (resV_V x3)
    obtain ⟨g3, hp2, l', j1, j2, j3, j4, j5, j6⟩ := giveOA_sound (hp0.take E.keep) [] i6 i3 (fun i => by
      by_cases hlt : i < E.keep
      · left; rw [i7 i hlt, List.nil_append, List.getElem?_take, if_pos hlt]
      · by_cases h2 : hp0.length ≤ i
        · left
          rw [List.getElem?_eq_none (by rw [i3.len]; exact h2)]
          simp
          omega
        · right; simp; omega) (by simp; omega) rfl
    have hl' : hp2.take E.keep = l' := by
      apply List.ext_getElem?
      intro i
      rw [List.getElem?_take]
      split
      · rename_i hlt
        rcases j3 i with e | e
        · simpa using e
        · simp at e
          rw [List.getElem?_eq_none (by rw [j2.len]; omega), List.getElem?_eq_none (by rw [j4]; simp; omega)]
      · rename_i hge
        rw [List.getElem?_eq_none (by rw [j4]; simp; omega)]
    have hid : Ids g E.keep := fun i hi => Ids.of_le (Gh.le.refl g) hR i (by omega)
    have hT := j2.r.trim (m := E.keep) (by rw [hl']; exact j5)
    rw [hl'] at hT
    exact ⟨_, g3.trim E.keep, y, l', rfl, ((x1.trans i1).trans j1).trim hid, hT, (i4.mono j1).trim (.inr i5), j6⟩
  cases e with
  | normal => obtain ⟨g', st, hr, hk⟩ := hq; exact key hr hk
  | ret => obtain ⟨g', st, hr, hk⟩ := hq; exact key hr hk
  | exit id => obtain ⟨g', st, hr, hk⟩ := hq; exact hk.elim
  | goto l => exact hq.elim
  | panic ch => exact hq.elim
  | outgrown => exact hq.elim
end Go.Cx
