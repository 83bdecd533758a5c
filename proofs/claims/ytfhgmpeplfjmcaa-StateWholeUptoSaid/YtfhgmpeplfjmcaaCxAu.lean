/- The text's run with its makers' numbers given before, for whoever computes. -/
import Derived.Test.YtfhgmpeplfjmcaaCxAt
namespace Go.Cx
open Go.RowKit (Below)
set_option linter.unusedSimpArgs false
namespace M
theorem mvK_P {E : En} {o : Oper} {fr : List AV} {hp : List Ob} {off : Nat} {v : AV} {hp' : List Ob} {c : Cls} {K : AV → List Ob → Ft → List Nat → Prop} (hop : opF E o fr hp = some (v, hp', c)) (h : mvK False E o fr hp off v hp' c K) :
    ∃ v1 hp1, opM (List.range' off (hp'.length - hp.length)) E o fr hp = some (v1, hp1, c) ∧ K v1 hp1 (ftM hp.length (List.range' off (hp'.length - hp.length)) (ftOf E o fr hp c)) (List.range' off (hp'.length - hp.length)) := by
  unfold mvK at h
  generalize List.range' off (hp'.length - hp.length) = hs at h ⊢
  cases hs with
  | nil =>
    simp only at h
    cases hc : (hp'.length == hp.length && newsOK hp.length (ftOf E o fr hp c)) with
    | false => rw [hc] at h; exact h.elim
    | true =>
      rw [hc] at h
      exact ⟨v, hp', by unfold opM; simp only [hop, Option.bind_some, hc, cond_true], h⟩
  | cons x hs =>
    simp only at h
    cases hf : (ftOf E o fr hp c).f with
    | none => rw [hf] at h; exact h.elim
    | some f =>
      rw [hf] at h
      simp only at h
      cases hL : allsOf hp.length f.2 with
      | none => rw [hL] at h; exact h.elim
      | some L =>
        rw [hL] at h
        simp only at h
        cases hk : okMv hp.length (x :: hs) L hp' v with
        | false => rw [hk] at h; exact h.elim
        | true =>
          rw [hk] at h
          exact ⟨_, _, by unfold opM; simp only [hop, hf, hL, hk, Option.bind_some, cond_true], h⟩
theorem runM_F {E : En} {all : List Oper} : ∀ (l : List Oper) (off : Nat) (st : St) (acc : List (Ft × List Nat)) (K : St → List (Ft × List Nat) → Prop), runM False E all off l st acc K → ∃ st' cl, runF E all off l st = some (st', cl) ∧ K st' (acc.reverse ++ cl)
  | [], off, st, acc, K, h => ⟨st, [], rfl, by simpa [runM] using h⟩
  | o :: l, off, st, acc, K, h => by
    have go : ∀ {s0 st1 : St} {c0 c : Ft}, Go.Cx.stepF E all o st = some (s0, c0) → stepF (List.range' off (s0.hp.length - st.hp.length)) E all o st = some (st1, c) →
        runM False E all (off + (s0.hp.length - st.hp.length)) l st1 ((c, List.range' off (s0.hp.length - st.hp.length)) :: acc) K → ∃ st' cl, runF E all off (o :: l) st = some (st', cl) ∧ K st' (acc.reverse ++ cl) := by
      intro s0 st1 c0 c hs0 hs hr
      obtain ⟨st', cl, h1, h2⟩ := runM_F l _ st1 _ K hr
      exact ⟨st', (c, List.range' off (s0.hp.length - st.hp.length)) :: cl, by simp only [runF, hs0, hs, h1, Option.map_some], by simpa using h2⟩
    simp only [runM] at h
    split at h
    · rename_i hg
      obtain ⟨v, hp', c, hop, hk⟩ := opA_P h
      obtain ⟨v1, hp1, hm, hk⟩ := mvK_P hop hk
      exact go (s0 := ⟨putA st.fr o.dst v, hp'⟩) (by simp only [Go.Cx.stepF, hg, hop, Option.map_some]; try rfl) (by simp only [stepF, hg, hm, Option.map_some]; try rfl) hk
    · rename_i j want hg
      split at h
      · rename_i d hd
        split at h
        · rename_i b hb
          split at h
          · rename_i e
            obtain ⟨v, hp', c, hop, hk⟩ := opA_P h
            obtain ⟨v1, hp1, hm, hk⟩ := mvK_P hop hk
            exact go (s0 := ⟨putA st.fr o.dst v, hp'⟩) (by unfold Go.Cx.stepF; simp only [hg, hd, hb, if_pos e, hop, Option.map_some]; try rfl) (by unfold stepF; simp only [hg, hd, hb, if_pos e, hm, Option.map_some]; try rfl) hk
          · rename_i e
            have z : st.hp.length - st.hp.length = 0 := Nat.sub_self _
            exact go (s0 := ⟨putA st.fr o.dst (.tuple []), st.hp⟩) (st1 := ⟨putA st.fr o.dst (.tuple []), st.hp⟩) (c0 := ⟨.pure, none⟩) (c := ⟨.pure, none⟩) (by unfold Go.Cx.stepF; simp only [hg, hd, hb, if_neg e]) (by unfold stepF; simp only [hg, hd, hb, if_neg e]) (by simpa [z] using h)
        · rename_i hb
          have z : st.hp.length - st.hp.length = 0 := Nat.sub_self _
          exact go (s0 := ⟨putA st.fr o.dst (.tuple []), st.hp⟩) (st1 := ⟨putA st.fr o.dst (.tuple []), st.hp⟩) (c0 := ⟨.pure, none⟩) (c := ⟨.pure, none⟩) (by unfold Go.Cx.stepF; simp only [hg, hd, hb]) (by unfold stepF; simp only [hg, hd, hb]) (by simpa [z] using h)
        · exact h.elim
      · exact h.elim
theorem draws_runM {E : En} {ops : Array Oper} (hE : EnOK E) (hm : E.P.follows .mixedOrders = true) {st : St} {m n : Nat} {K : St → Prop}
    (h : runM False E ops.toList st.hp.length ops.toList ⟨st.fr, st.hp ++ List.replicate m .hole⟩ [] fun st' r => cond (okRun ops.toList st.hp.length m st' r n) (K ⟨st'.fr, st'.hp.take n⟩) False)
    {g0 : Gh} {Q : Exit → Act → World → Prop} (hQ : ∀ g st a w, Rel g0 g st a w → K st → Q .normal a w) {id : Nat} {g : Gh} {a : Act} {w : World} (hr : Rel g0 g st a w) : (Code.region id ops true).wp E.P Q a w := by
  obtain ⟨st', r, h1, h2⟩ := runM_F _ _ _ _ _ h
  simp only [List.reverse_nil, List.nil_append] at h2
  cases hok : okRun ops.toList st.hp.length m st' r n with
  | false => rw [hok] at h2; exact h2.elim
  | true => rw [hok] at h2; exact draws_run hE hm h1 hok (fun g a w hr => hQ g _ a w hr h2) hr
end M
theorem draws {E : En} (hE : EnOK E) (hm : E.P.follows .mixedOrders = true) : Draws E := by
  intro g0 ops Q st K id h hQ g a w hr
  obtain ⟨st', cl, h1, h2⟩ := runOps_F _ _ _ _ h
  simp only [List.reverse_nil, List.nil_append] at h2
  cases hf : fine ops.toList cl with
  | false =>
    rw [hf] at h2
    simp only [cond_false, M.redo, M.runMK_eq, heapK_eq] at h2
    exact M.draws_runM hE hm h2 hQ hr
  | true =>
    rw [hf] at h2
    simp only [cond_true] at h2
    obtain ⟨hlen, S, hS0, hSn, hS⟩ := runF_trace _ _ _ _ h1
    have T : Trace E ops S cl := ⟨hlen, hS, hf⟩
    refine wp_region_any hm (any_sound hE T (fun g a w hr => hQ g st' a w (by rw [← hSn]; exact hr) h2) ops.size _ st (by simp) ?_ ?_ ?_ g a _ ⟨hr.le, hr.r.drew, hr.vl, hr.defers⟩)
    · unfold unlisted
      exact Nat.le_trans (List.length_filter_le _ _) (by simp)
    · intro k o hk hkl
      exfalso
      simp [Array.getD] at hkl
    · have hno : ∀ j, ¬ ((Array.replicate ops.size false).getD j false = true) := by
        intro j hj
        simp [Array.getD] at hj
      refine ⟨by rw [hS0], fun t => .inr ⟨fun j hj => absurd hj (hno j), by rw [hS0]⟩, fun p => .inr ⟨fun j hj => absurd hj (hno j), by rw [hS0]⟩⟩
theorem wp_sound_E {E : En} (hE : EnOK E) (hm : E.P.follows .mixedOrders = true) {g0 : Gh} {c : Code} {K : Ex → St → Prop} {st : St} (hI : Ids g0 E.keep) (hB : Ids g0 E.base) (h : wpA E c K st) {g : Gh} {a : Act} {w : World} (hr : Rel g0 g st a w) : c.wp E.P (QC g0 K) a w :=
  wpA_sound hE (draws hE hm) hI hB h hr
end Go.Cx
