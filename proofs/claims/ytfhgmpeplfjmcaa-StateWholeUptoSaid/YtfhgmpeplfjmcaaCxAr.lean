/- A region whose makers have their numbers before, in any order: sound. -/
import Derived.Test.YtfhgmpeplfjmcaaCxAq
import Derived.Test.YtfhgmpeplfjmcaaCxX
namespace Go.Cx.M
open Go.RowKit (Below)
set_option linter.unusedSimpArgs false
theorem step_sound {hs : List Nat} {E : En} (hE : EnOK E) {g0 g : Gh} {ops : Array Oper} {Q : Exit → Act → World → Prop} {st st' : St} {c : Ft} {o : Oper} {i : Nat} (ho : ops.toList[i]? = some o)
    (h : stepF hs E ops.toList o st = some (st', c)) {a : Act} {w : World} (hr : Rel g0 g st a w) (hh : ∀ i ∈ hs, st.hp[i]? = some .hole) {next : Act → World → Prop} (hk : ∀ g' a' w', Rel g0 g' st' a' w' → next a' w') : wpOp E.P ops Q i next a w := by
  have hi : ops[i]? = some o := by simpa using ho
  unfold wpOp
  simp only [hi]
  have run : ∀ {s : St}, Rel g0 g s a w → (∀ i ∈ hs, s.hp[i]? = some .hole) → ((opM hs E o s.fr s.hp).map fun r => ((⟨putA s.fr o.dst r.1, r.2.1⟩ : St), ftM s.hp.length hs (ftOf E o s.fr s.hp r.2.2))) = some (st', c) → o.wp E.P a w next Q := by
    intro s hr hh h
    simp only [Option.map_eq_some_iff] at h
    obtain ⟨⟨v, hp', c'⟩, h1, h2⟩ := h
    simp only [Prod.mk.injEq] at h2
    obtain ⟨rfl, rfl⟩ := h2
    exact opM_wp hE hr.r hr.vl h1 (fun i hi => by have k := hr.r.objs i; rw [hh i hi] at k; exact k) fun g' w' cv hle hR hV => hk g' _ _ (hr.put hle hR hV o.dst)
  unfold stepF at h
  split at h
  · rename_i hg
    have hw : Region.wanted o (yielded ops a.tmps) = true := by simp [Region.wanted, hg]
    rw [if_pos hw]
    exact .inl (run hr hh h)
  · rename_i j want hg
    split at h
    · rename_i d hd
      split at h
      · rename_i b hb
        obtain ⟨hy, -⟩ := hr.fix hb
        have hyl := yielded_of hd hy
        split at h
        · rename_i e
          have hw : Region.wanted o (yielded ops a.tmps) = true := by simp [Region.wanted, hg, hyl, e]
          rw [if_pos hw]
          exact .inl (run hr hh h)
        · rename_i e
          have hw : ¬ Region.wanted o (yielded ops a.tmps) = true := by simp [Region.wanted, hg, hyl, e]
          rw [if_neg hw]
          simp only [Option.some.injEq, Prod.mk.injEq] at h
          obtain ⟨rfl, rfl⟩ := h
          exact hk g _ _ (hr.put (Gh.le.refl g) hr.r V.undef o.dst)
      · rename_i hb
        have hw : ¬ Region.wanted o (yielded ops a.tmps) = true := by simp [Region.wanted, hg, hr.none hd hb]
        rw [if_neg hw]
        simp only [Option.some.injEq, Prod.mk.injEq] at h
        obtain ⟨rfl, rfl⟩ := h
        exact hk g _ _ (hr.put (Gh.le.refl g) hr.r V.undef o.dst)
      · simp at h
    · simp at h
variable {hf : Nat → List Nat} {E : En} {ops : Array Oper} {S : Nat → St} {cls : List Ft}
theorem hole_of (hA : ∀ i j c h, i ≠ j → h ∈ hf i → cls[j]? = some c → ¬ c.wrs (.ob h)) (h0 : ∀ i h, h ∈ hf i → (S 0).hp[h]? = some .hole) {In : Nat → Prop} {st : St} (hI : Inv ops S cls In st) {i h : Nat} (hi : ¬ In i) (hm : h ∈ hf i) : st.hp[h]? = some .hole := by
  rcases hI.heap (.ob h) with ⟨j, hj, ⟨c, hc, hw⟩, -, -⟩ | ⟨-, he⟩
  · by_cases e : i = j
    · subst e; exact absurd hj hi
    · exact absurd hw (hA i j c h e hm hc)
  · exact (ob_eq he (fun ty cs e => by rw [h0 i h hm] at e; simp at e)).trans (h0 i h hm)
theorem all_listed (T : Trace hf E ops S cls) {listed : Array Bool} (hsz : listed.size = ops.size) (hr : Region.ready .any ops listed = []) : ∀ j, j < ops.toList.length → listed.getD j false = true := by
  intro j
  induction j using Nat.strongRecOn with
  | _ j ih =>
    intro hj
    cases hl : listed.getD j false with
    | true => rfl
    | false =>
      exfalso
      have hj' : j < listed.size := by rw [hsz]; simpa using hj
      obtain ⟨o, ho⟩ : ∃ o, ops.toList[j]? = some o := ⟨_, List.getElem?_eq_getElem hj⟩
      obtain ⟨c, hc⟩ : ∃ c, cls[j]? = some c := ⟨_, List.getElem?_eq_getElem (by rw [T.len]; exact hj)⟩
      have hf := (fine_spec T.fine ho hc).1
      have hm : j ∈ Region.ready .any ops listed := by
        rw [mem_ready]
        refine ⟨?_, _, by simpa using ho, fun e he hb => ?_⟩
        · simpa [Array.getD, hj'] using hl
        · have := hf e (by simpa using he) hb
          exact ih e.on this (by omega)
      rw [hr] at hm; simp at hm
theorem any_sound (hE : EnOK E) (T : Trace hf E ops S cls) (hA : ∀ i j c h, i ≠ j → h ∈ hf i → cls[j]? = some c → ¬ c.wrs (.ob h)) (hH : ∀ i h, h ∈ hf i → (S 0).hp[h]? = some .hole) {g0 : Gh} {Q : Exit → Act → World → Prop} (hQ : ∀ g a w, Rel g0 g (S ops.toList.length) a w → Q .normal a w) :
    ∀ (fuel : Nat) (listed : Array Bool) (st : St), listed.size = ops.size → unlisted listed ops.size ≤ fuel →
      (∀ k o, ops.toList[k]? = some o → listed.getD k false = true → ∀ e ∈ o.after.toList, Region.binds .any e = true → listed.getD e.on false = true) →
      Inv ops S cls (fun j => listed.getD j false = true) st → ∀ g a w, Rel g0 g st a w → wpAny E.P .any ops Q fuel listed a w := by
  have done : ∀ (listed : Array Bool) (st : St), listed.size = ops.size → Region.ready .any ops listed = [] → Inv ops S cls (fun j => listed.getD j false = true) st → ∀ g a w, Rel g0 g st a w → Q .normal a w := by
    intro listed st hsz hn hI g a w hr
    have := Trace.all hE T (all_listed T hsz hn) hI
    subst this
    exact hQ g a w hr
  intro fuel
  induction fuel with
  | zero =>
    intro listed st hsz hu hcl hI g a w hr
    have hn : Region.ready .any ops listed = [] := by
      cases hh : Region.ready .any ops listed with
      | nil => rfl
      | cons i l =>
        exfalso
        have hm : i ∈ Region.ready .any ops listed := by rw [hh]; simp
        obtain ⟨h0, o, ho, -⟩ := mem_ready.1 hm
        have hlt : i < ops.size := (Array.getElem?_eq_some_iff.1 ho).1
        have hl : listed.getD i false = false := by simpa [Array.getD, hsz, hlt] using h0
        have := unlisted_set hlt (by omega) hl
        omega
    exact ⟨hn, done listed st hsz hn hI g a w hr⟩
  | succ fuel ih =>
    intro listed st hsz hu hcl hI g a w hr
    refine ⟨fun hn => done listed st hsz hn hI g a w hr, fun i hi => ?_⟩
    obtain ⟨h0, o, ho, hp⟩ := mem_ready.1 hi
    have hlt : i < ops.size := (Array.getElem?_eq_some_iff.1 ho).1
    have hl : listed.getD i false = false := by simpa [Array.getD, hsz, hlt] using h0
    have hIn : ∀ j, listed.getD j false = true → j < ops.toList.length := by
      intro j hj
      rcases Nat.lt_or_ge j listed.size with h | h
      · rw [hsz] at h; simpa using h
      · simp [Array.getD, Nat.not_lt.2 h] at hj
    have ho' : ops.toList[i]? = some o := by simpa using ho
    obtain ⟨st', c, h1, h2⟩ := Trace.next hE T hIn hcl hI ho' (by simp [hl]) (fun e he hb => hp e (by simpa using he) hb)
    have hset : ∀ j, (listed.setIfInBounds i true).getD j false = true ↔ (listed.getD j false = true ∨ j = i) := by
      intro j
      by_cases hj : i = j
      · subst hj
        have : (listed.setIfInBounds i true).getD i false = true := by simp [Array.getD, hsz, hlt]
        simp [this]
      · rw [getD_set_ne false hj]
        constructor
        · exact .inl
        · rintro (h | h)
          · exact h
          · exact absurd h.symm hj
    refine step_sound hE ho' h1 hr (fun h hm => hole_of hA hH hI (by simp [hl]) hm) fun g' a' w' hr' => ih _ st' (by simpa using hsz) ?_ ?_ ?_ g' a' w' hr'
    · have := unlisted_set hlt (by omega) hl
      omega
    · intro k o' hk hkl e he hb
      rw [hset] at hkl ⊢
      rcases hkl with hkl | rfl
      · exact .inl (hcl k o' hk hkl e he hb)
      · rw [ho'] at hk; cases hk
        exact .inl (hp e (by simpa using he) hb)
    · have e : (fun j => (listed.setIfInBounds i true).getD j false = true) = (fun j => listed.getD j false = true ∨ j = i) := by
        funext j; exact propext (hset j)
      rw [e]; exact h2
end Go.Cx.M
