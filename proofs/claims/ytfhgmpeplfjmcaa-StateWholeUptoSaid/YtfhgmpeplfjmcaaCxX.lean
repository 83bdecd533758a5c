/- A region in any order, sound. -/
import Derived.Test.YtfhgmpeplfjmcaaCxW
import Derived.Orders
namespace Go.Cx
open Go.RowKit (Below)
set_option linter.unusedSimpArgs false
theorem step_sound {E : En} (hE : EnOK E) {g0 g : Gh} {ops : Array Oper} {Q : Exit → Act → World → Prop} {st st' : St} {c : Ft} {o : Oper} {i : Nat} (ho : ops.toList[i]? = some o)
    (h : stepF E ops.toList o st = some (st', c)) {a : Act} {w : World} (hr : Rel g0 g st a w) {next : Act → World → Prop} (hk : ∀ g' a' w', Rel g0 g' st' a' w' → next a' w') : wpOp E.P ops Q i next a w := by
  have hi : ops[i]? = some o := by simpa using ho
  unfold wpOp
  simp only [hi]
  have run : ∀ {s : St}, Rel g0 g s a w → ((opF E o s.fr s.hp).map fun r => ((⟨putA s.fr o.dst r.1, r.2.1⟩ : St), ftOf E o s.fr s.hp r.2.2)) = some (st', c) → o.wp E.P a w next Q := by
    intro s hr h
    simp only [Option.map_eq_some_iff] at h
    obtain ⟨⟨v, hp', c'⟩, h1, h2⟩ := h
    simp only [Prod.mk.injEq] at h2
    obtain ⟨rfl, rfl⟩ := h2
    exact opF_wp hE hr.r hr.vl h1 fun g' w' cv hle hR hV => hk g' _ _ (hr.put hle hR hV o.dst)
  unfold stepF at h
  split at h
  · rename_i hg
    have hw : Region.wanted o (yielded ops a.tmps) = true := by simp [Region.wanted, hg]
    rw [if_pos hw]
    exact .inl (run hr h)
  · rename_i j want hg
    split at h
    · rename_i d hd
      split at h
      · rename_i b hb
        obtain ⟨hy, -⟩ := hr.fix hb
        have hyl := yielded_of hd hy
        split at h
        · rename_i e
          have hw : Region.wanted o (yielded ops a.tmps) = true := by simp [Region.wanted, hg, hyl, e]
          rw [if_pos hw]
          exact .inl (run hr h)
        · rename_i e
          have hw : ¬ Region.wanted o (yielded ops a.tmps) = true := by simp [Region.wanted, hg, hyl, e]
          rw [if_neg hw]
          simp only [Option.some.injEq, Prod.mk.injEq] at h
          obtain ⟨rfl, rfl⟩ := h
          exact hk g _ _ (hr.put (Gh.le.refl g) hr.r V.undef o.dst)
      · rename_i hb
        have hw : ¬ Region.wanted o (yielded ops a.tmps) = true := by simp [Region.wanted, hg, hr.none hd hb]
        rw [if_neg hw]
        simp only [Option.some.injEq, Prod.mk.injEq] at h
        obtain ⟨rfl, rfl⟩ := h
        exact hk g _ _ (hr.put (Gh.le.refl g) hr.r V.undef o.dst)
      · simp at h
    · simp at h
def unlisted (listed : Array Bool) (n : Nat) : Nat := ((List.range n).filter fun i => !listed.getD i false).length
theorem filter_le {p q : Nat → Bool} (h : ∀ x, q x = true → p x = true) : ∀ l : List Nat, (l.filter q).length ≤ (l.filter p).length
  | [] => Nat.le_refl _
  | x :: l => by
    have ih := filter_le h l
    rw [List.filter_cons, List.filter_cons]
    cases hq : q x with
    | true => rw [if_pos rfl, if_pos (h x hq), List.length_cons, List.length_cons]; omega
    | false =>
      rw [if_neg (by simp)]
      split
      · rw [List.length_cons]; omega
      · exact ih
theorem filter_lt {p q : Nat → Bool} (h : ∀ x, q x = true → p x = true) {i : Nat} (hp : p i = true) (hq : q i = false) : ∀ l : List Nat, i ∈ l → (l.filter q).length < (l.filter p).length
  | [], hm => by simp at hm
  | x :: l, hm => by
    rw [List.filter_cons, List.filter_cons]
    by_cases hx : i = x
    · subst hx
      rw [hq, hp, if_neg (by simp), if_pos rfl, List.length_cons]
      have := filter_le h l
      omega
    · have ih := filter_lt h hp hq l ((List.mem_cons.1 hm).resolve_left hx)
      cases hq : q x with
      | true => rw [if_pos rfl, if_pos (h x hq), List.length_cons, List.length_cons]; omega
      | false =>
        rw [if_neg (by simp)]
        split
        · rw [List.length_cons]; omega
        · exact ih
theorem unlisted_set {listed : Array Bool} {n i : Nat} (hi : i < n) (hl : i < listed.size) (hn : listed.getD i false = false) : unlisted (listed.setIfInBounds i true) n < unlisted listed n := by
  have h1 : (listed.setIfInBounds i true).getD i false = true := by simp [Array.getD, hl]
  refine filter_lt (i := i) (fun x hx => ?_) (by rw [hn]; rfl) (by rw [h1]; rfl) _ (by simpa using hi)
  by_cases e : i = x
  · subst e; rw [hn]; rfl
  · rwa [getD_set_ne false e] at hx
section
variable {E : En} {ops : Array Oper} {S : Nat → St} {cls : List Ft}
theorem all_listed (T : Trace E ops S cls) {listed : Array Bool} (hsz : listed.size = ops.size) (hr : Region.ready .any ops listed = []) : ∀ j, j < ops.toList.length → listed.getD j false = true := by
  intro j
  induction j using Nat.strongRecOn with
  | _ j ih =>
    intro hj
    cases hl : listed.getD j false with
    | true => rfl
    | false =>
      exfalso
      have hj' : j < listed.size := by rw [hsz]; simpa using hj
      obtain ⟨o, ho⟩ : ∃ o, ops.toList[j]? = some o := ⟨_, List.getElem?_eq_getElem hj⟩
      obtain ⟨c, hc⟩ : ∃ c, cls[j]? = some c := ⟨_, List.getElem?_eq_getElem (by rw [T.len]; exact hj)⟩
      have hf := (fine_spec T.fine ho hc).1
      have hm : j ∈ Region.ready .any ops listed := by
        rw [mem_ready]
        refine ⟨?_, _, by simpa using ho, fun e he hb => ?_⟩
        · simpa [Array.getD, hj'] using hl
        · have := hf e (by simpa using he) hb
          exact ih e.on this (by omega)
      rw [hr] at hm; simp at hm
theorem any_sound (hE : EnOK E) (T : Trace E ops S cls) {g0 : Gh} {Q : Exit → Act → World → Prop} (hQ : ∀ g a w, Rel g0 g (S ops.toList.length) a w → Q .normal a w) :
    ∀ (fuel : Nat) (listed : Array Bool) (st : St), listed.size = ops.size → unlisted listed ops.size ≤ fuel →
      (∀ k o, ops.toList[k]? = some o → listed.getD k false = true → ∀ e ∈ o.after.toList, Region.binds .any e = true → listed.getD e.on false = true) →
      Inv ops S cls (fun j => listed.getD j false = true) st → ∀ g a w, Rel g0 g st a w → wpAny E.P .any ops Q fuel listed a w := by
  have done : ∀ (listed : Array Bool) (st : St), listed.size = ops.size → Region.ready .any ops listed = [] → Inv ops S cls (fun j => listed.getD j false = true) st → ∀ g a w, Rel g0 g st a w → Q .normal a w := by
    intro listed st hsz hn hI g a w hr
    have := Trace.all hE T (all_listed T hsz hn) hI
    subst this
    exact hQ g a w hr
  intro fuel
  induction fuel with
  | zero =>
    intro listed st hsz hu hcl hI g a w hr
    have hn : Region.ready .any ops listed = [] := by
      cases hh : Region.ready .any ops listed with
      | nil => rfl
      | cons i l =>
        exfalso
        have hm : i ∈ Region.ready .any ops listed := by rw [hh]; simp
        obtain ⟨h0, o, ho, -⟩ := mem_ready.1 hm
        have hlt : i < ops.size := (Array.getElem?_eq_some_iff.1 ho).1
        have hl : listed.getD i false = false := by simpa [Array.getD, hsz, hlt] using h0
        have := unlisted_set hlt (by omega) hl
        omega
    exact ⟨hn, done listed st hsz hn hI g a w hr⟩
  | succ fuel ih =>
    intro listed st hsz hu hcl hI g a w hr
    refine ⟨fun hn => done listed st hsz hn hI g a w hr, fun i hi => ?_⟩
    obtain ⟨h0, o, ho, hp⟩ := mem_ready.1 hi
    have hlt : i < ops.size := (Array.getElem?_eq_some_iff.1 ho).1
    have hl : listed.getD i false = false := by simpa [Array.getD, hsz, hlt] using h0
    have hIn : ∀ j, listed.getD j false = true → j < ops.toList.length := by
      intro j hj
      rcases Nat.lt_or_ge j listed.size with h | h
      · rw [hsz] at h; simpa using h
      · simp [Array.getD, Nat.not_lt.2 h] at hj
    have ho' : ops.toList[i]? = some o := by simpa using ho
    obtain ⟨st', c, h1, h2⟩ := Trace.next hE T hIn hcl hI ho' (by simp [hl]) (fun e he hb => hp e (by simpa using he) hb)
    have hset : ∀ j, (listed.setIfInBounds i true).getD j false = true ↔ (listed.getD j false = true ∨ j = i) := by
      intro j
      by_cases hj : i = j
      · subst hj
        have : (listed.setIfInBounds i true).getD i false = true := by simp [Array.getD, hsz, hlt]
        simp [this]
      · rw [getD_set_ne false hj]
        constructor
        · exact .inl
        · rintro (h | h)
          · exact h
          · exact absurd h.symm hj
    refine step_sound hE ho' h1 hr fun g' a' w' hr' => ih _ st' (by simpa using hsz) ?_ ?_ ?_ g' a' w' hr'
    · have := unlisted_set hlt (by omega) hl
      omega
    · intro k o' hk hkl e he hb
      rw [hset] at hkl ⊢
      rcases hkl with hkl | rfl
      · exact .inl (hcl k o' hk hkl e he hb)
      · rw [ho'] at hk; cases hk
        exact .inl (hp e (by simpa using he) hb)
    · have e : (fun j => (listed.setIfInBounds i true).getD j false = true) = (fun j => listed.getD j false = true ∨ j = i) := by
        funext j; exact propext (hset j)
      rw [e]; exact h2
end
end Go.Cx
