/- Loops, unfolded; a call's end; from a body to a summary. -/
import Derived.Test.YtaejmfmamhdlhaaCxX
namespace Go.Cx
set_option linter.unusedVariables false
open Go.RowKit (Below)
set_option linter.unusedSimpArgs false

/- more behind, more ahead -/
theorem opA_mono {E : En} {o : Oper} {fr : List AV} {hp : List Ob} {K K' : AV → List Ob → Cls → Prop} (hk : ∀ v h c, K v h c → K' v h c) (h : opA False E o fr hp K) : opA False E o fr hp K' := by
  obtain ⟨v, hp', c, h1, h2⟩ := opA_P h
  have := opA_hom (fun r : Option (AV × List Ob × Cls) => match r with | some (v, h, c) => K' v h c | none => False) none E o fr hp (fun v h c => some (v, h, c))
  have e : opF E o fr hp = opA none E o fr hp (fun v h c => some (v, h, c)) := rfl
  rw [← e, h1] at this
  exact this.mp (hk _ _ _ h2)

theorem runOps_mono {E : En} {all : List Oper} : ∀ (l : List Oper) (st : St) (cl : List Cls) {K K' : St → List Cls → Prop}, (∀ s c, K s c → K' s c) → runOps False E all l st cl K → runOps False E all l st cl K'
  | [], st, cl, K, K', hk, h => hk _ _ h
  | o :: l, st, cl, K, K', hk, h => by
    simp only [runOps] at h ⊢
    split
    · rename_i hg
      rw [hg] at h
      exact opA_mono (fun v hp c hh => runOps_mono l _ _ hk hh) h
    · rename_i j want hg
      rw [hg] at h
      simp only at h
      split
      · rename_i d hd
        rw [hd] at h
        simp only at h
        split
        · rename_i b hb
          rw [hb] at h
          simp only at h
          cases b with
          | true =>
            simp only [cond_true] at h ⊢
            cases want with
            | true => simp only [if_true] at h ⊢; exact opA_mono (fun v hp c hh => runOps_mono l _ _ hk hh) h
            | false => simp only [Bool.false_eq_true, if_false] at h ⊢; exact runOps_mono l _ _ hk h
          | false =>
            simp only [cond_false] at h ⊢
            cases want with
            | true => simp only [if_true] at h ⊢; exact runOps_mono l _ _ hk h
            | false => simp only [Bool.false_eq_true, if_false] at h ⊢; exact opA_mono (fun v hp c hh => runOps_mono l _ _ hk hh) h
        · rename_i hb
          rw [hb] at h
          exact runOps_mono l _ _ hk h
        · rename_i hn hn2
          split at h
          · rename_i b hb; exact absurd hb (hn b)
          · rename_i hb; exact absurd hb hn2
          · exact h
      · rename_i hn
        rw [hn] at h; exact h

theorem nrm_mono {m : Nat} {l : Nm} {st : St} {K K' : St → Prop} (hk : ∀ s, K s → K' s) (h : nrm m l st K) : nrm m l st K' := by
  unfold nrm at *
  dsimp only at *
  generalize (refsL m (wkAt l.weak (clearAt st.fr l.forget)) && (((wkO l.weakO st.hp).take m).map deadO).all (refsO m)) = b at *
  cases b with
  | true => exact lenAt_mono (fun fr h => lenO_mono (fun hp h => hk _ h) h) h
  | false => exact h

theorem joinK_mono {E : En} {b : Code} {F F' : St → Prop} (hk : ∀ s, F s → F' s) (s : St) (h : joinK E b F s) : joinK E b F' s := by
  unfold joinK at h ⊢
  split
  · rename_i m hm
    rw [hm] at h
    exact nrm_mono (fun s hs => ⟨hk _ hs.out⟩) h
  · rename_i hm
    rw [hm] at h
    exact hk _ h

theorem seqK_mono {k k' : St → Prop} {K K' : Ex → St → Prop} (h1 : ∀ s, k s → k' s) (h2 : ∀ e s, K e s → K' e s) : ∀ e s, seqK k K e s → seqK k' K' e s
  | .normal, s, h => h1 s h
  | .exit _, s, h => h2 _ s h
  | .ret, s, h => h2 _ s h

theorem blockK_mono {id : Nat} {K K' : Ex → St → Prop} (h2 : ∀ e s, K e s → K' e s) : ∀ e s, blockK id K e s → blockK id K' e s
  | .normal, s, h => h2 _ s h
  | .exit i, s, h => by
    simp only [blockK] at h ⊢
    split
    · rename_i e; rw [if_pos e] at h; exact h2 _ s h
    · rename_i e; rw [if_neg e] at h; exact h2 _ s h
  | .ret, s, h => h2 _ s h

theorem stepK_mono {m : Nat} {l : Nm} {N N' : St → Prop} {K K' : Ex → St → Prop} (h1 : ∀ s, N s → N' s) (h2 : ∀ e s, K e s → K' e s) : ∀ e s, stepK m l N K e s → stepK m l N' K' e s
  | .normal, s, h => nrm_mono h1 h
  | .exit _, s, h => h2 _ s h
  | .ret, s, h => h2 _ s h

theorem wpX_mono {E : En} {lp lp' : Handler} (hl : ∀ b m (K K' : Ex → St → Prop) s, (∀ e s, K e s → K' e s) → lp b m K s → lp' b m K' s) : ∀ (c : Code) {K K' : Ex → St → Prop} (st : St),
    (∀ e s, K e s → K' e s) → wpX E lp c K st → wpX E lp' c K' st
  | .skip, _, _, st, hk, h => hk _ _ h
  | .label _, _, _, st, hk, h => hk _ _ h
  | .region id ops draw, _, _, st, hk, h => by
    simp only [wpX] at h ⊢
    rw [runOpsK_eq] at h ⊢
    refine runOps_mono _ _ _ (fun s c hh => ?_) h
    generalize (!draw || fine ops.toList c) = b at *
    cases b with
    | true => exact hk _ _ hh
    | false => exact hh
  | .seq a b, _, _, st, hk, h => by
    simp only [wpX] at h ⊢
    exact wpX_mono hl a st (seqK_mono (joinK_mono fun s hs => wpX_mono hl b s hk hs) hk) h
  | .cond c a b, _, _, st, hk, h => by
    simp only [wpX] at h ⊢
    split
    · rename_i t ht
      rw [ht] at h
      simp only at h
      cases t
      · exact wpX_mono hl b st hk h
      · exact wpX_mono hl a st hk h
    · rename_i hn
      split at h
      · rename_i t ht; exact absurd ht (hn t)
      · exact h
  | .block id b, _, _, st, hk, h => by
    simp only [wpX] at h ⊢
    exact wpX_mono hl b st (blockK_mono hk) h
  | .loop b, _, _, st, hk, h => by
    simp only [wpX] at h ⊢
    exact nrm_mono (fun s hs => hl _ _ _ _ _ hk hs) h
  | .scope b, _, _, st, hk, h => by
    simp only [wpX] at h ⊢
    exact wpX_mono hl b st hk h
  | .exit id, _, _, st, hk, h => hk _ _ h
  | .ret, _, _, st, hk, h => hk _ _ h
  | .rangeFunc .., _, _, st, hk, h => by simp [wpX] at h
  | .goto _, _, _, st, hk, h => by simp [wpX] at h
  | .refuse _, _, _, st, hk, h => by simp [wpX] at h

theorem LP.mono {E : En} : Mono (LP E) := fun b m _ _ s hk h => ⟨fun lp hm hc => hm b m _ _ s hk (h.out lp hm hc)⟩

/-- A loop, unfolded. -/
theorem LP.unfold {E : En} {b : Code} {m : Nat} {K : Ex → St → Prop} {s : St} (h : wpA E b (stepK m (E.forget (firstRegion b)) (LP E b m K) K) s) : LP E b m K s :=
  ⟨fun lp hm hc => hc b m K s (wpX_mono (fun b' m' K1 K2 s' hk hh => hm b' m' K1 K2 s' hk (hh.out lp hm hc)) b s (stepK_mono (fun s' hs => hs.out lp hm hc) (fun _ _ h => h)) h)⟩

theorem headL_of {E : En} {p : List Mv} {c : Code} {m : Nat} {K : Ex → St → Prop} {st : St} (h : stepL E p c m K st) : headL E p c m K st := by
  unfold headL; unfold stepL at h
  split
  · rename_i b hb; rw [hb] at h; exact LP.unfold h
  · rename_i hb
    split at h
    · rename_i b hb2; exact absurd hb2 (hb b)
    · exact h

theorem LP.weaken {E : En} {b : Code} {m : Nat} {K K' : Ex → St → Prop} {s : St} (hk : ∀ e s, K e s → K' e s) (h : LP E b m K s) : LP E b m K' s := LP.mono b m K K' s hk h

end Go.Cx
