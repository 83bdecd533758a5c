/- Loops, unfolded; a call's end; from a body to a summary. -/
import Derived.Test.YtfhgmpeplfjmcaaCxAu
namespace Go.Cx
set_option linter.unusedVariables false
open Go.RowKit (Below)
set_option linter.unusedSimpArgs false
theorem opA_mono {E : En} {o : Oper} {fr : List AV} {hp : List Ob} {K K' : AV → List Ob → Cls → Prop} (hk : ∀ v h c, K v h c → K' v h c) (h : opA False E o fr hp K) : opA False E o fr hp K' := by
  obtain ⟨v, hp', c, h1, h2⟩ := opA_P h
  have := opA_hom (fun r : Option (AV × List Ob × Cls) => match r with | some (v, h, c) => K' v h c | none => False) none E o fr hp (fun v h c => some (v, h, c))
  have e : opF E o fr hp = opA none E o fr hp (fun v h c => some (v, h, c)) := rfl
  rw [← e, h1] at this
  exact this.mp (hk _ _ _ h2)
theorem clearA_mono {P : Program} {t : TypeId} {x lo : Operand} {d : Nat} {st : St} {K K' : St → Prop} (hk : ∀ s, K s → K' s) (h : clearA P t x lo d st K) : clearA P t x lo d st K' := by
  unfold clearA at h ⊢
  split
  · rename_i e id ver len k n h1 h2 h3
    rw [h1, h2, h3] at h
    simp only at h
    unfold grown at h ⊢
    split
    · rename_i ty ver' sz sh xs he
      rw [he] at h
      simp only at h
      unfold ask at h ⊢
      cases e1 : (ver == ver') with
      | false => rw [e1] at h; exact h
      | true =>
      rw [e1] at h
      cases e2 : (len == xs.length) with
      | false => rw [e2] at h; exact h
      | true =>
      rw [e2] at h
      simp only [cond_true] at h ⊢
      split
      · rename_i z hz
        rw [hz] at h
        simp only at h
        split
        · rename_i z' hz'
          rw [hz'] at h
          simp only at h
          cases e3 : (Nat.beq (sizeA P e) sz && (Nat.beq (cells z').length sz && Nat.blt d st.fr.length)) with
          | false => rw [e3] at h; exact h
          | true =>
          rw [e3] at h
          simp only [cond_true] at h ⊢
          cases e4 : decide (0 ≤ n) with
          | false => rw [e4] at h; exact h
          | true =>
          rw [e4] at h
          cases e5 : decide (n ≤ (len : Int)) with
          | false => rw [e5] at h; exact h
          | true =>
          rw [e5] at h
          simp only [cond_true, setK_eq, heapK_eq] at h ⊢
          exact hk _ h
        · rename_i hz'
          rw [hz'] at h; exact h
      · rename_i hz
        rw [hz] at h; exact h
    · rename_i hn
      split at h
      · rename_i he; exact absurd he (hn _ _ _ _ _)
      · exact h
  · rename_i hn
    split at h
    · rename_i h1 h2 h3; exact absurd h3 (hn _ _ _ _ _ _ h1 h2)
    · exact h
theorem M.mvK_mono {E : En} {o : Oper} {fr : List AV} {hp : List Ob} {off : Nat} {v : AV} {hp' : List Ob} {c : Cls} {K K' : AV → List Ob → Ft → List Nat → Prop} (hk : ∀ v h c l, K v h c l → K' v h c l) (h : M.mvK False E o fr hp off v hp' c K) : M.mvK False E o fr hp off v hp' c K' := by
  unfold M.mvK at h ⊢
  generalize List.range' off (hp'.length - hp.length) = hs at h ⊢
  cases hs with
  | nil =>
    simp only at h ⊢
    cases hc : (hp'.length == hp.length && newsOK hp.length (ftOf E o fr hp c)) with
    | false => rw [hc] at h; exact h.elim
    | true => rw [hc] at h; exact hk _ _ _ _ h
  | cons x hs =>
    simp only at h ⊢
    cases hf : (ftOf E o fr hp c).f with
    | none => rw [hf] at h; exact h.elim
    | some f =>
      rw [hf] at h
      simp only at h ⊢
      cases hL : allsOf hp.length f.2 with
      | none => rw [hL] at h; exact h.elim
      | some L =>
        rw [hL] at h
        simp only at h ⊢
        cases hok : okMv hp.length (x :: hs) L hp' v with
        | false => rw [hok] at h; exact h.elim
        | true => rw [hok] at h; exact hk _ _ _ _ h
theorem M.runM_mono {E : En} {all : List Oper} : ∀ (l : List Oper) (off : Nat) (st : St) (cl : List (Ft × List Nat)) {K K' : St → List (Ft × List Nat) → Prop}, (∀ s c, K s c → K' s c) → M.runM False E all off l st cl K → M.runM False E all off l st cl K'
  | [], off, st, cl, K, K', hk, h => hk _ _ h
  | o :: l, off, st, cl, K, K', hk, h => by
    simp only [M.runM] at h ⊢
    split
    · rename_i hg
      rw [hg] at h
      exact opA_mono (fun v hp c hh => M.mvK_mono (fun v h c hs hh => M.runM_mono l _ _ _ hk hh) hh) h
    · rename_i j want hg
      rw [hg] at h
      simp only at h
      split
      · rename_i d hd
        rw [hd] at h
        simp only at h
        split
        · rename_i b hb
          rw [hb] at h
          simp only at h
          by_cases e : b = want
          · rw [if_pos e] at h ⊢
            exact opA_mono (fun v hp c hh => M.mvK_mono (fun v h c hs hh => M.runM_mono l _ _ _ hk hh) hh) h
          · rw [if_neg e] at h ⊢
            exact M.runM_mono l _ _ _ hk h
        · rename_i hb
          rw [hb] at h
          exact M.runM_mono l _ _ _ hk h
        · rename_i h1 h2
          split at h
          · rename_i b hb; exact absurd hb (h1 b)
          · rename_i hb; exact absurd hb h2
          · exact h
      · rename_i hd
        rw [hd] at h; exact h
theorem M.redo_mono {E : En} {ops : List Oper} {st : St} {n : Nat} {K K' : St → Prop} (hk : ∀ s, K s → K' s) (h : M.redo E ops st n K) : M.redo E ops st n K' := by
  simp only [M.redo, M.runMK_eq, heapK_eq] at h ⊢
  refine M.runM_mono _ _ _ _ (fun s c hh => ?_) h
  generalize M.okRun ops st.hp.length (n - st.hp.length) s c n = b at *
  cases b with
  | true => exact hk _ hh
  | false => exact hh
theorem runOps_mono {E : En} {all : List Oper} : ∀ (l : List Oper) (st : St) (cl : List Ft) {K K' : St → List Ft → Prop}, (∀ s c, K s c → K' s c) → runOps False E all l st cl K → runOps False E all l st cl K'
  | [], st, cl, K, K', hk, h => hk _ _ h
  | o :: l, st, cl, K, K', hk, h => by
    simp only [runOps] at h ⊢
    split
    · rename_i hg
      rw [hg] at h
      exact opA_mono (fun v hp c hh => runOps_mono l _ _ hk hh) h
    · rename_i j want hg
      rw [hg] at h
      simp only at h
      split
      · rename_i d hd
        rw [hd] at h
        simp only at h
        split
        · rename_i b hb
          rw [hb] at h
          simp only at h
          cases b with
          | true =>
            simp only [cond_true] at h ⊢
            cases want with
            | true => simp only [if_true] at h ⊢; exact opA_mono (fun v hp c hh => runOps_mono l _ _ hk hh) h
            | false => simp only [Bool.false_eq_true, if_false] at h ⊢; exact runOps_mono l _ _ hk h
          | false =>
            simp only [cond_false] at h ⊢
            cases want with
            | true => simp only [if_true] at h ⊢; exact runOps_mono l _ _ hk h
            | false => simp only [Bool.false_eq_true, if_false] at h ⊢; exact opA_mono (fun v hp c hh => runOps_mono l _ _ hk hh) h
        · rename_i hb
          rw [hb] at h
          exact runOps_mono l _ _ hk h
        · rename_i hn hn2
          split at h
          · rename_i b hb; exact absurd hb (hn b)
          · rename_i hb; exact absurd hb hn2
          · exact h
      · rename_i hn
        rw [hn] at h; exact h
theorem giveUpA_mono {x : AV} {hp : List Ob} {K K' : AV → List Ob → Cls → Prop} (hk : ∀ a b c, K a b c → K' a b c) (h : giveUpA False x hp K) : giveUpA False x hp K' := by
  have e1 := giveUpA_hom (fun r : Option (AV × List Ob × Cls) => match r with | some r => K r.1 r.2.1 r.2.2 | none => False) none x hp (fun v h c => some (v, h, c))
  have e2 := giveUpA_hom (fun r : Option (AV × List Ob × Cls) => match r with | some r => K' r.1 r.2.1 r.2.2 | none => False) none x hp (fun v h c => some (v, h, c))
  dsimp only at e1 e2
  rw [← e1] at h
  rw [← e2]
  split at h
  · exact hk _ _ _ h
  · exact h.elim
theorem frzAt_mono {K K' : St → Prop} (hk : ∀ s, K s → K' s) : ∀ (l : List Nat) {st : St}, frzAt l st K → frzAt l st K'
  | [], st, h => hk _ h
  | i :: l, st, h => by
    unfold frzAt at h ⊢
    split
    · rename_i id ver len hi
      rw [hi] at h
      exact giveUpA_mono (fun a b c h => frzAt_mono hk l h) h
    · rename_i hn
      split at h
      · rename_i hi; exact absurd hi (hn _ _ _)
      · exact frzAt_mono hk l h
theorem frzOAt_mono {K K' : List Ob → Prop} (hk : ∀ s, K s → K' s) : ∀ (l : List (Nat × Nat)) {hp : List Ob}, frzOAt l hp K → frzOAt l hp K'
  | [], hp, h => hk _ h
  | (j, i) :: l, hp, h => by
    unfold frzOAt at h ⊢
    cases hj : hp[j]? with
    | none => rw [hj] at h; exact frzOAt_mono hk l h
    | some o =>
      rw [hj] at h
      cases o with
      | fix ty cs =>
        dsimp only at h ⊢
        cases hi : cs[i]? with
        | none => rw [hi] at h; exact frzOAt_mono hk l h
        | some x =>
          rw [hi] at h
          cases x with
          | oslice id ver len =>
            dsimp only at h ⊢
            refine giveUpA_mono (fun a b c h => ?_) h
            cases hb : b[j]? with
            | none => rw [hb] at h; exact h
            | some o =>
              rw [hb] at h
              cases o with
              | fix ty cs =>
                dsimp only at h ⊢
                revert h
                cases oneCell a with
                | true => exact fun h => frzOAt_mono hk l h
                | false => exact fun h => h
              | _ => exact h
          | _ => exact frzOAt_mono hk l h
      | _ => exact frzOAt_mono hk l h
theorem gcK_mono {on : Bool} {base : Nat} {fr : List AV} {hp : List Ob} {K K' : List AV → List Ob → Prop} (hk : ∀ a b, K a b → K' a b) (h : gcK on base fr hp K) : gcK on base fr hp K' := by
  unfold gcK at h ⊢
  split
  · exact hk _ _ h
  · simp only [deepL_eq, natLK_eq, natK_eq, deepH_eq] at h ⊢
    generalize (okG _ hp _ && covL _ _) = b at h ⊢
    cases b with
    | true =>
      simp only [cond_true] at h ⊢
      generalize (List.all _ _ && List.all _ _) = b2 at h ⊢
      cases b2 with
      | true => exact hk _ _ h
      | false => exact h
    | false => exact h
theorem swL_mono {hp : List Ob} : ∀ (l : List AV) {K K' : List AV → Prop}, (∀ x, K x → K' x) → swL hp l K → swL hp l K'
  | [], K, K', hk, h => hk _ h
  | .oslice id ver len :: l, K, K', hk, h => by
    unfold swL at h ⊢
    split
    · rename_i ver' sz sh xs he
      rw [he] at h; dsimp only at h
      revert h
      cases Nat.beq ver ver' <;> cases (len == xs.length) <;> simp only [cond_true, cond_false] <;> intro h
      · exact swL_mono l (fun x hx => hk _ hx) h
      · exact swL_mono l (fun x hx => hk _ hx) h
      · exact h
      · exact swL_mono l (fun x hx => hk _ hx) h
    · rename_i hn
      split at h
      · rename_i he; exact absurd he (hn _ _ _ _)
      · exact swL_mono l (fun x hx => hk _ hx) h
  | .int .. :: l, K, K', hk, h | .bool .. :: l, K, K', hk, h | .str .. :: l, K, K', hk, h | .ptr .. :: l, K, K', hk, h | .nilptr :: l, K, K', hk, h | .rptr .. :: l, K, K', hk, h | .nilsl :: l, K, K', hk, h
  | .slice .. :: l, K, K', hk, h | .fslice .. :: l, K, K', hk, h | .optr .. :: l, K, K', hk, h | .func .. :: l, K, K', hk, h | .nilfunc :: l, K, K', hk, h | .agg .. :: l, K, K', hk, h | .tuple .. :: l, K, K', hk, h
  | .nilIface :: l, K, K', hk, h | .junk :: l, K, K', hk, h => swL_mono l (fun x hx => hk _ hx) h
theorem swO_mono {hp : List Ob} : ∀ (l : List Ob) {K K' : List Ob → Prop}, (∀ x, K x → K' x) → swO hp l K → swO hp l K'
  | [], K, K', hk, h => hk _ h
  | .fix ty cs :: l, K, K', hk, h => swL_mono cs (fun cs h => swO_mono l (fun x hx => hk _ hx) h) h
  | .grow .. :: l, K, K', hk, h | .froz .. :: l, K, K', hk, h | .dead :: l, K, K', hk, h | .hole :: l, K, K', hk, h => swO_mono l (fun x hx => hk _ hx) h
theorem xgcK_mono {on : Bool} {base : Nat} {vs : List AV} {hp : List Ob} {K K' : List AV → List Ob → Prop} (hk : ∀ a b, K a b → K' a b) (h : xgcK on base vs hp K) : xgcK on base vs hp K' := by
  unfold xgcK at h ⊢
  split
  · exact hk _ _ h
  · exact swL_mono _ (fun vs h => swO_mono _ (fun hp h => gcK_mono hk h) h) h
theorem nrm_mono {kp m : Nat} {l : Nm} {st : St} {K K' : St → Prop} (hk : ∀ s, K s → K' s) (h : nrm kp m l st K) : nrm kp m l st K' := by
  unfold nrm at *
  refine frzAt_mono (fun st h => frzOAt_mono (fun hp h => swL_mono _ (fun fr h => swO_mono _ (fun hp h => gcK_mono (fun fr hp h => ?_) h) h) h) _ h) _ h
  dsimp only at *
  generalize (refsL m fr && (hp.take m).all (refsO m)) = b at *
  cases b with
  | true => exact lenAt_mono (fun fr h => lenO_mono (fun hp h => hk _ h) h) h
  | false => exact h
theorem joinK_mono {E : En} {b : Code} {F F' : St → Prop} (hk : ∀ s, F s → F' s) (s : St) (h : joinK E b F s) : joinK E b F' s := by
  unfold joinK at h ⊢
  split
  · rename_i m hm
    rw [hm] at h
    exact nrm_mono (fun s hs => ⟨hk _ hs.out⟩) h
  · rename_i hm
    rw [hm] at h
    exact hk _ h
theorem seqK_mono {k k' : St → Prop} {K K' : Ex → St → Prop} (h1 : ∀ s, k s → k' s) (h2 : ∀ e s, K e s → K' e s) : ∀ e s, seqK k K e s → seqK k' K' e s
  | .normal, s, h => h1 s h
  | .exit _, s, h => h2 _ s h
  | .ret, s, h => h2 _ s h
theorem blockK_mono {id : Nat} {K K' : Ex → St → Prop} (h2 : ∀ e s, K e s → K' e s) : ∀ e s, blockK id K e s → blockK id K' e s
  | .normal, s, h => h2 _ s h
  | .exit i, s, h => by
    simp only [blockK] at h ⊢
    split
    · rename_i e; rw [if_pos e] at h; exact h2 _ s h
    · rename_i e; rw [if_neg e] at h; exact h2 _ s h
  | .ret, s, h => h2 _ s h
theorem stepK_mono {kp m : Nat} {l : Nm} {N N' : St → Prop} {K K' : Ex → St → Prop} (h1 : ∀ s, N s → N' s) (h2 : ∀ e s, K e s → K' e s) : ∀ e s, stepK kp m l N K e s → stepK kp m l N' K' e s
  | .normal, s, h => nrm_mono h1 h
  | .exit _, s, h => h2 _ s h
  | .ret, s, h => h2 _ s h
theorem wpX_mono {E : En} {lp lp' : Handler} (hl : ∀ b m (K K' : Ex → St → Prop) s, (∀ e s, K e s → K' e s) → lp b m K s → lp' b m K' s) : ∀ (c : Code) {K K' : Ex → St → Prop} (st : St),
    (∀ e s, K e s → K' e s) → wpX E lp c K st → wpX E lp' c K' st
  | .skip, _, _, st, hk, h => hk _ _ h
  | .label _, _, _, st, hk, h => hk _ _ h
  | .region id ops draw, _, _, st, hk, h => by
    simp only [wpX] at h ⊢
    cases hcl : (!draw && hasClear ops.toList) with
    | true =>
      rw [hcl] at h
      simp only [cond_true] at h ⊢
      split
      · rename_i htl
        rw [htl] at h
        simp only [runOpsK_eq] at h ⊢
        exact runOps_mono _ _ _ (fun s c hh => clearA_mono (fun s hs => hk _ s hs) hh) h
      · rename_i htl
        rw [htl] at h; exact h
    | false =>
    rw [hcl] at h
    simp only [cond_false] at h ⊢
    rw [runOpsK_eq] at h ⊢
    refine runOps_mono _ _ _ (fun s c hh => ?_) h
    generalize (!draw || fine ops.toList c) = b at *
    cases b with
    | true => exact hk _ _ hh
    | false => exact M.redo_mono (fun s hs => hk _ s hs) hh
  | .seq a b, _, _, st, hk, h => by
    simp only [wpX] at h ⊢
    exact wpX_mono hl a st (seqK_mono (joinK_mono fun s hs => wpX_mono hl b s hk hs) hk) h
  | .cond c a b, _, _, st, hk, h => by
    simp only [wpX] at h ⊢
    split
    · rename_i t ht
      rw [ht] at h
      simp only at h
      cases t
      · exact wpX_mono hl b st hk h
      · exact wpX_mono hl a st hk h
    · rename_i hn
      split at h
      · rename_i t ht; exact absurd ht (hn t)
      · exact h
  | .block id b, _, _, st, hk, h => by
    simp only [wpX] at h ⊢
    exact wpX_mono hl b st (blockK_mono hk) h
  | .loop b, _, _, st, hk, h => by
    simp only [wpX] at h ⊢
    exact nrm_mono (fun s hs => hl _ _ _ _ _ hk hs) h
  | .scope b, _, _, st, hk, h => by
    simp only [wpX] at h ⊢
    exact wpX_mono hl b st hk h
  | .exit id, _, _, st, hk, h => hk _ _ h
  | .ret, _, _, st, hk, h => hk _ _ h
  | .rangeFunc .., _, _, st, hk, h => by simp [wpX] at h
  | .goto _, _, _, st, hk, h => by simp [wpX] at h
  | .refuse _, _, _, st, hk, h => by simp [wpX] at h
theorem LP.mono {E : En} : Mono (LP E) := fun b m _ _ s hk h => ⟨fun lp hm hc => hm b m _ _ s hk (h.out lp hm hc)⟩
theorem LP.unfold {E : En} {b : Code} {m : Nat} {K : Ex → St → Prop} {s : St} (h : wpA E b (stepK E.base m (E.forget (firstRegion b)) (LP E b m K) K) s) : LP E b m K s :=
  ⟨fun lp hm hc => hc b m K s (wpX_mono (fun b' m' K1 K2 s' hk hh => hm b' m' K1 K2 s' hk (hh.out lp hm hc)) b s (stepK_mono (fun s' hs => hs.out lp hm hc) (fun _ _ h => h)) h)⟩
theorem headL_of {E : En} {p : List Mv} {c : Code} {m : Nat} {K : Ex → St → Prop} {st : St} (h : stepL E p c m K st) : headL E p c m K st := by
  unfold headL; unfold stepL at h
  split
  · rename_i b hb; rw [hb] at h; exact LP.unfold h
  · rename_i hb
    split at h
    · rename_i b hb2; exact absurd hb2 (hb b)
    · exact h
theorem LP.weaken {E : En} {b : Code} {m : Nat} {K K' : Ex → St → Prop} {s : St} (hk : ∀ e s, K e s → K' e s) (h : LP E b m K s) : LP E b m K' s := LP.mono b m K K' s hk h
end Go.Cx
