/- Loops, unfolded; a call's end; from a body to a summary. -/
import Derived.Test.YtcnalhganahiiaaGreatDoorCxAu
section
namespace Go.Cx
set_option linter.unusedVariables false
open Go.RowKit (Below)
set_option linter.unusedSimpArgs false
theorem opA_mono {E : En} {o : Oper} {fr : List AV} {hp : List Ob} {K K' : AV → List Ob → Cls → Prop} (hk : ∀ v h c, K v h c → K' v h c) (h : opA False E o fr hp K) : opA False E o fr hp K' := by
  obtain ⟨v, hp', c, h1, h2⟩ := opA_P h
  have := opA_hom (fun r : Option (AV × List Ob × Cls) => match r with | some (v, h, c) => K' v h c | none => False) none E o fr hp (fun v h c => some (v, h, c))
  have e : opF E o fr hp = opA none E o fr hp (fun v h c => some (v, h, c)) := rfl
  rw [← e, h1] at this
  exact this.mp (hk _ _ _ h2)
theorem clearA_mono {P : Program} {t : TypeId} {x lo : Operand} {d : Nat} {st : St} {K K' : St → Prop} (hk : ∀ s, K s → K' s) (h : clearA P t x lo d st K) : clearA P t x lo d st K' := by
  unfold clearA at h ⊢
  split
  · rename_i e id ver len k n h1 h2 h3
    rw [h1, h2, h3] at h
    simp only at h
    unfold grown at h ⊢
    split
    · rename_i ty ver' sz sh xs he
      rw [he] at h
      simp only at h
      unfold ask at h ⊢
      cases e1 : (ver == ver') with
      | false => rw [e1] at h; exact h
      | true =>
      rw [e1] at h
      cases e2 : (len == xs.length) with
      | false => rw [e2] at h; exact h
      | true =>
      rw [e2] at h
      simp only [cond_true] at h ⊢
      split
      · rename_i z hz
        rw [hz] at h
        simp only at h
        split
        · rename_i z' hz'
          rw [hz'] at h
          simp only at h
          cases e3 : (Nat.beq (sizeA P e) sz && (Nat.beq (cells z').length sz && Nat.blt d st.fr.length)) with
          | false => rw [e3] at h; exact h
          | true =>
          rw [e3] at h
          simp only [cond_true] at h ⊢
          cases e4 : decide (0 ≤ n) with
          | false => rw [e4] at h; exact h
          | true =>
          rw [e4] at h
          cases e5 : decide (n ≤ (len : Int)) with
          | false => rw [e5] at h; exact h
          | true =>
          rw [e5] at h
          simp only [cond_true, setK_eq, heapK_eq] at h ⊢
          exact hk _ h
        · rename_i hz'
          rw [hz'] at h; exact h
      · rename_i hz
        rw [hz] at h; exact h
    · rename_i hn
      split at h
      · rename_i he; exact absurd he (hn _ _ _ _ _)
      · exact h
  · rename_i hn
    split at h
    · rename_i h1 h2 h3; exact absurd h3 (hn _ _ _ _ _ _ h1 h2)
    · exact h
theorem M.mvK_mono {E : En} {o : Oper} {fr : List AV} {hp : List Ob} {off : Nat} {v : AV} {hp' : List Ob} {c : Cls} {K K' : AV → List Ob → Ft → List Nat → Prop} (hk : ∀ v h c l, K v h c l → K' v h c l) (h : M.mvK False E o fr hp off v hp' c K) : M.mvK False E o fr hp off v hp' c K' := by
  unfold M.mvK at h ⊢
  generalize List.range' off (hp'.length - hp.length) = hs at h ⊢
  cases hs with
  | nil =>
    simp only at h ⊢
    cases hc : (hp'.length == hp.length && newsOK hp.length (ftOf E o fr hp c)) with
    | false => rw [hc] at h; exact h.elim
    | true => rw [hc] at h; exact hk _ _ _ _ h
  | cons x hs =>
    simp only at h ⊢
    cases hf : (ftOf E o fr hp c).f with
    | none => rw [hf] at h; exact h.elim
    | some f =>
      rw [hf] at h
      simp only at h ⊢
      cases hL : allsOf hp.length f.2 with
      | none => rw [hL] at h; exact h.elim
      | some L =>
        rw [hL] at h
        simp only at h ⊢
        cases hok : okMv hp.length (x :: hs) L hp' v with
        | false => rw [hok] at h; exact h.elim
        | true => rw [hok] at h; exact hk _ _ _ _ h
theorem M.runM_mono {E : En} {all : List Oper} : ∀ (l : List Oper) (off : Nat) (st : St) (cl : List (Ft × List Nat)) {K K' : St → List (Ft × List Nat) → Prop}, (∀ s c, K s c → K' s c) → M.runM False E all off l st cl K → M.runM False E all off l st cl K'
  | [], off, st, cl, K, K', hk, h => hk _ _ h
  | o :: l, off, st, cl, K, K', hk, h => by
    simp only [M.runM] at h ⊢
    split
    · rename_i hg
      rw [hg] at h
      exact opA_mono (fun v hp c hh => M.mvK_mono (fun v h c hs hh => M.runM_mono l _ _ _ hk hh) hh) h
    · rename_i j want hg
      rw [hg] at h
      simp only at h
      split
      · rename_i d hd
        rw [hd] at h
        simp only at h
        split
        · rename_i b hb
          rw [hb] at h
          simp only at h
          by_cases e : b = want
          · rw [if_pos e] at h ⊢
            exact opA_mono (fun v hp c hh => M.mvK_mono (fun v h c hs hh => M.runM_mono l _ _ _ hk hh) hh) h
          · rw [if_neg e] at h ⊢
            exact M.runM_mono l _ _ _ hk h
        · rename_i hb
          rw [hb] at h
          exact M.runM_mono l _ _ _ hk h
        · rename_i h1 h2
          split at h
          · rename_i b hb; exact absurd hb (h1 b)
          · rename_i hb; exact absurd hb h2
          · exact h
      · rename_i hd
        rw [hd] at h; exact h
theorem M.redo_mono {E : En} {ops : List Oper} {st : St} {n : Nat} {K K' : St → Prop} (hk : ∀ s, K s → K' s) (h : M.redo E ops st n K) : M.redo E ops st n K' := by
  simp only [M.redo, M.runMK_eq, heapK_eq] at h ⊢
  refine M.runM_mono _ _ _ _ (fun s c hh => ?_) h
  generalize M.okRun ops st.hp.length (n - st.hp.length) s c n = b at *
  cases b with
  | true => exact hk _ hh
  | false => exact hh
theorem runOps_mono {E : En} {all : List Oper} : ∀ (l : List Oper) (st : St) (cl : List Ft) {K K' : St → List Ft → Prop}, (∀ s c, K s c → K' s c) → runOps False E all l st cl K → runOps False E all l st cl K'
  | [], st, cl, K, K', hk, h => hk _ _ h
  | o :: l, st, cl, K, K', hk, h => by
    simp only [runOps] at h ⊢
    split
    · rename_i hg
      rw [hg] at h
      exact opA_mono (fun v hp c hh => runOps_mono l _ _ hk hh) h
    · rename_i j want hg
      rw [hg] at h
      simp only at h
      split
      · rename_i d hd
        rw [hd] at h
        simp only at h
        split
        · rename_i b hb
          rw [hb] at h
          simp only at h
          cases b with
          | true =>
            simp only [cond_true] at h ⊢
            cases want with
            | true => simp only [if_true] at h ⊢; exact opA_mono (fun v hp c hh => runOps_mono l _ _ hk hh) h
            | false => simp only [Bool.false_eq_true, if_false] at h ⊢; exact runOps_mono l _ _ hk h
          | false =>
            simp only [cond_false] at h ⊢
            cases want with
            | true => simp only [if_true] at h ⊢; exact runOps_mono l _ _ hk h
            | false => simp only [Bool.false_eq_true, if_false] at h ⊢; exact opA_mono (fun v hp c hh => runOps_mono l _ _ hk hh) h
        · rename_i hb
          rw [hb] at h
          exact runOps_mono l _ _ hk h
        · rename_i hn hn2
          split at h
          · rename_i b hb; exact absurd hb (hn b)
          · rename_i hb; exact absurd hb hn2
          · exact h
      · rename_i hn
        rw [hn] at h; exact h
theorem giveUpA_mono {x : AV} {hp : List Ob} {K K' : AV → List Ob → Cls → Prop} (hk : ∀ a b c, K a b c → K' a b c) (h : giveUpA False x hp K) : giveUpA False x hp K' := by
  have e1 := giveUpA_hom (fun r : Option (AV × List Ob × Cls) => match r with | some r => K r.1 r.2.1 r.2.2 | none => False) none x hp (fun v h c => some (v, h, c))
  have e2 := giveUpA_hom (fun r : Option (AV × List Ob × Cls) => match r with | some r => K' r.1 r.2.1 r.2.2 | none => False) none x hp (fun v h c => some (v, h, c))
  dsimp only at e1 e2
  rw [← e1] at h
  rw [← e2]
  split at h
  · exact hk _ _ _ h
  · exact h.elim
theorem frzAt_mono {K K' : St → Prop} (hk : ∀ s, K s → K' s) : ∀ (l : List Nat) {st : St}, frzAt l st K → frzAt l st K'
  | [], st, h => hk _ h
  | i :: l, st, h => by
    unfold frzAt at h ⊢
    split
    · rename_i id ver len hi
      rw [hi] at h
      exact giveUpA_mono (fun a b c h => frzAt_mono hk l h) h
    · rename_i hn
      split at h
      · rename_i hi; exact absurd hi (hn _ _ _)
      · exact frzAt_mono hk l h
theorem frzOAt_mono {K K' : List Ob → Prop} (hk : ∀ s, K s → K' s) : ∀ (l : List (Nat × Nat)) {hp : List Ob}, frzOAt l hp K → frzOAt l hp K'
  | [], hp, h => hk _ h
  | (j, i) :: l, hp, h => by
    unfold frzOAt at h ⊢
    cases hj : hp[j]? with
    | none => rw [hj] at h; exact frzOAt_mono hk l h
    | some o =>
      rw [hj] at h
      cases o with
      | fix ty cs =>
        dsimp only at h ⊢
        cases hi : cs[i]? with
        | none => rw [hi] at h; exact frzOAt_mono hk l h
        | some x =>
          rw [hi] at h
          cases x with
          | oslice id ver len =>
            dsimp only at h ⊢
            refine giveUpA_mono (fun a b c h => ?_) h
            cases hb : b[j]? with
            | none => rw [hb] at h; exact h
            | some o =>
              rw [hb] at h
              cases o with
              | fix ty cs =>
                dsimp only at h ⊢
                revert h
                cases oneCell a with
                | true => exact fun h => frzOAt_mono hk l h
                | false => exact fun h => h
              | _ => exact h
          | _ => exact frzOAt_mono hk l h
      | _ => exact frzOAt_mono hk l h
theorem gcK_mono {on : Bool} {base : Nat} {fr : List AV} {hp : List Ob} {K K' : List AV → List Ob → Prop} (hk : ∀ a b, K a b → K' a b) (h : gcK on base fr hp K) : gcK on base fr hp K' := by
  unfold gcK at h ⊢
  split
  · exact hk _ _ h
  · simp only [deepL_eq, natLK_eq, natK_eq, deepH_eq] at h ⊢
    generalize (okG _ hp _ && covL _ _) = b at h ⊢
    cases b with
    | true =>
      simp only [cond_true] at h ⊢
      generalize (List.all _ _ && List.all _ _) = b2 at h ⊢
      cases b2 with
      | true => exact hk _ _ h
      | false => exact h
    | false => exact h
theorem swL_mono {hp : List Ob} : ∀ (l : List AV) {K K' : List AV → Prop}, (∀ x, K x → K' x) → swL hp l K → swL hp l K'
  | [], K, K', hk, h => hk _ h
  | .oslice id ver len :: l, K, K', hk, h => by
    unfold swL at h ⊢
    split
    · rename_i ver' sz sh xs he
      rw [he] at h; dsimp only at h
      revert h
      cases Nat.beq ver ver' <;> cases (len == xs.length) <;> simp only [cond_true, cond_false] <;> intro h
      · exact swL_mono l (fun x hx => hk _ hx) h
      · exact swL_mono l (fun x hx => hk _ hx) h
      · exact h
      · exact swL_mono l (fun x hx => hk _ hx) h
    · rename_i hn
      split at h
      · rename_i he; exact absurd he (hn _ _ _ _)
      · exact swL_mono l (fun x hx => hk _ hx) h
  | .int .. :: l, K, K', hk, h | .bool .. :: l, K, K', hk, h | .str .. :: l, K, K', hk, h | .ptr .. :: l, K, K', hk, h | .nilptr :: l, K, K', hk, h | .rptr .. :: l, K, K', hk, h | .nilsl :: l, K, K', hk, h
  | .slice .. :: l, K, K', hk, h | .fslice .. :: l, K, K', hk, h | .optr .. :: l, K, K', hk, h | .func .. :: l, K, K', hk, h | .nilfunc :: l, K, K', hk, h | .agg .. :: l, K, K', hk, h | .tuple .. :: l, K, K', hk, h
  | .nilIface :: l, K, K', hk, h | .junk :: l, K, K', hk, h => swL_mono l (fun x hx => hk _ hx) h
theorem swO_mono {hp : List Ob} : ∀ (l : List Ob) {K K' : List Ob → Prop}, (∀ x, K x → K' x) → swO hp l K → swO hp l K'
  | [], K, K', hk, h => hk _ h
  | .fix ty cs :: l, K, K', hk, h => swL_mono cs (fun cs h => swO_mono l (fun x hx => hk _ hx) h) h
  | .grow .. :: l, K, K', hk, h | .froz .. :: l, K, K', hk, h | .dead :: l, K, K', hk, h | .hole :: l, K, K', hk, h => swO_mono l (fun x hx => hk _ hx) h
theorem xgcK_mono {on : Bool} {base : Nat} {vs : List AV} {hp : List Ob} {K K' : List AV → List Ob → Prop} (hk : ∀ a b, K a b → K' a b) (h : xgcK on base vs hp K) : xgcK on base vs hp K' := by
  unfold xgcK at h ⊢
  split
  · exact hk _ _ h
  · exact swL_mono _ (fun vs h => swO_mono _ (fun hp h => gcK_mono hk h) h) h
theorem nrm_mono {kp m : Nat} {l : Nm} {st : St} {K K' : St → Prop} (hk : ∀ s, K s → K' s) (h : nrm kp m l st K) : nrm kp m l st K' := by
  unfold nrm at *
  refine frzAt_mono (fun st h => frzOAt_mono (fun hp h => swL_mono _ (fun fr h => swO_mono _ (fun hp h => gcK_mono (fun fr hp h => ?_) h) h) h) _ h) _ h
  dsimp only at *
  generalize (refsL m fr && (hp.take m).all (refsO m)) = b at *
  cases b with
  | true => exact lenAt_mono (fun fr h => lenO_mono (fun hp h => hk _ h) h) h
  | false => exact h
theorem joinK_mono {E : En} {b : Code} {F F' : St → Prop} (hk : ∀ s, F s → F' s) (s : St) (h : joinK E b F s) : joinK E b F' s := by
  unfold joinK at h ⊢
  split
  · rename_i m hm
    rw [hm] at h
    exact nrm_mono (fun s hs => ⟨hk _ hs.out⟩) h
  · rename_i hm
    rw [hm] at h
    exact hk _ h
theorem seqK_mono {k k' : St → Prop} {K K' : Ex → St → Prop} (h1 : ∀ s, k s → k' s) (h2 : ∀ e s, K e s → K' e s) : ∀ e s, seqK k K e s → seqK k' K' e s
  | .normal, s, h => h1 s h
  | .exit _, s, h => h2 _ s h
  | .ret, s, h => h2 _ s h
theorem blockK_mono {id : Nat} {K K' : Ex → St → Prop} (h2 : ∀ e s, K e s → K' e s) : ∀ e s, blockK id K e s → blockK id K' e s
  | .normal, s, h => h2 _ s h
  | .exit i, s, h => by
    simp only [blockK] at h ⊢
    split
    · rename_i e; rw [if_pos e] at h; exact h2 _ s h
    · rename_i e; rw [if_neg e] at h; exact h2 _ s h
  | .ret, s, h => h2 _ s h
theorem stepK_mono {kp m : Nat} {l : Nm} {N N' : St → Prop} {K K' : Ex → St → Prop} (h1 : ∀ s, N s → N' s) (h2 : ∀ e s, K e s → K' e s) : ∀ e s, stepK kp m l N K e s → stepK kp m l N' K' e s
  | .normal, s, h => nrm_mono h1 h
  | .exit _, s, h => h2 _ s h
  | .ret, s, h => h2 _ s h
theorem wpX_mono {E : En} {lp lp' : Handler} (hl : ∀ b m (K K' : Ex → St → Prop) s, (∀ e s, K e s → K' e s) → lp b m K s → lp' b m K' s) : ∀ (c : Code) {K K' : Ex → St → Prop} (st : St),
    (∀ e s, K e s → K' e s) → wpX E lp c K st → wpX E lp' c K' st
  | .skip, _, _, st, hk, h => hk _ _ h
  | .label _, _, _, st, hk, h => hk _ _ h
  | .region id ops draw, _, _, st, hk, h => by
    simp only [wpX] at h ⊢
    cases hcl : (!draw && hasClear ops.toList) with
    | true =>
      rw [hcl] at h
      simp only [cond_true] at h ⊢
      split
      · rename_i htl
        rw [htl] at h
        simp only [runOpsK_eq] at h ⊢
        exact runOps_mono _ _ _ (fun s c hh => clearA_mono (fun s hs => hk _ s hs) hh) h
      · rename_i htl
        rw [htl] at h; exact h
    | false =>
    rw [hcl] at h
    simp only [cond_false] at h ⊢
    rw [runOpsK_eq] at h ⊢
    refine runOps_mono _ _ _ (fun s c hh => ?_) h
    generalize (!draw || fine ops.toList c) = b at *
    cases b with
    | true => exact hk _ _ hh
    | false => exact M.redo_mono (fun s hs => hk _ s hs) hh
  | .seq a b, _, _, st, hk, h => by
    simp only [wpX] at h ⊢
    exact wpX_mono hl a st (seqK_mono (joinK_mono fun s hs => wpX_mono hl b s hk hs) hk) h
  | .cond c a b, _, _, st, hk, h => by
    simp only [wpX] at h ⊢
    split
    · rename_i t ht
      rw [ht] at h
      simp only at h
      cases t
      · exact wpX_mono hl b st hk h
      · exact wpX_mono hl a st hk h
    · rename_i hn
      split at h
      · rename_i t ht; exact absurd ht (hn t)
      · exact h
  | .block id b, _, _, st, hk, h => by
    simp only [wpX] at h ⊢
    exact wpX_mono hl b st (blockK_mono hk) h
  | .loop b, _, _, st, hk, h => by
    simp only [wpX] at h ⊢
    exact nrm_mono (fun s hs => hl _ _ _ _ _ hk hs) h
  | .scope b, _, _, st, hk, h => by
    simp only [wpX] at h ⊢
    exact wpX_mono hl b st hk h
  | .exit id, _, _, st, hk, h => hk _ _ h
  | .ret, _, _, st, hk, h => hk _ _ h
  | .rangeFunc .., _, _, st, hk, h => by simp [wpX] at h
  | .goto _, _, _, st, hk, h => by simp [wpX] at h
  | .refuse _, _, _, st, hk, h => by simp [wpX] at h
theorem LP.mono {E : En} : Mono (LP E) := fun b m _ _ s hk h => ⟨fun lp hm hc => hm b m _ _ s hk (h.out lp hm hc)⟩
theorem LP.unfold {E : En} {b : Code} {m : Nat} {K : Ex → St → Prop} {s : St} (h : wpA E b (stepK E.base m (E.forget (firstRegion b)) (LP E b m K) K) s) : LP E b m K s :=
  ⟨fun lp hm hc => hc b m K s (wpX_mono (fun b' m' K1 K2 s' hk hh => hm b' m' K1 K2 s' hk (hh.out lp hm hc)) b s (stepK_mono (fun s' hs => hs.out lp hm hc) (fun _ _ h => h)) h)⟩
theorem headL_of {E : En} {p : List Mv} {c : Code} {m : Nat} {K : Ex → St → Prop} {st : St} (h : stepL E p c m K st) : headL E p c m K st := by
  unfold headL; unfold stepL at h
  split
  · rename_i b hb; rw [hb] at h; exact LP.unfold h
  · rename_i hb
    split at h
    · rename_i b hb2; exact absurd hb2 (hb b)
    · exact h
theorem LP.weaken {E : En} {b : Code} {m : Nat} {K K' : Ex → St → Prop} {s : St} (hk : ∀ e s, K e s → K' e s) (h : LP E b m K s) : LP E b m K' s := LP.mono b m K K' s hk h
end Go.Cx

end

section
namespace Go.Cx
open Go.RowKit (Below)
set_option linter.unusedSimpArgs false
theorem loadA_P {P : Program} {t : TypeId} {a : AV} {hp : List Ob} {K : AV → Cls → Prop} (h : loadA False P t a hp K) : ∃ v c, loadA none P t a hp (fun v c => some (v, c)) = some (v, c) ∧ K v c := by
  have := loadA_hom (fun r : Option (AV × Cls) => ∃ v c, r = some (v, c) ∧ K v c) (bad := none) (P := P) t a hp (fun v c => some (v, c))
  simp only [Option.some.injEq, Prod.mk.injEq, reduceCtorEq, false_and, exists_false] at this
  refine this.mpr ?_
  have e : (fun a b => ∃ v c, (a = v ∧ b = c) ∧ K v c) = K := by
    funext a b
    apply propext
    constructor
    · rintro ⟨_, _, ⟨rfl, rfl⟩, hk⟩; exact hk
    · intro hk; exact ⟨_, _, ⟨rfl, rfl⟩, hk⟩
  rw [e]; exact h
theorem grown_P {hp : List Ob} {id ver len : Nat} {K : TypeId → Nat → Sh → List AV → Prop} (h : grown False hp id ver len K) : ∃ ty sz sh xs, hp[id]? = some (.grow ty ver sz sh xs) ∧ len = xs.length ∧ K ty sz sh xs := by
  unfold grown at h
  split at h
  · rename_i ver' sz sh xs he
    unfold ask at h
    cases h1 : ver == ver' with
    | false => rw [h1] at h; exact h.elim
    | true =>
      rw [h1] at h
      cases h2 : len == xs.length with
      | false => rw [h2] at h; exact h.elim
      | true =>
        rw [h2] at h
        have e := eq_of_beq h1; subst e
        exact ⟨_, sz, sh, xs, he, eq_of_beq h2, h⟩
  · exact h.elim
theorem grownR_P {hp : List Ob} {id ver len : Nat} {K : Nat → Sh → List AV → Prop} (h : grownR False hp id ver len K) : ∃ sz sh xs, ((∃ ty, hp[id]? = some (.grow ty ver sz sh xs)) ∨ hp[id]? = some (.froz ver sz sh xs)) ∧ len = xs.length ∧ K sz sh xs := by
  unfold grownR at h
  split at h
  · rename_i ty ver' sz sh xs he
    unfold ask at h
    cases h1 : ver == ver' with
    | false => rw [h1] at h; exact h.elim
    | true =>
      rw [h1] at h
      cases h2 : len == xs.length with
      | false => rw [h2] at h; exact h.elim
      | true =>
        rw [h2] at h
        have e := eq_of_beq h1; subst e
        exact ⟨sz, sh, xs, .inl ⟨ty, he⟩, eq_of_beq h2, h⟩
  · rename_i ver' sz sh xs he
    unfold ask at h
    cases h1 : ver == ver' with
    | false => rw [h1] at h; exact h.elim
    | true =>
      rw [h1] at h
      cases h2 : len == xs.length with
      | false => rw [h2] at h; exact h.elim
      | true =>
        rw [h2] at h
        have e := eq_of_beq h1; subst e
        exact ⟨sz, sh, xs, .inr he, eq_of_beq h2, h⟩
  · exact h.elim
structure Gv (g : Gh) (w : World) (hp hp0 : List Ob) (m : Nat) : Prop where
  r : R g w hp0
  len : hp0.length = hp.length
  ob : ∀ i, m ≤ i → hp0[i]? = hp[i]? ∨ ((∃ ty ver sz sh xs, hp[i]? = some (.grow ty ver sz sh xs)) ∧ ∀ ty ver sz sh xs, hp[i]? = some (.grow ty ver sz sh xs) → ∀ g2 cv, g2.cur = g.cur → V g2 (.oslice i ver xs.length) cv → V g (.slice sz sh xs .ro) cv)
theorem cur_le {g g' : Gh} (h : g'.cur = g.cur) {i : Nat} {x : Nat × Nat × Option Nat × Nat} (e : g.cur i = some x) : g'.cur i = some x := by rw [h]; exact e
theorem give_obj {g : Gh} {w : World} {hp hp0 : List Ob} {m : Nat} (k : Gv g w hp hp0 m) {ty : TypeId} {id ver sz : Nat} {sh : Sh} {xs : List AV} (hm : m ≤ id) (he : hp[id]? = some (.grow ty ver sz sh xs)) {cv : Value} (hV : V g (.oslice id ver xs.length) cv) :
    ∃ g' hp1, g.le g' ∧ g'.cur = g.cur ∧ Gv g' w hp hp1 m ∧ V g' (.slice sz sh xs .ro) cv ∧ (∀ i, i < m → hp1[i]? = hp0[i]?) := by
  rcases k.ob id hm with ho | ⟨hd, ho⟩
  · obtain ⟨g', hle, hR, hs, hcur⟩ := k.r.give (ho.trans he)
    refine ⟨g', _, hle, hcur, ⟨hR, by simp [k.len], fun i hmi => ?_⟩, hs g cv rfl hV, fun i hi => ?_⟩
    · by_cases e : i = id
      · subst e
        right
        refine ⟨⟨_, _, _, _, _, he⟩, fun ty' ver' sz' sh' xs' he' g2 cv e2 hV2 => ?_⟩
        rw [he] at he'; cases he'
        exact hs g2 cv (e2.trans hcur) hV2
      · rw [List.getElem?_set_ne (Ne.symm e)]
        refine (k.ob i hmi).imp (fun e => e) (fun ⟨h1, h2⟩ => ⟨h1, fun ty ver sz sh xs he g2 cv e2 hV2 => ?_⟩)
        exact (h2 ty ver sz sh xs he g2 cv (e2.trans hcur) hV2).mono hle
    · rw [List.getElem?_set_ne (by omega)]
  · exact ⟨g, hp0, Gh.le.refl g, rfl, k, ho ty ver sz sh xs he g cv rfl hV, fun _ _ => rfl⟩
theorem Gv.refl {g : Gh} {w : World} {hp : List Ob} (m : Nat) (h : R g w hp) : Gv g w hp hp m := ⟨h, rfl, fun _ _ => .inl rfl⟩
mutual
theorem giveA_sound {w : World} {hp : List Ob} {m : Nat} : ∀ (x : AV) {g : Gh} {hp0 : List Ob} {cv : Value} {K : AV → Prop}, giveA False m hp x K → Gv g w hp hp0 m → V g x cv →
    ∃ g' hp1 y, g.le g' ∧ g'.cur = g.cur ∧ Gv g' w hp hp1 m ∧ V g' y cv ∧ refs m y = true ∧ K y ∧ (∀ i, i < m → hp1[i]? = hp0[i]?) ∧ (oneCell x = true → oneCell y = true)
  | .oslice id ver len, g, hp0, cv, K, h, k, hV => by
    simp only [giveA] at h
    split at h
    · rename_i hlt
      exact ⟨g, hp0, _, Gh.le.refl g, rfl, k, hV, by simpa [refs] using hlt, h, fun _ _ => rfl, fun e => e⟩
    · rename_i hge
      obtain ⟨sz, sh, xs, he, rfl, h'⟩ := grownR_P h
      split at h'
      · rename_i hcl
        rcases he with ⟨tyo, he⟩ | he
        rotate_left
        · have ho : hp0[id]? = some (.froz ver sz sh xs) := by
            rcases k.ob id (by omega) with ho | ⟨⟨_, _, _, _, _, ho⟩, _⟩
            · exact ho.trans he
            · rw [he] at ho; simp at ho
          exact ⟨g, hp0, _, Gh.le.refl g, rfl, k, k.r.frozV ho hV, by simp [refs, hcl], h', fun _ _ => rfl, fun _ => rfl⟩
        obtain ⟨g', hp1, h1, h2, h3, h4, h5⟩ := give_obj k (by omega) he hV
        exact ⟨g', hp1, _, h1, h2, h3, h4, by simp [refs, hcl], h', h5, fun _ => rfl⟩
      · exact h'.elim
  | .agg cs, g, hp0, cv, K, h, k, hV => by
    simp only [giveA] at h
    cases hV with
    | agg _ vs hl hv =>
      have hvl : VL g cs vs.toList := ⟨by simpa using hl, fun i c v e1 e2 => hv i c v e1 (by simpa using e2)⟩
      obtain ⟨g', hp1, ys, h1, h2, h3, h4, h5, h6, h7, -⟩ := giveLA_sound cs h k hvl
      exact ⟨g', hp1, _, h1, h2, h3, .agg ys vs (by simpa using h4.1) (fun i c v e1 e2 => h4.2 i c v e1 (by simpa using e2)), by simpa [refs] using h5, h6, h7, fun e => by simp [oneCell] at e⟩
  | .tuple cs, g, hp0, cv, K, h, k, hV => by
    simp only [giveA] at h
    cases hV with
    | tuple _ vs hl hv =>
      have hvl : VL g cs vs.toList := ⟨by simpa using hl, fun i c v e1 e2 => hv i c v e1 (by simpa using e2)⟩
      obtain ⟨g', hp1, ys, h1, h2, h3, h4, h5, h6, h7, -⟩ := giveLA_sound cs h k hvl
      exact ⟨g', hp1, _, h1, h2, h3, .tuple ys vs (by simpa using h4.1) (fun i c v e1 e2 => h4.2 i c v e1 (by simpa using e2)), by simpa [refs] using h5, h6, h7, fun e => by simp [oneCell] at e⟩
  | .fslice sz sh xs ys, g, hp0, cv, K, h, k, hV => by
    simp only [giveA] at h
    split at h
    · rename_i hr; exact ⟨g, hp0, _, Gh.le.refl g, rfl, k, hV, hr, h, fun _ _ => rfl, fun e => e⟩
    · exact h.elim
  | .int a b, g, hp0, cv, K, h, k, hV => ⟨g, hp0, _, Gh.le.refl g, rfl, k, hV, rfl, by simpa [giveA, refs] using h, fun _ _ => rfl, fun e => e⟩
  | .bool b, g, hp0, cv, K, h, k, hV => ⟨g, hp0, _, Gh.le.refl g, rfl, k, hV, rfl, by simpa [giveA, refs] using h, fun _ _ => rfl, fun e => e⟩
  | .str b, g, hp0, cv, K, h, k, hV => ⟨g, hp0, _, Gh.le.refl g, rfl, k, hV, rfl, by simpa [giveA, refs] using h, fun _ _ => rfl, fun e => e⟩
  | .ptr a b, g, hp0, cv, K, h, k, hV => by
    simp only [giveA] at h
    split at h
    · rename_i hr; exact ⟨g, hp0, _, Gh.le.refl g, rfl, k, hV, hr, h, fun _ _ => rfl, fun e => e⟩
    · exact h.elim
  | .nilptr, g, hp0, cv, K, h, k, hV => ⟨g, hp0, _, Gh.le.refl g, rfl, k, hV, rfl, by simpa [giveA, refs] using h, fun _ _ => rfl, fun e => e⟩
  | .rptr cs, g, hp0, cv, K, h, k, hV => by
    simp only [giveA] at h
    split at h
    · rename_i hr; exact ⟨g, hp0, _, Gh.le.refl g, rfl, k, hV, hr, h, fun _ _ => rfl, fun e => e⟩
    · exact h.elim
  | .nilsl, g, hp0, cv, K, h, k, hV => ⟨g, hp0, _, Gh.le.refl g, rfl, k, hV, rfl, by simpa [giveA, refs] using h, fun _ _ => rfl, fun e => e⟩
  | .slice a b c d, g, hp0, cv, K, h, k, hV => by
    simp only [giveA] at h
    split at h
    · rename_i hr; exact ⟨g, hp0, _, Gh.le.refl g, rfl, k, hV, hr, h, fun _ _ => rfl, fun e => e⟩
    · exact h.elim
  | .optr a b c d e f, g, hp0, cv, K, h, k, hV => by
    simp only [giveA] at h
    split at h
    · rename_i hr; exact ⟨g, hp0, _, Gh.le.refl g, rfl, k, hV, hr, h, fun _ _ => rfl, fun e => e⟩
    · exact h.elim
  | .func a b c, g, hp0, cv, K, h, k, hV => by
    simp only [giveA] at h
    split at h
    · rename_i hr; exact ⟨g, hp0, _, Gh.le.refl g, rfl, k, hV, hr, h, fun _ _ => rfl, fun e => e⟩
    · exact h.elim
  | .nilfunc, g, hp0, cv, K, h, k, hV => ⟨g, hp0, _, Gh.le.refl g, rfl, k, hV, rfl, by simpa [giveA, refs] using h, fun _ _ => rfl, fun e => e⟩
  | .nilIface, g, hp0, cv, K, h, k, hV => ⟨g, hp0, _, Gh.le.refl g, rfl, k, hV, rfl, by simpa [giveA, refs] using h, fun _ _ => rfl, fun e => e⟩
  | .junk, g, hp0, cv, K, h, k, hV => ⟨g, hp0, _, Gh.le.refl g, rfl, k, hV, rfl, by simpa [giveA, refs] using h, fun _ _ => rfl, fun e => e⟩
theorem giveLA_sound {w : World} {hp : List Ob} {m : Nat} : ∀ (l : List AV) {g : Gh} {hp0 : List Ob} {vs : List Value} {K : List AV → Prop}, giveLA False m hp l K → Gv g w hp hp0 m → VL g l vs →
    ∃ g' hp1 ys, g.le g' ∧ g'.cur = g.cur ∧ Gv g' w hp hp1 m ∧ VL g' ys vs ∧ refsL m ys = true ∧ K ys ∧ (∀ i, i < m → hp1[i]? = hp0[i]?) ∧ (l.all oneCell = true → ys.all oneCell = true)
  | [], g, hp0, vs, K, h, k, hV => ⟨g, hp0, [], Gh.le.refl g, rfl, k, hV, rfl, by simpa [giveLA] using h, fun _ _ => rfl, fun e => e⟩
  | x :: l, g, hp0, vs, K, h, k, hV => by
    simp only [giveLA] at h
    obtain ⟨v, vs, rfl, hx, hl⟩ := hV.cons_inv
    obtain ⟨g1, hp1, y, h1, h2, h3, h4, h5, h6, h7, h8⟩ := giveA_sound x h k hx
    obtain ⟨g2, hp2, ys, i1, i2, i3, i4, i5, i6, i7, i8⟩ := giveLA_sound l h6 h3 (hl.mono h1)
    refine ⟨g2, hp2, y :: ys, h1.trans i1, i2.trans h2, i3, VL.cons (h4.mono i1) i4, by simp [refsL, h5, i5], i6, fun i hi => (i7 i hi).trans (h7 i hi), fun e => ?_⟩
    simp only [List.all_cons, Bool.and_eq_true] at e ⊢
    exact ⟨h8 e.1, i8 e.2⟩
end
theorem addr_of_loadAt {P : Program} {w : World} {t : TypeId} {ca cv : Value} (h : (Instr.loadAt t ca).run P w = .ok cv w) : ∃ ad, ca = .pointer (some ad) := by
  unfold Instr.loadAt at h
  simp only [Sem.run_bind] at h
  cases ca with
  | pointer q => cases q <;> simp_all [Instr.sureAddr]
  | _ => simp [Instr.sureAddr] at h
def res1 (tmps : Array Value) : ResultVar → Sem Value
  | .tmp t => pure (tmps.getD t undef)
  | .cell a t => do loadVar t (← asAddr (tmps.getD a undef))
theorem resA_sound {P : Program} {g : Gh} {st : St} {tmps : Array Value} {w : World} (hR : R g w st.hp) (hv : VL g st.fr tmps.toList) : ∀ (l : List ResultVar) {K : List AV → Prop}, resA False P st l K →
    ∃ vs cs, (l.mapM (res1 tmps)).run P w = .ok cs w ∧ VL g vs cs ∧ K vs
  | [], K, h => ⟨[], [], rfl, VL.nil g, h⟩
  | .tmp t :: l, K, h => by
    simp only [resA] at h
    obtain ⟨vs, cs, h1, h2, h3⟩ := resA_sound hR hv l h
    have := hv.getD t
    refine ⟨_ :: vs, tmps.getD t undef :: cs, ?_, VL.cons ?_ h2, h3⟩
    · simp only [List.mapM_cons, res1, Sem.run_bind, Sem.run_pure, Result.andThen_ok, h1]
    · simpa [Array.getD_eq_getD_getElem?, List.getD_eq_getElem?_getD] using this
  | .cell a t :: l, K, h => by
    simp only [resA] at h
    obtain ⟨v, c, hl, h⟩ := loadA_P h
    obtain ⟨vs, cs, h1, h2, h3⟩ := resA_sound hR hv l h
    have hva := hv.getD a
    have hva : V g (st.fr.getD a .junk) (tmps.getD a undef) := by simpa [Array.getD_eq_getD_getElem?, List.getD_eq_getElem?_getD] using hva
    obtain ⟨cv, hrun, hcv⟩ := loadA_sound hR hl hva
    have has : (res1 tmps (.cell a t)).run P w = .ok cv w := by
      obtain ⟨ad, had⟩ := addr_of_loadAt hrun
      have e : res1 tmps (.cell a t) = (do loadVar t (← asAddr (tmps.getD a undef))) := rfl
      rw [e, had]
      rw [had] at hrun
      exact hrun
    refine ⟨v :: vs, cv :: cs, ?_, VL.cons hcv h2, h3⟩
    rw [List.mapM_cons, Sem.run_bind, has]
    simp only [Sem.run_bind, Result.andThen_ok, h1, Sem.run_pure]
def resV (cs : List Value) : Value := if h : cs.length = 1 then cs[0] else .tuple ⟨cs⟩
theorem resV_V {g : Gh} {vs : List AV} {cs : List Value} (h2 : VL g vs cs) : V g (tupA vs) (resV cs) := by
  unfold resV
  have hl := h2.1
  cases cs with
  | nil =>
    cases vs with
    | nil => exact .tuple [] #[] rfl (fun i c v e => by simp at e)
    | cons => simp at hl
  | cons c cs =>
    cases cs with
    | nil =>
      cases vs with
      | nil => simp at hl
      | cons v vs =>
        cases vs with
        | nil => exact h2.head
        | cons => simp at hl
    | cons d cs =>
      cases vs with
      | nil => simp at hl
      | cons v vs =>
        cases vs with
        | nil => simp at hl
        | cons u vs => exact .tuple _ _ (by simpa using hl) (fun i c v e1 e2 => h2.2 i c v e1 (by simpa using e2))
theorem results_sound {P : Program} {fn : Func} {g : Gh} {st : St} {tmps : Array Value} {w : World} (hR : R g w st.hp) (hv : VL g st.fr tmps.toList) {K : List AV → Prop} (h : resA False P st fn.results.toList K) :
    ∃ vs cs, (results fn tmps).run P w = .ok (resV cs) w ∧ VL g vs cs ∧ K vs := by
  obtain ⟨vs, cs, h1, h2, h3⟩ := resA_sound hR hv fn.results.toList h
  refine ⟨vs, cs, ?_, h2, h3⟩
  have e : results fn tmps = (do let vs ← fn.results.mapM (res1 tmps); pure (if h : vs.size = 1 then vs[0] else .tuple vs)) := rfl
  rw [e, Array.mapM_eq_mapM_toList]
  unfold resV
  simp only [Sem.run_bind, Sem.run_map, h1]
  by_cases hs : cs.length = 1
  · simp [hs]
  · simp [hs]
end Go.Cx

end

section
namespace Go.Cx
open Go.RowKit (Below)
set_option linter.unusedSimpArgs false
def Gh.still (w : World) (imm : Nat → Nat → Option Value) : Gh := ⟨w.heap.size, w, fun _ => false, imm, fun _ => none, fun _ => none⟩
theorem R.still {w : World} {imm : Nat → Nat → Option Value} (h : ∀ b o v, imm b o = some v → w.cell? ⟨b, o, none⟩ = some v) : R (.still w imm) w [] where
  below := Below.refl _ _
  base := Nat.le_refl _
  frz := fun k hk => by simp [Gh.still] at hk
  imm := h
  objs := fun i => by simp [ObOK, Gh.still]
  inj := fun i j b _ _ _ ho => by rcases ho with ho | ⟨_, _, _, ho⟩ <;> simp [Gh.still] at ho
theorem VL.init {g : Gh} {fn : Func} {args : List AV} {vs : List Value} (h : VL g args vs) : VL g (initA fn args) (vs.toArray ++ Array.replicate (fn.ntmps - vs.toArray.size) undef).toList := by
  unfold initA
  have hl := h.1
  simp only [Array.toList_append, List.toList_toArray, Array.toList_replicate, List.size_toArray]
  refine VL.append h ⟨by simp [hl], fun i c v e1 e2 => ?_⟩
  have := List.eq_of_mem_replicate (List.mem_of_getElem? e1)
  subst this
  exact .junk v
theorem LayAt.still {P : Program} {g : Gh} {w : World} {hp : List Ob} (h : LayAt P g) (hr : R g w hp) (imm : Nat → Nat → Option Value) : LayAt P (.still w imm) := fun _ hw => h.on hr hw
theorem calls_small {E : En} (hE : EnOK E) (hm : E.P.follows .mixedOrders = true) (h0 : E.keep = 0) {f : FuncId} {fn : Func} {c : Code} (hf : E.P.funcs[f]? = some fn) (hb : fn.body = some c)
    {args : List AV} {S : AV → Prop} (h : callA E fn args [] (fun r _ => S r)) {g : Gh} (hL : LayAt E.P g) {w : World} (hR : R g w []) {vs : List Value} (hv : VL g args vs) :
    Calls E.P f vs.toArray w fun e w' => ∃ v g' r, e = .returned v ∧ g.le g' ∧ R g' w' [] ∧ V g' r v ∧ refs 0 r = true ∧ S r := by
  unfold callA at h
  rw [hb] at h
  simp only at h
  have hrel : Rel g g ⟨initA fn args, []⟩ { tmps := vs.toArray ++ Array.replicate (fn.ntmps - vs.toArray.size) undef, defers := [] } w := ⟨Gh.le.refl g, hR, hv.init, rfl⟩
  refine calls_of_wp hf hb (Code.wp_mono (fun e a w' hq => ?_) (wp_sound_E hE hm hL (by rw [h0]; exact Ids.of_le (Gh.le.refl g) hR) (fun i hi => Ids.of_le (Gh.le.refl g) hR i (by simp)) h hrel))
  have key : ∀ {g' : Gh} {st : St}, Rel g g' st a w' → (resA False E.P st fn.results.toList fun vs => xgcK E.xgc E.base vs st.hp fun vs hp => exitA False E.keep (tupA vs) hp fun r _ => S r) →
      a.defers = [] ∧ ∃ v, (results fn a.tmps).run E.P w' = .ok v w' ∧ (fun e w' => ∃ v g' r, e = .returned v ∧ g.le g' ∧ R g' w' [] ∧ V g' r v ∧ refs 0 r = true ∧ S r : Ending → World → Prop) (.returned v) w' := by
    intro g' st hr hk
    obtain ⟨vs, cs, h1, h2, h3⟩ := results_sound hr.r hr.vl hk
    refine ⟨hr.defers, _, h1, ?_⟩
    obtain ⟨g1, vs1, hp0, x1, x2, x3, h3⟩ := xgcK_sound h3 hr.le hr.r h2 (fun i hi => Ids.of_le (Gh.le.refl g) hR i (by simp))
    unfold exitA at h3
    rw [h0] at h3
    obtain ⟨g2, hp1, y, i1, i2, i3, i4, i5, i6, -, -⟩ := giveA_sound _ h3 (Gv.refl 0 x2) (resV_V x3)
    simp only [List.take_zero, giveOA] at i6
    have hid : Ids g 0 := Ids.of_le (Gh.le.refl g) hR
    exact ⟨_, g2.trim 0, y, rfl, (x1.trans i1).trim hid, i3.r.trim (m := 0) (by simp), i4.trim (.inr i5), i5, i6⟩
  cases e with
  | normal => obtain ⟨g', st, hr, hk⟩ := hq; exact key hr hk
  | ret => obtain ⟨g', st, hr, hk⟩ := hq; exact key hr hk
  | exit id => obtain ⟨g', st, hr, hk⟩ := hq; exact hk.elim
  | goto l => exact hq.elim
  | panic ch => exact hq.elim
  | outgrown => exact hq.elim
theorem R.back {g : Gh} {w : World} {hp : List Ob} (h : R g w hp) {imm : Nat → Nat → Option Value} {g3 : Gh} {w' : World} (hle : (Gh.still w imm).le g3) (h3 : R g3 w' []) :
    ∃ g', g.le g' ∧ R g' w' hp ∧ ((∀ b o, b < w.heap.size → imm b o = g.imm b o) → ∀ b o, g'.imm b o = g3.imm b o) := by
  have hbase : g3.base = w.heap.size := hle.base
  have hw0 : g3.w0 = w := hle.w0
  have hbel : Below w.heap.size w w' := by have := h3.below; rwa [hbase, hw0] at this
  let g' : Gh := { g with imm := fun b o => if b < w.heap.size then g.imm b o else g3.imm b o }
  have gsz : ∀ b o v, g.imm b o = some v → b < w.heap.size := fun b o v e => cell_lt (h.imm b o v e)
  have hle' : g.le g' := by
    refine ⟨rfl, rfl, rfl, fun b o hn => ?_, fun b o v e => ?_, fun _ _ e => e, fun _ _ _ _ _ e => ⟨_, e, Hdr.refl _ _ _ _⟩⟩
    · show (if b < w.heap.size then g.imm b o else g3.imm b o) = g.imm b o
      split
      · rfl
      · rename_i hb
        exfalso
        refine hn ⟨by have := h.base; omega, ?_⟩
        cases hk : g.frz b with
        | false => rfl
        | true => have := (h.frz b hk).1; omega
    · show (if b < w.heap.size then g.imm b o else g3.imm b o) = some v
      rw [if_pos (gsz b o v e)]; exact e
  have hR := h.grow hbel
  refine ⟨g', hle', ⟨hR.below, hR.base, hR.frz, fun b o v e => ?_, fun i => (hR.objs i).keep rfl rfl rfl hle' (fun _ _ _ => rfl) (fun b o' ho hd e => ?_), hR.inj⟩, fun hi b o => ?_⟩
  · have e : (if b < w.heap.size then g.imm b o else g3.imm b o) = some v := e
    split at e
    · exact hR.imm b o v e
    · exact h3.imm b o v e
  · show (if b < w.heap.size then g.imm b o' else g3.imm b o') = none
    rw [if_pos (h.own_lt hd ho).2.1]; exact e
  · show (if b < w.heap.size then g.imm b o else g3.imm b o) = g3.imm b o
    split
    · rename_i hb
      have := hle.old b o (by intro hf; have := hf.1; simp only [Gh.still] at this; omega)
      rw [this]; exact (hi b o hb).symm
    · rfl
mutual
def view (hp : List Ob) : AV → AV
  | .oslice id ver len => match hp[id]? with
    | some (.grow _ _ sz sh xs) => .slice sz sh xs .ro
    | some (.froz _ sz sh xs) => .slice sz sh xs .ro
    | _ => .oslice id ver len
  | .agg cs => .agg (viewL hp cs)
  | x => x
def viewL (hp : List Ob) : List AV → List AV
  | [] => []
  | x :: l => view hp x :: viewL hp l
end
mutual
def lenOK (hp : List Ob) : AV → Bool
  | .oslice id ver len => match hp[id]? with
    | some (.grow _ ver' _ _ xs) => ver == ver' && len == xs.length
    | some (.froz ver' _ _ xs) => ver == ver' && len == xs.length
    | _ => true
  | .agg cs => lenOKL hp cs
  | _ => true
def lenOKL (hp : List Ob) : List AV → Bool
  | [] => true
  | x :: l => cond (lenOK hp x) (lenOKL hp l) false
end
def lenOKP (hp : List Ob) : AV → Bool
  | .ptr id off => match hp[id]? with
    | some (.fix _ cs) => lenOKL hp (cs.drop off)
    | _ => true
  | x => lenOK hp x
def lenOKPL (hp : List Ob) : List AV → Bool
  | [] => true
  | x :: l => cond (lenOKP hp x) (lenOKPL hp l) false
theorem cond_and {a b : Bool} (h : cond a b false = true) : a = true ∧ b = true := by cases a <;> simp_all
def viewP (hp : List Ob) : AV → AV
  | .ptr id off => match hp[id]? with
    | some (.fix _ cs) => cond (decide (off ≤ cs.length)) (.rptr (viewL hp (cs.drop off))) (.ptr id off)
    | _ => .ptr id off
  | x => view hp x
def Gh.seen (w : World) : Gh := .still w fun b o => w.cell? ⟨b, o, none⟩
theorem refsL_length {hp : List Ob} : ∀ {l : List AV}, (viewL hp l).length = l.length
  | [] => rfl
  | x :: l => by simp [viewL, refsL_length (l := l)]
theorem viewL_get {hp : List Ob} : ∀ {l : List AV} {i : Nat}, (viewL hp l)[i]? = (l[i]?).map (view hp)
  | [], i => by simp [viewL]
  | x :: l, 0 => by simp [viewL]
  | x :: l, i + 1 => by simp [viewL, viewL_get (l := l)]
theorem sub_seen {g : Gh} {w : World} {hp : List Ob} (h : R g w hp) : (g.trim 0).sub (.seen w) where
  imm := fun b o v e => h.imm b o v e
  blk := fun i b e => by simp [Gh.trim] at e
  cur := fun i _ _ _ _ e => by simp [Gh.trim] at e
theorem seen_of {g : Gh} {w : World} {hp : List Ob} (h : R g w hp) {x : AV} {v : Value} (hv : V g x v) (hr : ClosedCell x ∨ refs 0 x = true) : V (.seen w) x v := (hv.trim hr).sub (sub_seen h)
mutual
theorem view_V {g : Gh} {w : World} {hp : List Ob} (h : R g w hp) : ∀ (x : AV) {v : Value}, V g x v → lenOK hp x = true → refs 0 (view hp x) = true → V (.seen w) (view hp x) v
  | .oslice id ver len, v, hv, hlk, hr => by
    unfold view at hr ⊢
    split
    · rename_i ty ver' sz sh xs he
      rw [he] at hr
      simp only at hr
      have hc : (ver == ver' && len == xs.length) = true := by simpa [lenOK, he] using hlk
      · simp only [Bool.and_eq_true, beq_iff_eq] at hc
        obtain ⟨rfl, rfl⟩ := hc
        rcases h.growOK he with k | ⟨b, c, vs, fz, k⟩
        · have := k.nil; subst this
          have := k.slice hv; subst this
          exact .slice0 _ _
        · have := k.slice hv
          subst this
          have hvl := k.vl
          have cells : ∀ (i : Nat) (c : AV) (v : Value), (flat xs)[i]? = some c → (vs.toList.take (xs.length * sz))[i]? = some v → V (.seen w) c v := by
            intro i c v e1 e2
            refine seen_of h (hvl.2 i c v e1 e2) ?_
            have hm := List.mem_of_getElem? e1
            simp only [refs, Bool.or_eq_true] at hr
            rcases hr with hr | hr
            · left; exact closed_flat hr (fun x hx => (k.sh x hx).1) c hm
            · right; exact refs_flat hr c hm
          refine .slice sz sh xs .ro (vs.toList.take (xs.length * sz)) b 0 c hvl.1 cells (fun i v e => ?_) k.sh k.le k.lim
          show w.cell? ⟨b, 0 + i, none⟩ = some v
          rw [Nat.zero_add]
          have := k.lies i v e
          rwa [Nat.zero_add] at this
    · rename_i ver' sz sh xs he
      rw [he] at hr
      simp only at hr
      have hc : (ver == ver' && len == xs.length) = true := by simpa [lenOK, he] using hlk
      simp only [Bool.and_eq_true, beq_iff_eq] at hc
      obtain ⟨rfl, rfl⟩ := hc
      exact seen_of h (h.frozV he hv) (.inr hr)
    · rename_i hn hn2
      exfalso
      cases hh : hp[id]? with
      | none => rw [hh] at hr; simp [refs] at hr
      | some o =>
        cases o with
        | grow t a b c d => exact hn t a b c d hh
        | froz a b c d => exact hn2 a b c d hh
        | fix ty cs => rw [hh] at hr; simp [refs] at hr
        | dead => rw [hh] at hr; simp [refs] at hr
        | hole => rw [hh] at hr; simp [refs] at hr
  | .agg cs, v, hv, hlk, hr => by
    simp only [view] at hr ⊢
    cases hv with
    | agg _ vs hl hv =>
      have hvl : VL g cs vs.toList := ⟨by simpa using hl, fun i c v e1 e2 => hv i c v e1 (by simpa using e2)⟩
      have := viewL_V h cs hvl (by simpa [lenOK] using hlk) (by simpa [refs] using hr)
      exact .agg _ vs (by simpa using this.1) (fun i c v e1 e2 => this.2 i c v e1 (by simpa using e2))
  | .int .., v, hv, _, hr => seen_of h hv (.inr hr)
  | .bool .., v, hv, _, hr => seen_of h hv (.inr hr)
  | .str .., v, hv, _, hr => seen_of h hv (.inr hr)
  | .ptr .., v, hv, _, hr => seen_of h hv (.inr hr)
  | .nilptr, v, hv, _, hr => seen_of h hv (.inr hr)
  | .rptr .., v, hv, _, hr => seen_of h hv (.inr hr)
  | .nilsl, v, hv, _, hr => seen_of h hv (.inr hr)
  | .slice .., v, hv, _, hr => seen_of h hv (.inr hr)
  | .fslice .., v, hv, _, hr => seen_of h hv (.inr hr)
  | .optr .., v, hv, _, hr => seen_of h hv (.inr hr)
  | .func .., v, hv, _, hr => seen_of h hv (.inr hr)
  | .nilfunc, v, hv, _, hr => seen_of h hv (.inr hr)
  | .tuple .., v, hv, _, hr => seen_of h hv (.inr hr)
  | .nilIface, v, hv, _, hr => seen_of h hv (.inr hr)
  | .junk, v, hv, _, hr => seen_of h hv (.inr hr)
theorem viewL_V {g : Gh} {w : World} {hp : List Ob} (h : R g w hp) : ∀ (l : List AV) {vs : List Value}, VL g l vs → lenOKL hp l = true → refsL 0 (viewL hp l) = true → VL (.seen w) (viewL hp l) vs
  | [], vs, hv, _, hr => by rw [hv.nil_inv]; exact VL.nil _
  | x :: l, vs, hv, hlk, hr => by
    obtain ⟨v, vs, rfl, hx, hl⟩ := hv.cons_inv
    simp only [viewL, refsL, Bool.and_eq_true] at hr ⊢
    have hlk := cond_and hlk
    exact VL.cons (view_V h x hx hlk.1 hr.1) (viewL_V h l hl hlk.2 hr.2)
end
theorem viewP_V {g : Gh} {w : World} {hp : List Ob} (h : R g w hp) (x : AV) {v : Value} (hv : V g x v) (hlk : lenOKP hp x = true) (hr : refs 0 (viewP hp x) = true) : V (.seen w) (viewP hp x) v := by
  unfold lenOKP at hlk
  unfold viewP at hr ⊢
  split
  · rename_i id off
    simp only at hr
    split
    · rename_i cs he
      rw [he] at hr
      simp only [he] at hr hlk
      cases hc : decide (off ≤ cs.length) with
      | false => rw [hc] at hr; simp [refs] at hr
      | true =>
        rw [hc] at hr
        simp only [cond_true] at hr ⊢
        simp only [decide_eq_true_eq] at hc
        have k := h.objs id
        rw [he] at k
        obtain ⟨k1, b, vs, fz, k2, k3, k4, k5, k6, k7, k8⟩ := k
        cases hv with
        | ptr _ _ b' hb =>
          rw [k2] at hb; cases hb
          have := viewL_V h (cs.drop off) (k5.drop off) hlk (by simpa [refs] using hr)
          refine .rptr _ (vs.toList.drop off) b off this.1 this.2 (fun i v e => ?_)
          show w.cell? ⟨b, off + i, none⟩ = some v
          rw [List.getElem?_drop] at e
          simp only [World.cell?, k4]
          simpa using e
    · rename_i hn
      exfalso
      cases hh : hp[id]? with
      | none => rw [hh] at hr; simp [refs] at hr
      | some o =>
        cases o with
        | fix ty cs => exact hn ty cs hh
        | grow t a b c d => rw [hh] at hr; simp [refs] at hr
        | froz a b c d => rw [hh] at hr; simp [refs] at hr
        | dead => rw [hh] at hr; simp [refs] at hr
        | hole => rw [hh] at hr; simp [refs] at hr
  · rename_i x hn
    split at hr
    · rename_i id off; exact (hn id off rfl).elim
    · split at hlk
      · exact (hn _ _ rfl).elim
      · exact view_V h _ hv hlk hr
def viewPL (hp : List Ob) (l : List AV) : List AV := l.map (viewP hp)
theorem viewPL_V {g : Gh} {w : World} {hp : List Ob} (h : R g w hp) : ∀ (l : List AV) {vs : List Value}, VL g l vs → lenOKPL hp l = true → refsL 0 (viewPL hp l) = true → VL (.seen w) (viewPL hp l) vs
  | [], vs, hv, _, hr => by rw [hv.nil_inv]; exact VL.nil _
  | x :: l, vs, hv, hlk, hr => by
    obtain ⟨v, vs, rfl, hx, hl⟩ := hv.cons_inv
    simp only [viewPL, List.map_cons, refsL, Bool.and_eq_true] at hr ⊢
    have hlk := cond_and hlk
    exact VL.cons (viewP_V h x hx hlk.1 hr.1) (viewPL_V h l hl hlk.2 hr.2)
mutual
def plain : AV → Bool
  | .int .. | .bool _ | .str _ | .nilptr | .nilsl | .nilfunc | .nilIface => true
  | .agg cs | .tuple cs => plainL cs
  | _ => false
def plainL : List AV → Bool
  | [] => true
  | x :: l => plain x && plainL l
end
mutual
theorem plain_V {g g' : Gh} : ∀ (x : AV) {v : Value}, plain x = true → V g x v → V g' x v
  | .int .., v, _, hv => by cases hv; exact .int _ _
  | .bool _, v, _, hv => by cases hv; exact .bool _
  | .str _, v, _, hv => by cases hv; exact .str _ (by assumption)
  | .nilptr, v, _, hv => by cases hv; exact .nilptr
  | .nilsl, v, _, hv => by cases hv; exact .nilsl
  | .nilfunc, v, _, hv => by cases hv; exact .nilfunc
  | .nilIface, v, _, hv => by cases hv; exact .nilIface
  | .agg cs, v, hp, hv => by
    cases hv with
    | agg _ vs hl hv =>
      have := plainL_V (g' := g') cs (vs := vs.toList) (by simpa [plain] using hp) (g := g) ⟨by simpa using hl, fun i c v e1 e2 => hv i c v e1 (by simpa using e2)⟩
      exact .agg _ vs hl (fun i c v e1 e2 => this.2 i c v e1 (by simpa using e2))
  | .tuple cs, v, hp, hv => by
    cases hv with
    | tuple _ vs hl hv =>
      have := plainL_V (g' := g') cs (vs := vs.toList) (by simpa [plain] using hp) (g := g) ⟨by simpa using hl, fun i c v e1 e2 => hv i c v e1 (by simpa using e2)⟩
      exact .tuple _ vs hl (fun i c v e1 e2 => this.2 i c v e1 (by simpa using e2))
  | .ptr .., v, hp, hv => by simp [plain] at hp
  | .rptr .., v, hp, hv => by simp [plain] at hp
  | .slice .., v, hp, hv => by simp [plain] at hp
  | .fslice .., v, hp, hv => by simp [plain] at hp
  | .oslice .., v, hp, hv => by simp [plain] at hp
  | .optr .., v, hp, hv => by simp [plain] at hp
  | .func .., v, hp, hv => by simp [plain] at hp
  | .junk, v, hp, hv => by simp [plain] at hp
theorem plainL_V {g g' : Gh} : ∀ (l : List AV) {vs : List Value}, plainL l = true → VL g l vs → VL g' l vs
  | [], vs, _, hv => by rw [hv.nil_inv]; exact VL.nil _
  | x :: l, vs, hp, hv => by
    obtain ⟨v, vs, rfl, hx, hl⟩ := hv.cons_inv
    simp only [plainL, Bool.and_eq_true] at hp
    exact VL.cons (plain_V x hp.1 hx) (plainL_V l hp.2 hl)
end
def Lo (a b : AV) : Prop := ∀ g v, V g a v → V g b v
theorem Lo.refl (a : AV) : Lo a a := fun _ _ h => h
def Tr.bind {ρ τ : Type} (f : ρ → Tr τ) : Tr ρ → Tr τ
  | .bad => .bad
  | .r x => f x
  | .c b t e => .c b (Tr.bind f t) (Tr.bind f e)
def Tr.map {ρ τ : Type} (f : ρ → τ) (t : Tr ρ) : Tr τ := t.bind fun x => .r (f x)
theorem Tr.val_bind {ρ τ : Type} (f : ρ → Tr τ) : ∀ t : Tr ρ, (t.bind f).val = t.val.bind fun x => (f x).val
  | .bad => rfl
  | .r _ => rfl
  | .c b t e => by
    cases b
    · exact Tr.val_bind f e
    · exact Tr.val_bind f t
theorem Tr.val_map {ρ τ : Type} (f : ρ → τ) (t : Tr ρ) : (t.map f).val = t.val.map f := by
  unfold Tr.map; rw [Tr.val_bind]; cases t.val <;> rfl
def pureS (F : List AV → Tr AV) : Spec := fun args hp =>
  cond (refsL 0 args) ((F args).map fun r => (r, hp, .pure))
    (cond (refsL 0 (viewPL hp args)) (.c (lenOKPL hp args) ((F (viewPL hp args)).bind fun r => cond (plain r) (.r (r, hp, .read)) .bad) .bad) .bad)
theorem pureS_inv {F : List AV → Tr AV} {args : List AV} {hp : List Ob} {r : AV} {hp' : List Ob} {c : Cls} (h : (pureS F args hp).val = some (r, hp', c)) :
    hp' = hp ∧ ((refsL 0 args = true ∧ (F args).val = some r ∧ c = .pure) ∨ (refsL 0 args = false ∧ refsL 0 (viewPL hp args) = true ∧ lenOKPL hp args = true ∧ (F (viewPL hp args)).val = some r ∧ plain r = true ∧ c = .read)) := by
  unfold pureS at h
  cases hr : refsL 0 args with
  | true =>
    rw [hr] at h
    simp only [cond_true, Tr.val_map, Option.map_eq_some_iff, Prod.mk.injEq] at h
    obtain ⟨r', h1, rfl, rfl, rfl⟩ := h
    exact ⟨rfl, .inl ⟨rfl, h1, rfl⟩⟩
  | false =>
    rw [hr] at h
    simp only [cond_false] at h
    cases hv : refsL 0 (viewPL hp args) with
    | false => rw [hv] at h; simp [Tr.val, Tr.fold] at h
    | true =>
      rw [hv] at h
      simp only [cond_true] at h
      have hlk : lenOKPL hp args = true ∧ ((F (viewPL hp args)).bind fun r => cond (plain r) (.r (r, hp, Cls.read)) .bad).val = some (r, hp', c) := by
        cases hk : lenOKPL hp args with
        | false => rw [hk] at h; simp [Tr.val, Tr.fold] at h
        | true => rw [hk] at h; exact ⟨rfl, h⟩
      obtain ⟨hlk, h⟩ := hlk
      simp only [Tr.val_bind, Option.bind_eq_some_iff] at h
      obtain ⟨r', h1, h2⟩ := h
      cases hp2 : plain r' with
      | false => rw [hp2] at h2; simp [Tr.val, Tr.fold] at h2
      | true =>
        rw [hp2] at h2
        simp only [cond_true, Tr.val, Tr.fold, Option.some.injEq, Prod.mk.injEq] at h2
        obtain ⟨rfl, rfl, rfl⟩ := h2
        exact ⟨rfl, .inr ⟨rfl, rfl, hlk, h1, hp2, rfl⟩⟩
end Go.Cx

end

section
namespace Go.Cx
open Go.RowKit (Below)
set_option linter.unusedSimpArgs false
theorem giveOA_sound {w : World} {hp : List Ob} {m : Nat} : ∀ (l : List Ob) (d : List Ob) {g : Gh} {hp0 : List Ob} {K : List Ob → Prop}, giveOA False m hp l K → Gv g w hp hp0 m →
    (∀ i, hp0[i]? = (d ++ l)[i]? ∨ d.length + l.length ≤ i) → d.length + l.length ≤ m → d.all (refsO m) = true →
    ∃ g' hp1 l', g.le g' ∧ Gv g' w hp hp1 m ∧ (∀ i, hp1[i]? = (d ++ l')[i]? ∨ d.length + l.length ≤ i) ∧ l'.length = l.length ∧ l'.all (refsO m) = true ∧ K l'
  | [], d, g, hp0, K, h, k, hi, hm, hd => ⟨g, hp0, [], Gh.le.refl g, k, hi, rfl, rfl, h⟩
  | .fix ty cs :: l, d, g, hp0, K, h, k, hi, hm, hd => by
    simp only [giveOA] at h
    simp only [List.length_cons] at hi hm ⊢
    have he : hp0[d.length]? = some (.fix ty cs) := by
      rcases hi d.length with e | e
      · rw [e]; simp
      · omega
    have kk := k.r.objs d.length
    rw [he] at kk
    obtain ⟨k1, b, vs, fz, k2, k3, k4, k5, k6, k7, k8⟩ := kk
    obtain ⟨g1, hp1, ys, h1, h2, h3, h4, h5, h6, h7, h8⟩ := giveLA_sound cs h k k5
    have hone : ys.all oneCell = true := h8 (by simp only [List.all_eq_true]; exact k6)
    have he1 : hp1[d.length]? = some (.fix ty cs) := (h7 _ (by omega)).trans he
    have kk := h3.r.objs d.length
    rw [he1] at kk
    obtain ⟨j1, b', vs', fz', j2, j3, j4, j5, j6, j7, j8⟩ := kk
    have hb' : b' = b := by
      have := h1.blk _ _ k2; rw [j2] at this; simpa using this
    subst hb'
    have hvs : vs' = vs := by rw [k4] at j4; simp at j4; exact j4.1.symm
    subst hvs
    have hR : R g1 w (hp1.set d.length (.fix ty ys)) := by
      have dead : ∀ j : Nat, gone (hp1.set d.length (.fix ty ys))[j]? = false → gone hp1[j]? = false := by
        intro j hj
        by_cases e : j = d.length
        · subst e; rw [he1]; rfl
        · rwa [List.getElem?_set_ne (Ne.symm e)] at hj
      refine ⟨h3.r.below, h3.r.base, h3.r.frz, h3.r.imm, fun j => ?_, fun a b c hab ha hb oa ob => h3.r.inj a b c hab (dead a ha) (dead b hb) oa ob⟩
      by_cases e : j = d.length
      · subst e
        rw [List.getElem?_set_self (length_of_get he1)]
        exact ⟨j1, b', vs', fz', j2, j3, j4, h4, List.all_eq_true.1 hone, j7, j8⟩
      · rw [List.getElem?_set_ne (Ne.symm e)]; exact h3.r.objs j
    have k' : Gv g1 w hp (hp1.set d.length (.fix ty ys)) m := ⟨hR, by simp [h3.len], fun i hmi => by
      rw [List.getElem?_set_ne (by omega)]; exact h3.ob i hmi⟩
    obtain ⟨g2, hp2, l', i1, i2, i3, i4, i5, i6⟩ := giveOA_sound l (d ++ [.fix ty ys]) (g := g1) (hp0 := hp1.set d.length (.fix ty ys)) h6 k' (fun i => by
      by_cases e : i = d.length
      · subst e
        left
        rw [List.getElem?_set_self (length_of_get he1)]
        simp
      · rw [List.getElem?_set_ne (Ne.symm e)]
        rcases hi i with e1 | e1
        · by_cases hlt : i < m
          · left
            rw [h7 i hlt, e1]
            rcases Nat.lt_or_ge i d.length with h | h
            · simp [List.getElem?_append, h, Nat.lt_succ_of_lt h]
            · rw [List.getElem?_append_right h, List.append_assoc, List.getElem?_append_right h]
              obtain ⟨j, hj⟩ : ∃ j, i - d.length = j + 1 := ⟨i - d.length - 1, by omega⟩
              rw [hj]; simp
          · right; simp; omega
        · right; simp; omega) (by simp; omega) (by simp [hd, refsO, h5])
    refine ⟨g2, hp2, .fix ty ys :: l', h1.trans i1, i2, fun i => ?_, by simp [i4], by simp [refsO, h5, i5], i6⟩
    rcases i3 i with e | e
    · left; rw [e]; simp
    · right; simp at e; omega
  | .grow t a b c e :: l, d, g, hp0, K, h, k, hi, hm, hd => by
    simp only [giveOA] at h
    simp only [List.length_cons] at hi hm ⊢
    split at h
    · rename_i hr
      obtain ⟨g2, hp2, l', i1, i2, i3, i4, i5, i6⟩ := giveOA_sound l (d ++ [.grow t a b c e]) h k (fun i => (hi i).imp (fun e => by rw [e]; simp) (fun e => by simp; omega)) (by simp; omega) (by simp [hd, hr])
      exact ⟨g2, hp2, .grow t a b c e :: l', i1, i2, fun i => (i3 i).imp (fun e => by rw [e]; simp) (fun e => by simp at e; omega), by simp [i4], by simp [hr, i5], i6⟩
    · exact h.elim
  | .froz a b c e :: l, d, g, hp0, K, h, k, hi, hm, hd => by
    simp only [giveOA] at h
    simp only [List.length_cons] at hi hm ⊢
    split at h
    · rename_i hr
      obtain ⟨g2, hp2, l', i1, i2, i3, i4, i5, i6⟩ := giveOA_sound l (d ++ [.froz a b c e]) h k (fun i => (hi i).imp (fun e => by rw [e]; simp) (fun e => by simp; omega)) (by simp; omega) (by simp [hd, hr])
      exact ⟨g2, hp2, .froz a b c e :: l', i1, i2, fun i => (i3 i).imp (fun e => by rw [e]; simp) (fun e => by simp at e; omega), by simp [i4], by simp [hr, i5], i6⟩
    · exact h.elim
  | .dead :: l, d, g, hp0, K, h, k, hi, hm, hd => by
    simp only [giveOA] at h
    simp only [List.length_cons] at hi hm ⊢
    split at h
    · rename_i hr
      obtain ⟨g2, hp2, l', i1, i2, i3, i4, i5, i6⟩ := giveOA_sound l (d ++ [.dead]) h k (fun i => (hi i).imp (fun e => by rw [e]; simp) (fun e => by simp; omega)) (by simp; omega) (by simp [hd, hr])
      exact ⟨g2, hp2, .dead :: l', i1, i2, fun i => (i3 i).imp (fun e => by rw [e]; simp) (fun e => by simp at e; omega), by simp [i4], by simp [hr, i5], i6⟩
    · exact h.elim
  | .hole :: l, d, g, hp0, K, h, k, hi, hm, hd => by
    simp only [giveOA] at h
    simp only [List.length_cons] at hi hm ⊢
    split at h
    · rename_i hr
      obtain ⟨g2, hp2, l', i1, i2, i3, i4, i5, i6⟩ := giveOA_sound l (d ++ [.hole]) h k (fun i => (hi i).imp (fun e => by rw [e]; simp) (fun e => by simp; omega)) (by simp; omega) (by simp [hd, hr])
      exact ⟨g2, hp2, .hole :: l', i1, i2, fun i => (i3 i).imp (fun e => by rw [e]; simp) (fun e => by simp at e; omega), by simp [i4], by simp [hr, i5], i6⟩
    · exact h.elim
theorem calls_heap {E : En} (hE : EnOK E) (hm : E.P.follows .mixedOrders = true) {f : FuncId} {fn : Func} {c : Code} (hf : E.P.funcs[f]? = some fn) (hb : fn.body = some c)
    {args : List AV} {hp : List Ob} {S : AV → List Ob → Prop} (hkp : hp.length ≤ E.keep) (hbs : hp.length ≤ E.base) (h : callA E fn args hp S) {g : Gh} (hL : LayAt E.P g) {w : World} (hR : R g w hp) {vs : List Value} (hv : VL g args vs) :
    Calls E.P f vs.toArray w fun e w' => ∃ v g' r hp', e = .returned v ∧ g.le g' ∧ R g' w' hp' ∧ V g' r v ∧ S r hp' := by
  unfold callA at h
  rw [hb] at h
  simp only at h
  have hrel : Rel g g ⟨initA fn args, hp⟩ { tmps := vs.toArray ++ Array.replicate (fn.ntmps - vs.toArray.size) undef, defers := [] } w := ⟨Gh.le.refl g, hR, hv.init, rfl⟩
  refine calls_of_wp hf hb (Code.wp_mono (fun e a w' hq => ?_) (wp_sound_E hE hm hL (fun i hi => Ids.of_le (Gh.le.refl g) hR i (by omega)) (fun i hi => Ids.of_le (Gh.le.refl g) hR i (by omega)) h hrel))
  have key : ∀ {g' : Gh} {st : St}, Rel g g' st a w' → (resA False E.P st fn.results.toList fun vs => xgcK E.xgc E.base vs st.hp fun vs hp => exitA False E.keep (tupA vs) hp S) →
      a.defers = [] ∧ ∃ v, (results fn a.tmps).run E.P w' = .ok v w' ∧ (fun e w' => ∃ v g' r hp', e = .returned v ∧ g.le g' ∧ R g' w' hp' ∧ V g' r v ∧ S r hp' : Ending → World → Prop) (.returned v) w' := by
    intro g' st hr hk
    obtain ⟨vs, cs, h1, h2, h3⟩ := results_sound hr.r hr.vl hk
    refine ⟨hr.defers, _, h1, ?_⟩
    obtain ⟨g1, vs1, hp0, x1, x2, x3, h3⟩ := xgcK_sound h3 hr.le hr.r h2 (fun i hi => Ids.of_le (Gh.le.refl g) hR i (by omega))
    unfold exitA at h3
    obtain ⟨g2, hp1, y, i1, i2, i3, i4, i5, i6, i7, -⟩ := giveA_sound _ h3 (Gv.refl E.keep x2) (resV_V x3)
    obtain ⟨g3, hp2, l', j1, j2, j3, j4, j5, j6⟩ := giveOA_sound (hp0.take E.keep) [] i6 i3 (fun i => by
      by_cases hlt : i < E.keep
      · left; rw [i7 i hlt, List.nil_append, List.getElem?_take, if_pos hlt]
      · by_cases h2 : hp0.length ≤ i
        · left
          rw [List.getElem?_eq_none (by rw [i3.len]; exact h2)]
          simp
          omega
        · right; simp; omega) (by simp; omega) rfl
    have hl' : hp2.take E.keep = l' := by
      apply List.ext_getElem?
      intro i
      rw [List.getElem?_take]
      split
      · rename_i hlt
        rcases j3 i with e | e
        · simpa using e
        · simp at e
          rw [List.getElem?_eq_none (by rw [j2.len]; omega), List.getElem?_eq_none (by rw [j4]; simp; omega)]
      · rename_i hge
        rw [List.getElem?_eq_none (by rw [j4]; simp; omega)]
    have hid : Ids g E.keep := fun i hi => Ids.of_le (Gh.le.refl g) hR i (by omega)
    have hT := j2.r.trim (m := E.keep) (by rw [hl']; exact j5)
    rw [hl'] at hT
    exact ⟨_, g3.trim E.keep, y, l', rfl, ((x1.trans i1).trans j1).trim hid, hT, (i4.mono j1).trim (.inr i5), j6⟩
  cases e with
  | normal => obtain ⟨g', st, hr, hk⟩ := hq; exact key hr hk
  | ret => obtain ⟨g', st, hr, hk⟩ := hq; exact key hr hk
  | exit id => obtain ⟨g', st, hr, hk⟩ := hq; exact hk.elim
  | goto l => exact hq.elim
  | panic ch => exact hq.elim
  | outgrown => exact hq.elim
end Go.Cx

end
