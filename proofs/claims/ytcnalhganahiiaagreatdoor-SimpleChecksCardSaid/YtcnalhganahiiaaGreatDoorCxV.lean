/- What an operation reads and writes of a heap. -/
import Derived.Test.YtcnalhganahiiaaGreatDoorCxU
namespace Go.Cx
noncomputable section
set_option linter.unusedSimpArgs false
inductive Pl where
  | len
  | ob (id : Nat)
  | cell (id k : Nat)
inductive PV where
  | n (k : Nat)
  | o (x : Option Ob)
  | a (x : Option AV)
def skel : Ob → Ob
  | .fix ty cs => .fix ty (List.replicate cs.length .junk)
  | o => o
def cellsO : Option Ob → List AV
  | some (.fix _ cs) => cs
  | _ => []
def pl (hp : List Ob) : Pl → PV
  | .len => .n hp.length
  | .ob id => .o ((hp[id]?).map skel)
  | .cell id k => .a (cellsO hp[id]?)[k]?
theorem skel_fix {o : Ob} {ty : TypeId} {cs : List AV} (h : skel o = .fix ty cs) : ∃ cs', o = .fix ty cs' ∧ cs = List.replicate cs'.length .junk := by
  cases o with
  | fix t c => simp only [skel, Ob.fix.injEq] at h; exact ⟨c, by rw [h.1], h.2.symm⟩
  | _ => simp [skel] at h
theorem ob_fix {hp h2 : List Ob} {id : Nat} {ty : TypeId} {cs : List AV} (e : pl h2 (.ob id) = pl hp (.ob id)) (h : hp[id]? = some (.fix ty cs)) : ∃ cs2, h2[id]? = some (.fix ty cs2) ∧ cs2.length = cs.length := by
  simp only [pl, PV.o.injEq, h, Option.map_some, Option.map_eq_some_iff] at e
  obtain ⟨o, h1, h3⟩ := e
  obtain ⟨cs', rfl, h4⟩ := skel_fix h3
  refine ⟨cs', h1, ?_⟩
  have := congrArg List.length h4
  simpa using this.symm
theorem ob_eq {hp h2 : List Ob} {id : Nat} (e : pl h2 (.ob id) = pl hp (.ob id)) (h : ∀ ty cs, hp[id]? ≠ some (.fix ty cs)) : h2[id]? = hp[id]? := by
  simp only [pl, PV.o.injEq] at e
  cases h1 : hp[id]? with
  | none => rw [h1] at e; simpa using e
  | some o =>
    rw [h1] at e
    simp only [Option.map_some, Option.map_eq_some_iff] at e
    obtain ⟨o2, h2', h3⟩ := e
    rw [h2']
    cases o with
    | fix ty cs => exact absurd h1 (h ty cs)
    | _ => cases o2 <;> simp_all [skel]
theorem pl_ext {h h2 : List Ob} (e : ∀ p, pl h2 p = pl h p) : h2 = h := by
  apply List.ext_getElem?
  intro i
  cases h1 : h[i]? with
  | none =>
    have := e (.ob i)
    simp only [pl, h1, Option.map_none, PV.o.injEq, Option.map_eq_none_iff] at this
    exact this
  | some o =>
    by_cases hf : ∃ ty cs, o = .fix ty cs
    · obtain ⟨ty, cs, rfl⟩ := hf
      obtain ⟨cs2, h3, h4⟩ := ob_fix (e (.ob i)) h1
      rw [h3]
      have : cs2 = cs := by
        apply List.ext_getElem?
        intro k
        have := e (.cell i k)
        simpa [pl, h1, h3, cellsO] using this
      rw [this]
    · have := ob_eq (e (.ob i)) (fun ty cs hh => hf ⟨ty, cs, by rw [h1] at hh; exact Option.some.inj hh⟩)
      rw [this, h1]
def Spot.has : Spot → Pl → Prop
  | .ob i, .ob j => i = j
  | .rng i lo n, .cell j k => i = j ∧ lo ≤ k ∧ k < lo + n
  | .all i, .ob j => i = j
  | .all i, .cell j _ => i = j
  | .new _, .len => True
  | .new n, .ob j => n ≤ j
  | .new n, .cell j _ => n ≤ j
  | _, _ => False
def hasL (l : List Spot) (p : Pl) : Prop := ∃ s ∈ l, s.has p
theorem nbeq_false {a b : Nat} (h : Nat.beq a b = false) : a ≠ b := fun e => by subst e; simp [Nat.beq_refl] at h
theorem nble_false {a b : Nat} (h : Nat.ble a b = false) : ¬ a ≤ b := fun e => by rw [← Nat.ble_eq] at e; rw [e] at h; simp at h
theorem meet_spec {a b : Spot} (h : a.meet b = false) (p : Pl) : ¬ (a.has p ∧ b.has p) := by
  rintro ⟨h1, h2⟩
  cases a with
  | ob i =>
    cases b with
    | ob j => cases p <;> simp only [Spot.has] at h1 h2; exact nbeq_false h (h1.trans h2.symm)
    | rng j lo n => cases p <;> simp only [Spot.has] at h1 h2
    | all j => cases p <;> simp only [Spot.has] at h1 h2; exact nbeq_false h (h1.trans h2.symm)
    | new n => cases p <;> simp only [Spot.has] at h1 h2; exact nble_false h (by omega)
  | rng i lo n =>
    cases b with
    | ob j => cases p <;> simp only [Spot.has] at h1 h2
    | rng j lo' n' =>
      cases p <;> simp only [Spot.has] at h1 h2
      obtain ⟨rfl, a1, a2⟩ := h1
      obtain ⟨rfl, b1, b2⟩ := h2
      simp only [Spot.meet, Nat.beq_refl, Bool.true_and, Bool.and_eq_false_iff] at h
      rcases h with h | h
      · rw [← Bool.not_eq_true, Nat.blt_eq] at h; omega
      · rw [← Bool.not_eq_true, Nat.blt_eq] at h; omega
    | all j => cases p <;> simp only [Spot.has] at h1 h2; exact nbeq_false h (h1.1.trans h2.symm)
    | new m => cases p <;> simp only [Spot.has] at h1 h2; exact nble_false h (by omega)
  | all i =>
    cases b with
    | ob j => cases p <;> simp only [Spot.has] at h1 h2; exact nbeq_false h (h1.trans h2.symm)
    | rng j lo n => cases p <;> simp only [Spot.has] at h1 h2; exact nbeq_false h (h1.trans h2.1.symm)
    | all j => cases p <;> simp only [Spot.has] at h1 h2 <;> exact nbeq_false h (h1.trans h2.symm)
    | new n => cases p <;> simp only [Spot.has] at h1 h2 <;> exact nble_false h (by omega)
  | new n =>
    cases b with
    | ob j => cases p <;> simp only [Spot.has] at h1 h2; exact nble_false h (by omega)
    | rng j lo m => cases p <;> simp only [Spot.has] at h1 h2; exact nble_false h (by omega)
    | all j => cases p <;> simp only [Spot.has] at h1 h2 <;> exact nble_false h (by omega)
    | new m => simp [Spot.meet] at h
theorem meetL_spec {l l' : List Spot} (h : meetL l l' = false) (p : Pl) : ¬ (hasL l p ∧ hasL l' p) := by
  rintro ⟨⟨a, ha, h1⟩, b, hb, h2⟩
  simp only [meetL, List.any_eq_false] at h
  have := h a ha
  rw [Bool.not_eq_true, List.any_eq_false] at this
  have := this b hb
  rw [Bool.not_eq_true] at this
  exact meet_spec this p ⟨h1, h2⟩
def Ft.rds (c : Ft) (p : Pl) : Prop := match c.f with
  | some (R, _) => hasL R p
  | none => c.c ≠ .pure
def Ft.wrs (c : Ft) (p : Pl) : Prop := match c.f with
  | some (_, W) => hasL W p
  | none => c.c.isWrite = true
theorem meet1_spec {a b : Ft} (h : meet1 a b = false) (p : Pl) : ¬ (a.wrs p ∧ (b.rds p ∨ b.wrs p)) := by
  rintro ⟨h1, h2⟩
  unfold meet1 at h
  unfold Ft.wrs at h1
  obtain ⟨ca, fa⟩ := a
  obtain ⟨cb, fb⟩ := b
  cases fa with
  | none =>
    simp only at h h1
    rw [h1] at h
    simp only [Bool.true_and] at h
    cases fb with
    | none => cases cb <;> simp_all [Cls.isPure, Ft.rds, Ft.wrs, Cls.isWrite]
    | some x => simp at h
  | some x =>
    obtain ⟨R, W⟩ := x
    simp only at h h1
    cases fb with
    | none =>
      simp only [Bool.and_eq_false_iff, Bool.not_eq_false'] at h
      rcases h with h | h
      · cases cb <;> simp_all [Cls.isPure, Ft.rds, Ft.wrs, Cls.isWrite]
      · obtain ⟨s, hs, -⟩ := h1
        simp only [List.isEmpty_iff] at h
        subst h; simp at hs
    | some y =>
      obtain ⟨R', W'⟩ := y
      simp only [Bool.or_eq_false_iff] at h
      simp only [Ft.rds, Ft.wrs] at h2
      rcases h2 with h2 | h2
      · exact meetL_spec h.1 p ⟨h1, h2⟩
      · exact meetL_spec h.2 p ⟨h1, h2⟩
def Frame (F : List Ob → Option (AV × List Ob × Cls)) (rds wrs : Pl → Prop) (hp : List Ob) (v : AV) (hp' : List Ob) (c : Cls) : Prop :=
  ∀ h2, (∀ p, rds p → pl h2 p = pl hp p) → ∃ h2', F h2 = some (v, h2', c) ∧ ∀ p, (wrs p → pl h2' p = pl hp' p) ∧ (¬ wrs p → pl h2' p = pl h2 p)
theorem setRange_get : ∀ (vs cs : List AV) (off k : Nat), off + vs.length ≤ cs.length → (setRange cs off vs)[k]? = if off ≤ k ∧ k < off + vs.length then vs[k - off]? else cs[k]?
  | [], cs, off, k, h => by simp [setRange]; intro h1 h2; omega
  | v :: vs, cs, off, k, h => by
    simp only [List.length_cons] at h
    rw [setRange, setRange_get vs (cs.set off v) (off + 1) k (by simp; omega)]
    by_cases h1 : off = k
    · subst h1
      rw [if_neg (by omega), if_pos (by simp)]
      simp [List.getElem?_set, show off < cs.length by omega]
    · by_cases h2 : off + 1 ≤ k ∧ k < off + 1 + vs.length
      · rw [if_pos h2, if_pos (by simp; omega)]
        rw [show k - off = (k - (off + 1)) + 1 by omega]
        simp
      · rw [if_neg h2, if_neg (by simp; omega), List.getElem?_set, if_neg h1]
theorem setRange_len : ∀ (vs cs : List AV) (off : Nat), (setRange cs off vs).length = cs.length
  | [], cs, off => rfl
  | v :: vs, cs, off => by rw [setRange, setRange_len vs]; simp
theorem fromCells_eq {α : Type} {bad : α} {P : Program} {t : TypeId} {cs cs2 : List AV} {off : Nat} {K : AV → α} (hl : cs2.length = cs.length)
    (h : ∀ k, off ≤ k → k < off + max 1 (sizeA P t) → cs2[k]? = cs[k]?) : fromCells bad P t cs2 off K = fromCells bad P t cs off K := by
  have e1 : (cs2.drop off).take (sizeA P t) = (cs.drop off).take (sizeA P t) := by
    apply List.ext_getElem?
    intro k
    simp only [List.getElem?_take, List.getElem?_drop]
    split
    · exact h _ (by omega) (by omega)
    · rfl
  have e2 : cs2[off]? = cs[off]? := h off (Nat.le_refl _) (by omega)
  unfold fromCells
  rw [e1, e2, hl]
theorem cell_eq {hp h2 : List Ob} {id : Nat} {ty ty2 : TypeId} {cs cs2 : List AV} (h : hp[id]? = some (.fix ty cs)) (h' : h2[id]? = some (.fix ty2 cs2)) {k : Nat} (e : pl h2 (.cell id k) = pl hp (.cell id k)) : cs2[k]? = cs[k]? := by
  simpa [pl, h, h', cellsO] using e
theorem pl_set {hp : List Ob} {id : Nat} {o : Ob} (h : id < hp.length) (p : Pl) : pl (hp.set id o) p = match p with
    | .len => pl hp .len
    | .ob j => if id = j then .o (some (skel o)) else pl hp (.ob j)
    | .cell j k => if id = j then .a (cellsO (some o))[k]? else pl hp (.cell j k) := by
  cases p with
  | len => simp [pl]
  | ob j =>
    simp only [pl, List.getElem?_set]
    split
    · rename_i e; subst e; simp [h]
    · rfl
  | cell j k =>
    simp only [pl, List.getElem?_set]
    split
    · rename_i e; subst e; simp [h]
    · rfl
theorem setRange_one' {vs cs : List AV} {off : Nat} : (List.replicate (setRange cs off vs).length AV.junk) = List.replicate cs.length .junk := by rw [setRange_len]
theorem store_frame {P : Program} {t : TypeId} {a x : AV} {hp hp' : List Ob} {R W : List Spot}
    (hf : (match (generalizing := false) a with | .ptr id off => some ([Spot.ob id], [Spot.rng id off (cells x).length]) | .optr id _ _ _ _ _ => some ([.ob id], [.ob id]) | _ => none) = some (R, W))
    (h : storeA none P t a x hp some = some hp') : ∀ h2, (∀ p, hasL R p → pl h2 p = pl hp p) → ∃ h2', storeA none P t a x h2 some = some h2' ∧ ∀ p, (hasL W p → pl h2' p = pl hp' p) ∧ (¬ hasL W p → pl h2' p = pl h2 p) := by
  intro h2 hR
  unfold storeA at h ⊢
  split at h
  · rename_i hc
    rw [if_pos hc]
    split at h
    · rename_i id off
      simp only [Option.some.injEq, Prod.mk.injEq] at hf
      obtain ⟨rfl, rfl⟩ := hf
      split at h
      · rename_i ty cs hcs
        split at h
        · rename_i hle
          simp only [Option.some.injEq] at h
          subst h
          obtain ⟨cs2, h3, h4⟩ := ob_fix (hR (.ob id) ⟨_, List.mem_cons_self, rfl⟩) hcs
          simp only [h3]
          rw [if_pos (by omega)]
          refine ⟨_, rfl, fun p => ?_⟩
          have l1 := (List.getElem?_eq_some_iff.1 h3).1
          have l2 := (List.getElem?_eq_some_iff.1 hcs).1
          have ne : ∀ j, id = j → (match (generalizing := false) h2[j]? with | some o => skel o | none => .dead) = .fix ty (List.replicate cs2.length .junk) := by
            intro j e; subst e; rw [h3]; rfl
          constructor
          · rintro ⟨s, hs, hp⟩
            simp only [List.mem_singleton] at hs
            subst hs
            cases p with
            | len => exact hp.elim
            | ob j => exact hp.elim
            | cell j k =>
              obtain ⟨rfl, hk⟩ := hp
              rw [pl_set l1, pl_set l2]
              simp only [if_true, cellsO]
              rw [setRange_get _ _ _ _ (by omega), setRange_get _ _ _ _ hle, if_pos hk, if_pos hk]
          · intro hn
            rw [pl_set l1]
            cases p with
            | len => rfl
            | ob j =>
              simp only
              split
              · rename_i e; subst e
                simp only [pl, h3, skel, setRange_len, Option.map_some]
              · rfl
            | cell j k =>
              simp only
              split
              · rename_i e; subst e
                have : ¬ (off ≤ k ∧ k < off + (cells x).length) := fun hk => hn ⟨_, List.mem_singleton.2 rfl, rfl, hk⟩
                simp only [cellsO, pl, h3]
                rw [setRange_get _ _ _ _ (by omega), if_neg this]
              · rfl
        · simp at h
      · simp at h
    · rename_i id ver len sz i j
      simp only [Option.some.injEq, Prod.mk.injEq] at hf
      obtain ⟨rfl, rfl⟩ := hf
      have hid := hR (.ob id) ⟨_, List.mem_cons_self, rfl⟩
      have hb := grown_inv h
      obtain ⟨ty, sz', sh, xs, he, hlen, hb⟩ := hb
      have e := ob_eq hid (fun ty cs hh => by rw [he] at hh; simp at hh)
      have hg : ∀ {α : Type} (K : TypeId → Nat → Sh → List AV → Option α), grown none h2 id ver len K = grown none hp id ver len K := fun K => by unfold grown; rw [e]
      rw [hg]
      obtain ⟨q1, q2, hb⟩ := ask_some2 hb
      split at hb
      · rename_i v' hv
        split at hb
        · rename_i hj
          simp only [Option.some.injEq] at hb
          subst hb
          unfold grown
          subst hlen
          simp only [he, q1, q2, hv, beq_self_eq_true, ask, cond_true]
          rw [if_pos hj]
          refine ⟨_, rfl, fun p => ?_⟩
          have l2 := (List.getElem?_eq_some_iff.1 he).1
          have l1 := (List.getElem?_eq_some_iff.1 (e.trans he)).1
          constructor
          · rintro ⟨s, hs, hp⟩
            simp only [List.mem_singleton] at hs
            subst hs
            cases p with
            | len => exact hp.elim
            | cell j k => exact hp.elim
            | ob j =>
              simp only [Spot.has] at hp
              subst hp
              rw [pl_set l1, pl_set l2]
              simp
          · intro hn
            rw [pl_set l1]
            cases p with
            | len => rfl
            | ob j =>
              simp only
              split
              · rename_i e; subst e
                exact absurd ⟨_, List.mem_singleton.2 rfl, rfl⟩ hn
              · rfl
            | cell j k =>
              simp only
              split
              · rename_i e'; subst e'
                simp only [cellsO, pl, e, he]
              · rfl
        · simp at hb
      · simp at hb
    · simp at hf
  · simp at h
theorem load_frame {P : Program} {t : TypeId} {a v : AV} {hp : List Ob} {c : Cls} {R W : List Spot}
    (hf : (match (generalizing := false) a with | .ptr id off => some ([Spot.ob id, .rng id off (max 1 (sizeA P t))], ([] : List Spot)) | .optr id _ _ _ _ _ => some ([.ob id], []) | _ => none) = some (R, W))
    (h : loadA none P t a hp (fun v c => some (v, c)) = some (v, c)) : W = [] ∧ ∀ h2, (∀ p, hasL R p → pl h2 p = pl hp p) → loadA none P t a h2 (fun v c => some (v, c)) = some (v, c) := by
  unfold loadA at h ⊢
  split at h
  · rename_i id off
    simp only [Option.some.injEq, Prod.mk.injEq] at hf
    obtain ⟨rfl, rfl⟩ := hf
    refine ⟨rfl, fun h2 hR => ?_⟩
    split at h
    · rename_i ty cs hcs
      obtain ⟨cs2, h3, h4⟩ := ob_fix (hR (.ob id) ⟨_, List.mem_cons_self, rfl⟩) hcs
      simp only [h3]
      rw [← h]
      refine fromCells_eq h4 fun k k1 k2 => cell_eq hcs h3 (hR (.cell id k) ⟨_, List.mem_cons_of_mem _ List.mem_cons_self, rfl, k1, k2⟩)
    · simp at h
  · simp at hf
  · rename_i id ver len sz i j
    simp only [Option.some.injEq, Prod.mk.injEq] at hf
    obtain ⟨rfl, rfl⟩ := hf
    refine ⟨rfl, fun h2 hR => ?_⟩
    obtain ⟨sz', sh, xs, he, hl, hk⟩ := grownR_inv h
    have e := ob_eq (hR (.ob id) ⟨_, List.mem_cons_self, rfl⟩) (fun ty cs hh => by rcases he with ⟨_, he⟩ | he <;> (rw [he] at hh; simp at hh))
    simp only [grownR, e]
    exact h
  · simp at h
theorem set_frame {hp h2 : List Ob} {id : Nat} {o1 o2 : Ob} (l1 : hp[id]? = some o1) (l2 : h2[id]? = some o1) (hn : ∀ ty cs, o1 ≠ .fix ty cs) (hn2 : ∀ ty cs, o2 ≠ .fix ty cs) (p : Pl) :
    (hasL [.ob id] p → pl (h2.set id o2) p = pl (hp.set id o2) p) ∧ (¬ hasL [.ob id] p → pl (h2.set id o2) p = pl h2 p) := by
  have a1 := (List.getElem?_eq_some_iff.1 l1).1
  have a2 := (List.getElem?_eq_some_iff.1 l2).1
  have no : ∀ o : Ob, (∀ ty cs, o ≠ .fix ty cs) → cellsO (some o) = [] := by
    intro o ho
    cases o with
    | fix ty cs => exact absurd rfl (ho ty cs)
    | _ => rfl
  constructor
  · rintro ⟨s, hs, hp⟩
    simp only [List.mem_singleton] at hs
    subst hs
    cases p with
    | len => exact hp.elim
    | cell j k => exact hp.elim
    | ob j =>
      simp only [Spot.has] at hp
      subst hp
      rw [pl_set a1, pl_set a2]
      simp
  · intro hnp
    rw [pl_set a2]
    cases p with
    | len => rfl
    | ob j =>
      simp only
      split
      · rename_i e; subst e
        exact absurd ⟨_, List.mem_singleton.2 rfl, rfl⟩ hnp
      · rfl
    | cell j k =>
      simp only
      split
      · rename_i e'; subst e'
        simp only [pl, l2, no _ hn, no _ hn2]
      · rfl
theorem src_eq {β : Type} {x : AV} {hp h2 : List Ob} (h : ∀ id ver len, x = .oslice id ver len → h2[id]? = hp[id]?) (K : Option (Nat × Sh) → List AV → Cls → Option β) : srcA none h2 x K = srcA none hp x K := by
  unfold srcA elems
  cases x with
  | oslice id ver len => simp only [grownR, h id ver len rfl]
  | _ => rfl
theorem append_frame {P : Program} {t tx : TypeId} {id ver len : Nat} {x v : AV} {hp hp' : List Ob} {c : Cls} {R W : List Spot}
    (hf : (match (generalizing := false) x with | .oslice id2 _ _ => some ([Spot.ob id, .ob id2], [Spot.ob id]) | _ => some ([.ob id], [.ob id])) = some (R, W))
    (h : appendB none P t tx (.oslice id ver len) x hp (fun v h c => some (v, h, c)) = some (v, hp', c)) : Frame (fun hp => appendB none P t tx (.oslice id ver len) x hp (fun v h c => some (v, h, c))) (hasL R) (hasL W) hp v hp' c := by
  intro h2 hR
  have hRid : pl h2 (.ob id) = pl hp (.ob id) := hR _ (by
    cases x <;> simp only [Option.some.injEq, Prod.mk.injEq] at hf <;> (rw [← hf.1]; exact ⟨_, List.mem_cons_self, rfl⟩))
  have hW : W = [.ob id] := by cases x <;> simp only [Option.some.injEq, Prod.mk.injEq] at hf <;> exact hf.2.symm
  subst hW
  unfold appendB at h
  split at h
  · rename_i e htk
    simp only at h
    split at h
    · simp at h
    · rename_i hcond
      have hx : ∀ id' ver len, x = .oslice id' ver len → h2[id']? = hp[id']? := by
        intro id' ver' len' hx
        subst hx
        simp only [Option.some.injEq, Prod.mk.injEq] at hf
        have hp2 := hR (.ob id') (by rw [← hf.1]; exact ⟨_, List.mem_cons_of_mem _ List.mem_cons_self, rfl⟩)
        refine ob_eq hp2 fun ty cs hh => ?_
        unfold srcA elems at h
        obtain ⟨_, _, _, he, _⟩ := grownR_inv h
        rcases he with ⟨_, he⟩ | he <;> (rw [he] at hh; simp at hh)
      have key : ∀ {how : Option (Nat × Sh)} {ys : List AV} {cl : Cls}, appK P e (.oslice id ver len) how ys cl hp = some (v, hp', c) →
          ∃ h2', appK P e (.oslice id ver len) how ys cl h2 = some (v, h2', c) ∧ ∀ p, (hasL [.ob id] p → pl h2' p = pl hp' p) ∧ (¬ hasL [.ob id] p → pl h2' p = pl h2 p) := by
        intro how ys cl hk
        unfold appK at hk ⊢
        split at hk
        · rename_i hhow
          rw [if_pos hhow]
          simp only at hk ⊢
          obtain ⟨tyo, sz', sh', xs, hg, hlen, hk'⟩ := grown_inv hk
          have e := ob_eq hRid (fun ty cs hh => by rw [hg] at hh; simp at hh)
          have hgr : ∀ {α : Type} (K : TypeId → Nat → Sh → List AV → Option α), grown none h2 id ver len K = grown none hp id ver len K := fun K => by unfold grown; rw [e]
          rw [hgr]
          split at hk'
          · rename_i hm
            split at hk'
            · rename_i z hz
              split at hk'
              · rename_i hs
                obtain ⟨q1, q2⟩ := ask_some hk'
                simp only [Option.some.injEq, Prod.mk.injEq] at q2
                obtain ⟨rfl, rfl, rfl⟩ := q2
                subst hlen
                unfold grown
                simp only [hg, beq_self_eq_true, ask, cond_true]
                rw [if_pos hm]
                rw [if_pos hs]
                simp only [q1, cond_true]
                refine ⟨_, rfl, fun p => ?_⟩
                exact set_frame hg (e.trans hg) (fun _ _ => by simp) (fun _ _ => by simp) p
              · simp at hk'
            · simp at hk'
          · simp at hk'
        · simp at hk
      have src2 : ∀ {K : Option (Nat × Sh) → List AV → Cls → Option (AV × List Ob × Cls)}, srcA none hp x K = some (v, hp', c) → ∃ how ys cl, K how ys cl = some (v, hp', c) ∧ ∀ {β : Type} (K' : Option (Nat × Sh) → List AV → Cls → Option β), srcA none hp x K' = K' how ys cl := by
        intro K hs
        unfold srcA at hs ⊢
        split at hs
        · exact ⟨_, _, _, hs, fun _ => rfl⟩
        · exact ⟨_, _, _, hs, fun _ => rfl⟩
        · rename_i hne1 hne2
          obtain ⟨sz, sh, xs, cl, he', hk⟩ := elems_cps hs
          refine ⟨_, _, _, hk, fun K' => ?_⟩
          have hh := elems_hom (fun r : Option (Nat × Sh × List AV × Cls) => r.bind fun r => K' (some (r.1, r.2.1)) r.2.2.1 r.2.2.2) none (hp := hp) x (fun a b d e => some (a, b, d, e))
          simp only [Option.bind_none, Option.bind_some] at hh
          rw [he'] at hh
          simp only [Option.bind_some] at hh
          exact hh.symm
      obtain ⟨how, ys, cl, hk, hall⟩ := src2 h; clear h src2
      obtain ⟨h2', k1, k2⟩ := key (cl := cl) hk
      refine ⟨h2', ?_, k2⟩
      show appendB none P t tx (.oslice id ver len) x h2 _ = _
      unfold appendB
      rw [htk]
      simp only [if_neg hcond]
      rw [src_eq hx, hall]
      exact k1
  · simp at h
theorem giveUp_frame {id ver len : Nat} {hp h2 hp' : List Ob} {y : AV} (h : giveUpA none (.oslice id ver len) hp (fun v hp _ => some (v, hp)) = some (y, hp')) (e0 : pl h2 (.ob id) = pl hp (.ob id)) :
    ∃ h2', giveUpA none (.oslice id ver len) h2 (fun v hp _ => some (v, hp)) = some (y, h2') ∧ (∀ p, p = .ob id → pl h2' p = pl hp' p) ∧ (∀ p, p ≠ .ob id → pl h2' p = pl h2 p) ∧ (∀ p, p ≠ .ob id → pl hp' p = pl hp p) := by
  unfold giveUpA at h ⊢
  simp only at h ⊢
  have hx : ∀ p, hasL [.ob id] p ↔ p = .ob id := by
    intro p
    constructor
    · rintro ⟨s, hs, hp⟩
      simp only [List.mem_singleton] at hs
      subst hs
      cases p <;> simp only [Spot.has] at hp; rw [hp]
    · rintro rfl; exact ⟨_, List.mem_singleton.2 rfl, rfl⟩
  split at h
  · rename_i hf
    obtain ⟨sz, sh, xs, he, hl, hk⟩ := grownR_inv h
    have e := ob_eq e0 (fun ty cs hh => by rcases he with ⟨_, he⟩ | he <;> (rw [he] at hh; simp at hh))
    have hf2 : isFroz h2 id = true := by unfold isFroz at hf ⊢; rw [e]; exact hf
    rw [if_pos hf2]
    simp only [Option.some.injEq, Prod.mk.injEq] at hk
    obtain ⟨rfl, rfl⟩ := hk
    have := grownR_inv h
    refine ⟨h2, ?_, fun p hp => ?_, fun _ _ => rfl, fun _ _ => rfl⟩
    · have : grownR none h2 id ver len (fun sz sh xs => some (AV.slice sz sh xs .ro, h2)) = (grownR none hp id ver len (fun sz sh xs => some (AV.slice sz sh xs .ro, hp))).map fun r => (r.1, h2) := by
        have cc : ∀ (a b : Bool) (x : AV), (cond a (cond b (some (x, h2)) none) none) = Option.map (fun r => (r.1, h2)) (cond a (cond b (some (x, hp)) none) none) := by
          intro a b x; cases a <;> cases b <;> rfl
        simp only [grownR, e]
        split
        · exact cc _ _ _
        · exact cc _ _ _
        · rfl
      rw [this, h]; rfl
    · subst hp; exact e0
  · rename_i hf
    obtain ⟨ty, sz, sh, xs, he, hl, hk⟩ := grown_inv h
    have e := ob_eq e0 (fun ty cs hh => by rw [he] at hh; simp at hh)
    have hf2 : ¬ isFroz h2 id = true := by unfold isFroz at hf ⊢; rw [e]; exact hf
    rw [if_neg hf2]
    simp only [Option.some.injEq, Prod.mk.injEq] at hk
    obtain ⟨rfl, rfl⟩ := hk
    subst hl
    have s1 := fun p => set_frame (o2 := .froz ver sz sh xs) he (e.trans he) (fun _ _ => by simp) (fun _ _ => by simp) p
    have s2 := fun p => set_frame (o2 := .froz ver sz sh xs) he he (fun _ _ => by simp) (fun _ _ => by simp) p
    refine ⟨h2.set id (.froz ver sz sh xs), ?_, fun p hp => (s1 p).1 ((hx p).2 hp), fun p hp => (s1 p).2 (fun hh => hp ((hx p).1 hh)), fun p hp => (s2 p).2 (fun hh => hp ((hx p).1 hh))⟩
    unfold grown
    rw [e, he]
    simp [ask]
mutual
theorem frzV_frame : ∀ (x : AV) {hp h2 hp' : List Ob} {y : AV} {L : List Nat}, (∀ i ∈ oslV x, i ∈ L) → frzVA none x hp (fun y h => some (y, h)) = some (y, hp') → (∀ i ∈ L, pl h2 (.ob i) = pl hp (.ob i)) →
    ∃ h2', frzVA none x h2 (fun y h => some (y, h)) = some (y, h2') ∧ (∀ i ∈ L, pl h2' (.ob i) = pl hp' (.ob i)) ∧ (∀ p, (∀ i ∈ oslV x, p ≠ .ob i) → pl h2' p = pl h2 p)
  | .oslice id ver len, hp, h2, hp', y, L, hL, h, hR => by
    have hid : id ∈ L := hL id (by simp [oslV])
    unfold frzVA at h ⊢
    obtain ⟨h2', k1, k2, k3, k4⟩ := giveUp_frame h (hR id hid)
    refine ⟨h2', k1, fun i hi => ?_, fun p hp => k3 p (hp id (by simp [oslV]))⟩
    by_cases e : Pl.ob i = .ob id
    · exact k2 _ e
    · rw [k3 _ e, k4 _ e]; exact hR i hi
  | .agg cs, hp, h2, hp', y, L, hL, h, hR => by
    have hb : ∀ h0, frzVA none (.agg cs) h0 (fun y h => some (y, h)) = (frzVL none cs h0 (fun y h => some (y, h))).bind fun r => some (.agg r.1, r.2) := by
      intro h0
      have := frzVL_hom (fun r : Option (List AV × List Ob) => r.bind fun r => some (AV.agg r.1, r.2)) none cs h0 (fun y h => some (y, h))
      simp only [Option.bind_none, Option.bind_some] at this
      rw [this]; unfold frzVA; rfl
    rw [hb, Option.bind_eq_some_iff] at h
    obtain ⟨⟨ys, hq⟩, h1, h3⟩ := h
    simp only [Option.some.injEq, Prod.mk.injEq] at h3
    obtain ⟨rfl, rfl⟩ := h3
    obtain ⟨h2', k1, k2, k3⟩ := frzL_frame cs (L := L) (fun i hi => hL i (by simpa [oslV] using hi)) h1 hR
    exact ⟨h2', by rw [hb, k1]; rfl, k2, fun p hp => k3 p (fun i hi => hp i (by simpa [oslV] using hi))⟩
  | .int .., hp, h2, hp', y, L, hL, h, hR | .bool .., hp, h2, hp', y, L, hL, h, hR | .str .., hp, h2, hp', y, L, hL, h, hR | .ptr .., hp, h2, hp', y, L, hL, h, hR
  | .nilptr, hp, h2, hp', y, L, hL, h, hR | .rptr .., hp, h2, hp', y, L, hL, h, hR | .nilsl, hp, h2, hp', y, L, hL, h, hR | .slice .., hp, h2, hp', y, L, hL, h, hR
  | .fslice .., hp, h2, hp', y, L, hL, h, hR | .optr .., hp, h2, hp', y, L, hL, h, hR | .func .., hp, h2, hp', y, L, hL, h, hR | .nilfunc, hp, h2, hp', y, L, hL, h, hR
  | .tuple .., hp, h2, hp', y, L, hL, h, hR | .nilIface, hp, h2, hp', y, L, hL, h, hR | .junk, hp, h2, hp', y, L, hL, h, hR => by
    simp only [frzVA, Option.some.injEq, Prod.mk.injEq] at h ⊢
    obtain ⟨rfl, rfl⟩ := h
    exact ⟨h2, ⟨rfl, rfl⟩, hR, fun _ _ => rfl⟩
theorem frzL_frame : ∀ (l : List AV) {hp h2 hp' : List Ob} {y : List AV} {L : List Nat}, (∀ i ∈ oslL l, i ∈ L) → frzVL none l hp (fun y h => some (y, h)) = some (y, hp') → (∀ i ∈ L, pl h2 (.ob i) = pl hp (.ob i)) →
    ∃ h2', frzVL none l h2 (fun y h => some (y, h)) = some (y, h2') ∧ (∀ i ∈ L, pl h2' (.ob i) = pl hp' (.ob i)) ∧ (∀ p, (∀ i ∈ oslL l, p ≠ .ob i) → pl h2' p = pl h2 p)
  | [], hp, h2, hp', y, L, hL, h, hR => by
    simp only [frzVL, Option.some.injEq, Prod.mk.injEq] at h ⊢
    obtain ⟨rfl, rfl⟩ := h
    exact ⟨h2, ⟨rfl, rfl⟩, hR, fun _ _ => rfl⟩
  | x :: l, hp, h2, hp', y, L, hL, h, hR => by
    have hb : ∀ h0, frzVL none (x :: l) h0 (fun y h => some (y, h)) = (frzVA none x h0 (fun y h => some (y, h))).bind fun r => (frzVL none l r.2 (fun y h => some (y, h))).bind fun q => some (r.1 :: q.1, q.2) := by
      intro h0
      have := frzVA_hom (fun r : Option (AV × List Ob) => r.bind fun r => (frzVL none l r.2 (fun y h => some (y, h))).bind fun q => some (r.1 :: q.1, q.2)) none x h0 (fun y h => some (y, h))
      simp only [Option.bind_none, Option.bind_some] at this
      rw [this, frzVL]
      congr 1
      funext y hp
      have := frzVL_hom (fun q : Option (List AV × List Ob) => q.bind fun q => some (y :: q.1, q.2)) none l hp (fun y h => some (y, h))
      simp only [Option.bind_none, Option.bind_some] at this
      exact this.symm
    rw [hb, Option.bind_eq_some_iff] at h
    obtain ⟨⟨a, hq⟩, h1, h3⟩ := h
    simp only [Option.bind_eq_some_iff] at h3
    obtain ⟨⟨b, hq2⟩, h4, h5⟩ := h3
    simp only [Option.some.injEq, Prod.mk.injEq] at h5
    obtain ⟨rfl, rfl⟩ := h5
    obtain ⟨g1, k1, k2, k3⟩ := frzV_frame x (L := L) (fun i hi => hL i (by simp [oslL, hi])) h1 hR
    obtain ⟨g2, j1, j2, j3⟩ := frzL_frame l (L := L) (fun i hi => hL i (by simp [oslL, hi])) h4 k2
    refine ⟨g2, ?_, j2, fun p hp => ?_⟩
    · rw [hb, k1]; simp only [Option.bind_some]; rw [j1]; rfl
    · rw [j3 p (fun i hi => hp i (by simp [oslL, hi])), k3 p (fun i hi => hp i (by simp [oslL, hi]))]
end
theorem frzPs_frame : ∀ (l : List (Nat × AV)) {hp h2 hp' : List Ob} {y : List (Nat × AV)} {L : List Nat}, (∀ i ∈ oslL (l.map (·.2)), i ∈ L) → frzPs none l hp (fun y h => some (y, h)) = some (y, hp') → (∀ i ∈ L, pl h2 (.ob i) = pl hp (.ob i)) →
    ∃ h2', frzPs none l h2 (fun y h => some (y, h)) = some (y, h2') ∧ (∀ i ∈ L, pl h2' (.ob i) = pl hp' (.ob i)) ∧ (∀ p, (∀ i ∈ oslL (l.map (·.2)), p ≠ .ob i) → pl h2' p = pl h2 p)
  | [], hp, h2, hp', y, L, hL, h, hR => by
    simp only [frzPs, Option.some.injEq, Prod.mk.injEq] at h ⊢
    obtain ⟨rfl, rfl⟩ := h
    exact ⟨h2, ⟨rfl, rfl⟩, hR, fun _ _ => rfl⟩
  | (i, x) :: l, hp, h2, hp', y, L, hL, h, hR => by
    have hb : ∀ h0, frzPs none ((i, x) :: l) h0 (fun y h => some (y, h)) = (frzVA none x h0 (fun y h => some (y, h))).bind fun r => (frzPs none l r.2 (fun y h => some (y, h))).bind fun q => some ((i, r.1) :: q.1, q.2) := by
      intro h0
      have := frzVA_hom (fun r : Option (AV × List Ob) => r.bind fun r => (frzPs none l r.2 (fun y h => some (y, h))).bind fun q => some ((i, r.1) :: q.1, q.2)) none x h0 (fun y h => some (y, h))
      simp only [Option.bind_none, Option.bind_some] at this
      rw [this, frzPs]
      congr 1
      funext y hp
      have := frzPs_hom (fun q : Option (List (Nat × AV) × List Ob) => q.bind fun q => some ((i, y) :: q.1, q.2)) none l hp (fun y h => some (y, h))
      simp only [Option.bind_none, Option.bind_some] at this
      exact this.symm
    rw [hb, Option.bind_eq_some_iff] at h
    obtain ⟨⟨a, hq⟩, h1, h3⟩ := h
    simp only [Option.bind_eq_some_iff] at h3
    obtain ⟨⟨b, hq2⟩, h4, h5⟩ := h3
    simp only [Option.some.injEq, Prod.mk.injEq] at h5
    obtain ⟨rfl, rfl⟩ := h5
    obtain ⟨g1, k1, k2, k3⟩ := frzV_frame x (L := L) (fun i hi => hL i (by simp [oslL, hi])) h1 hR
    obtain ⟨g2, j1, j2, j3⟩ := frzPs_frame l (L := L) (fun i hi => hL i (by simp only [List.map_cons, oslL, List.mem_append]; exact .inr hi)) h4 k2
    refine ⟨g2, ?_, j2, fun p hp => ?_⟩
    · rw [hb, k1]; simp only [Option.bind_some]; rw [j1]; rfl
    · rw [j3 p (fun i hi => hp i (by simp only [List.map_cons, oslL, List.mem_append]; exact .inr hi)), k3 p (fun i hi => hp i (by simp [oslL, hi]))]
theorem buildSA_const {P : Program} {t : TypeId} {len : Nat} {ps : List (Nat × AV)} {hp hp' : List Ob} {v : AV} {c c0 : Cls} {C : Cls → Cls} (h : buildSA none P false t len ps hp (fun v h c => some (v, h, C c)) = some (v, hp', c)) :
    hp' = hp ∧ ∀ h2, buildSA none P false t len ps h2 (fun v h c => some (v, h, C c)) = some (v, h2, c) := by
  unfold buildSA at h ⊢
  split at h
  · rename_i e he
    split at h
    · rename_i zs hz
      dsimp only at h
      split at h
      · rename_i cs hcs
        split at h
        · rename_i xs hxs
          split at h
          · rename_i hc
            simp only [Bool.false_eq_true, if_false, Option.some.injEq, Prod.mk.injEq] at h
            obtain ⟨rfl, rfl, rfl⟩ := h
            refine ⟨rfl, fun h2 => ?_⟩
            simp only [hcs, hxs, Bool.false_eq_true, if_false]
            rw [if_pos hc]
          · simp at h
        · simp at h
      · simp at h
    · simp at h
  · simp at h
theorem build_frame {E : En} {o : Oper} {fr : List AV} {hp hp' : List Ob} {v : AV} {c : Cls} {t : TypeId} {len : Nat} {parts : Array (Nat × Operand)} (he : o.op = .buildSlice t len parts) (ho : ownOf E o = false) (hop : opF E o fr hp = some (v, hp', c)) :
    Frame (opF E o fr) (hasL ((oslL (parts.toList.map fun p => evalA fr p.2)).map Spot.ob)) (hasL ((oslL (parts.toList.map fun p => evalA fr p.2)).map Spot.ob)) hp v hp' c := by
  intro h2 hR
  have hx : ∀ (L : List Nat) p, hasL (L.map Spot.ob) p ↔ ∃ i ∈ L, p = .ob i := by
    intro L p
    constructor
    · rintro ⟨s, hs, hp⟩
      obtain ⟨i, hi, rfl⟩ := List.mem_map.1 hs
      cases p <;> simp only [Spot.has] at hp
      exact ⟨i, hi, by rw [hp]⟩
    · rintro ⟨i, hi, rfl⟩; exact ⟨_, List.mem_map.2 ⟨i, hi, rfl⟩, rfl⟩
  have hm : (parts.toList.map fun p => evalA fr p.2) = (parts.toList.map fun p => (p.1, evalA fr p.2)).map (·.2) := by simp
  generalize hps : (parts.toList.map fun p => (p.1, evalA fr p.2)) = ps at hm
  rw [hm] at hR ⊢
  have hR' : ∀ i ∈ oslL (ps.map (·.2)), pl h2 (.ob i) = pl hp (.ob i) := fun i hi => hR _ ((hx _ _).2 ⟨i, hi, rfl⟩)
  have hopF : ∀ h0, opF E o fr h0 = if ps.any (fun p => hasO p.2) = true then frzPs none ps h0 fun ps hp => buildSA none E.P false t len ps hp fun v hp _ => some (v, hp, .write) else buildSA none E.P false t len ps h0 fun v hp c => some (v, hp, c) := by
    intro h0
    unfold opF opA
    simp only [he, ho, hps]
  rw [hopF] at hop
  split at hop
  · rename_i hany
    have hb : ∀ h0, (frzPs none ps h0 fun ps hp => buildSA none E.P false t len ps hp fun v hp _ => some (v, hp, Cls.write)) = (frzPs none ps h0 fun y h => some (y, h)).bind fun r => buildSA none E.P false t len r.1 r.2 fun v hp _ => some (v, hp, Cls.write) := by
      intro h0
      have := frzPs_hom (fun r : Option (List (Nat × AV) × List Ob) => r.bind fun r => buildSA none E.P false t len r.1 r.2 fun v hp _ => some (v, hp, Cls.write)) none ps h0 (fun y h => some (y, h))
      simp only [Option.bind_none, Option.bind_some] at this
      exact this.symm
    rw [hb, Option.bind_eq_some_iff] at hop
    obtain ⟨⟨ys, hq⟩, h1, h3⟩ := hop
    obtain ⟨rfl, k0⟩ := buildSA_const (c0 := .write) (C := fun _ => .write) h3
    obtain ⟨h2', k1, k2, k3⟩ := frzPs_frame ps (L := oslL (ps.map (·.2))) (fun i hi => hi) h1 hR'
    refine ⟨h2', ?_, fun p => ⟨fun hp => ?_, fun hp => k3 p (fun i hi e => hp ((hx _ _).2 ⟨i, hi, e⟩))⟩⟩
    · rw [hopF, if_pos hany, hb, k1]; exact k0 _
    · obtain ⟨i, hi, rfl⟩ := (hx _ _).1 hp
      exact k2 i hi
  · rename_i hany
    obtain ⟨rfl, k0⟩ := buildSA_const (c0 := .write) (C := fun c => c) hop
    refine ⟨h2, ?_, fun p => ⟨fun hp => hR p hp, fun _ => rfl⟩⟩
    rw [hopF, if_neg hany]; exact k0 _
theorem foot_ok {E : En} {o : Oper} {fr : List AV} {hp hp' : List Ob} {v : AV} {c : Cls} {R W : List Spot} (hf : footOf E o fr = some (R, W)) (hop : opF E o fr hp = some (v, hp', c)) :
    Frame (opF E o fr) (hasL R) (hasL W) hp v hp' c := by
  unfold footOf at hf
  split at hf
  · rename_i t x he
    have hb : ∀ h2, opF E o fr h2 = (loadA none E.P t (evalA fr x) h2 (fun v c => some (v, c))).bind fun p => some (p.1, h2, p.2) := by
      intro h2
      have := loadA_hom (fun r : Option (AV × Cls) => r.bind fun (p : AV × Cls) => some (p.1, h2, p.2)) none (P := E.P) t (evalA fr x) h2 (fun v c => some (v, c))
      simp only [Option.bind_none, Option.bind_some] at this
      rw [this]
      unfold opF opA
      simp only [he]
    rw [hb] at hop
    cases hl : loadA none E.P t (evalA fr x) hp (fun v c => some (v, c)) with
    | none => rw [hl] at hop; simp at hop
    | some p =>
      rw [hl] at hop
      simp only [Option.bind_some, Option.some.injEq, Prod.mk.injEq] at hop
      obtain ⟨rfl, rfl, rfl⟩ := hop
      have k := load_frame (t := t) (P := E.P) (v := p.1) (c := p.2) (hp := hp) (R := R) (W := W) hf hl
      intro h2 hR
      refine ⟨h2, ?_, fun q => ⟨fun hq => ?_, fun _ => rfl⟩⟩
      · rw [hb, k.2 h2 hR]; rfl
      · rw [k.1] at hq; obtain ⟨s, hs, _⟩ := hq; simp at hs
  · rename_i t x y he
    have hb : ∀ h2, opF E o fr h2 = (storeA none E.P t (evalA fr x) (evalA fr y) h2 some).bind fun p => some (AV.junk, p, Cls.write) := by
      intro h2
      have := storeA_hom (fun r : Option (List Ob) => r.bind fun p => some (AV.junk, p, Cls.write)) none (P := E.P) t (evalA fr x) (evalA fr y) h2 some
      simp only [Option.bind_none, Option.bind_some] at this
      rw [this]
      unfold opF opA
      simp only [he]
    rw [hb] at hop
    cases hl : storeA none E.P t (evalA fr x) (evalA fr y) hp some with
    | none => rw [hl] at hop; simp at hop
    | some p =>
      rw [hl] at hop
      simp only [Option.bind_some, Option.some.injEq, Prod.mk.injEq] at hop
      obtain ⟨rfl, rfl, rfl⟩ := hop
      have k := store_frame (t := t) (P := E.P) (R := R) (W := W) hf hl
      intro h2 hR
      obtain ⟨h2', k1, k2⟩ := k h2 hR
      exact ⟨h2', by rw [hb, k1]; rfl, k2⟩
  · rename_i cl he
    split at hf
    · rename_i hcal
      split at hf
      · rename_i t tx id ver len x hts hxs
        cases hi : isIntT E.P tx with
        | true => rw [hi] at hf; simp at hf
        | false =>
          rw [hi] at hf
          simp only [cond_false] at hf
          have hb : ∀ h2, opF E o fr h2 = appendB none E.P t tx (.oslice id ver len) x h2 (fun v h c => some (v, h, c)) := by
            intro h2
            unfold opF opA
            simp only [he, hcal, builtinA, hts, hxs, appendA, hi, Bool.false_eq_true, if_false]
          rw [hb] at hop
          have k := append_frame (R := R) (W := W) hf hop
          intro h2 hR
          obtain ⟨h2', k1, k2⟩ := k h2 hR
          exact ⟨h2', by rw [hb]; exact k1, k2⟩
      · simp at hf
    · simp at hf
  · rename_i t len parts he
    cases ho : ownOf E o with
    | true => rw [ho] at hf; simp at hf
    | false =>
      rw [ho] at hf
      simp only [cond_false, Option.some.injEq, Prod.mk.injEq] at hf
      obtain ⟨rfl, rfl⟩ := hf
      exact build_frame he ho hop
  · simp at hf
theorem footOf_congr {E : En} {o : Oper} {fr fr' : List AV} (h : ∀ x ∈ o.op.operands.toList, evalA fr x = evalA fr' x) : footOf E o fr = footOf E o fr' := by
  unfold footOf
  cases ho : o.op with
  | load t x => rw [ho] at h; simp only [Op.operands] at h; simp only [h x (by simp)]
  | store t x y => rw [ho] at h; simp only [Op.operands] at h; simp only [h x (by simp), h y (by simp)]
  | buildSlice t len parts =>
    rw [ho] at h
    have e1 : (parts.toList.map fun p => evalA fr p.2) = parts.toList.map fun p => evalA fr' p.2 := List.map_congr_left fun p hp => h p.2 (by simp only [Op.operands, Array.toList_map, List.mem_map]; exact ⟨p, hp, rfl⟩)
    simp only [e1]
  | call c =>
    rw [ho] at h
    simp only [Op.operands, Call.operands, Array.toList_append, List.mem_append] at h
    have e1 : c.args.toList.map (evalA fr) = c.args.toList.map (evalA fr') := List.map_congr_left fun x hx => h x (.inr hx)
    simp only [e1]
  | _ => rfl
theorem mem_addIds {i : Nat} : ∀ (l : List Nat) (L : List Nat), (i ∈ L ∨ i ∈ l) → i ∈ addIds L l
  | [], L, h => by simpa [addIds] using h
  | x :: l, L, h => by
    unfold addIds
    cases hc : L.contains x with
    | true =>
      refine mem_addIds l L ?_
      rcases h with h | h
      · exact .inl h
      · rcases List.mem_cons.1 h with rfl | h
        · exact .inl (by simpa using hc)
        · exact .inr h
    | false =>
      refine mem_addIds l (L ++ [x]) ?_
      rcases h with h | h
      · exact .inl (List.mem_append_left _ h)
      · rcases List.mem_cons.1 h with rfl | h
        · exact .inl (by simp)
        · exact .inr h
theorem reach_sub {hp : List Ob} {i : Nat} : ∀ (n : Nat) (L : List Nat), i ∈ L → i ∈ reach hp n L
  | 0, L, h => h
  | n + 1, L, h => reach_sub n _ (mem_addIds _ _ (.inl h))
theorem reach_congr {hp h2 : List Ob} : ∀ (n : Nat) (L : List Nat), (∀ i ∈ reach hp n L, h2[i]? = hp[i]?) → reach h2 n L = reach hp n L
  | 0, L, _ => rfl
  | n + 1, L, h => by
    have e : (L.flatMap fun i => idsO (h2.getD i .dead)) = L.flatMap fun i => idsO (hp.getD i .dead) := by
      have hg : ∀ i ∈ L, h2.getD i .dead = hp.getD i .dead := fun i hi => by
        rw [List.getD_eq_getElem?_getD, List.getD_eq_getElem?_getD, h i (reach_sub (n + 1) L hi)]
      have : ∀ (l : List Nat), (∀ i ∈ l, h2.getD i .dead = hp.getD i .dead) → (l.flatMap fun i => idsO (h2.getD i .dead)) = l.flatMap fun i => idsO (hp.getD i .dead) := by
        intro l
        induction l with
        | nil => intro _; rfl
        | cons x l ih => intro hl; rw [List.flatMap_cons, List.flatMap_cons, hl x List.mem_cons_self, ih fun i hi => hl i (List.mem_cons_of_mem _ hi)]
      exact this L hg
    unfold reach
    rw [e]
    exact reach_congr n _ h
theorem all_eq {hp h2 : List Ob} {i : Nat} (h : ∀ p, (Spot.all i).has p → pl h2 p = pl hp p) : h2[i]? = hp[i]? := by
  have ho := h (.ob i) rfl
  cases h1 : hp[i]? with
  | none =>
    simp only [pl, h1, Option.map_none, PV.o.injEq, Option.map_eq_none_iff] at ho
    exact ho
  | some o =>
    by_cases hf : ∃ ty cs, o = .fix ty cs
    · obtain ⟨ty, cs, rfl⟩ := hf
      obtain ⟨cs2, h3, h4⟩ := ob_fix ho h1
      rw [h3]
      have : cs2 = cs := by
        apply List.ext_getElem?
        intro k
        have := h (.cell i k) rfl
        simpa [pl, h1, h3, cellsO] using this
      rw [this]
    · rw [ob_eq ho (fun ty cs hh => hf ⟨ty, cs, by rw [h1] at hh; exact Option.some.inj hh⟩), h1]
theorem pl_of {hp h2 : List Ob} {i : Nat} (h : h2[i]? = hp[i]?) : pl h2 (.ob i) = pl hp (.ob i) ∧ ∀ k, pl h2 (.cell i k) = pl hp (.cell i k) := by
  simp [pl, h]
theorem callFoot_spec {hp : List Ob} {args : List AV} {R W : List Spot} (h : callFoot hp args = some (R, W)) :
    ∃ L, L = reach hp 3 (addIds [] (idsL args)) ∧ R = .new hp.length :: L.map Spot.all ∧ W = .new hp.length :: L.map Spot.all ∧ (∀ i ∈ idsL args, i ∈ L) ∧ (∀ i o, hp[i]? = some o → i ∈ L → ∀ j ∈ idsO o, j ∈ L) := by
  unfold callFoot at h
  dsimp only at h
  generalize hL : reach hp 3 (addIds [] (idsL args)) = L at h
  cases h1 : (L.all fun i => (idsO (hp.getD i .dead)).all L.contains) with
  | false => rw [h1] at h; simp at h
  | true =>
    cases h2 : (idsL args).all L.contains with
    | false => rw [h1, h2] at h; simp at h
    | true =>
      rw [h1, h2] at h
      simp only [cond_true, Option.some.injEq, Prod.mk.injEq] at h
      refine ⟨L, rfl, h.1.symm, h.2.symm, fun i hi => ?_, fun i o ho hi j hj => ?_⟩
      · simpa using List.all_eq_true.1 h2 i hi
      · have := List.all_eq_true.1 h1 i hi
        rw [List.getD_eq_getElem?_getD, ho] at this
        simpa using List.all_eq_true.1 this j hj
theorem opF_call {E : En} {o : Oper} {fr : List AV} {cl : Call} {fv : Operand} {f : FuncId} {pre post : List AV} (he : o.op = .call cl) (hf : cl.callee = .value fv) (hv : evalA fr fv = .func f pre post) (hp : List Ob) :
    opF E o fr hp = callFn none E f (pre ++ cl.args.toList.map (evalA fr) ++ post) hp fun v h c => some (v, h, c) := by
  unfold opF opA; simp only [he, hf, hv]
theorem heap_call {E : En} (hE : EnOK E) {o : Oper} {fr : List AV} {hp hp' : List Ob} {v : AV} {as : List AV} (ha : argsOf fr o = some as) (hop : opF E o fr hp = some (v, hp', .heap)) :
    ∃ s f, E.tbl f = some s ∧ (s as hp).val = some (v, hp', .heap) ∧ ∀ h2, opF E o fr h2 = (s as h2).val := by
  unfold argsOf at ha
  split at ha
  · rename_i cl he
    split at ha
    · rename_i fv hf
      split at ha
      · rename_i f pre post hv
        simp only [Option.some.injEq] at ha
        have e := opF_call (E := E) he hf hv
        rw [ha] at e
        rw [e] at hop
        unfold callFn at hop
        cases hs : E.tbl f with
        | none => rw [hs] at hop; simp at hop
        | some s =>
          have e2 : ∀ h2, opF E o fr h2 = (s as h2).val := by
            intro h2
            rw [e]
            unfold callFn
            rw [hs]
            simp only
            rw [Tr.fold_val]
            cases (s as h2).val with
            | none => rfl
            | some x => rfl
          exact ⟨s, f, hs, by rw [← e2, e]; unfold callFn; rw [hs] at hop ⊢; exact hop, e2⟩
      · simp at ha
    · simp at ha
  · simp at ha
theorem new_frame {F : List Ob → Option (AV × List Ob × Cls)} {hp : List Ob} {v : AV} {ext : List Ob} {R : List Spot} (h : ∀ h2, (∀ p, hasL (.new hp.length :: R) p → pl h2 p = pl hp p) → F h2 = some (v, h2 ++ ext, .write)) :
    Frame F (hasL (.new hp.length :: R)) (hasL [.new hp.length]) hp v (hp ++ ext) .write := by
  intro h2 hR
  have hlen : h2.length = hp.length := by
    have := hR .len ⟨_, List.mem_cons_self, trivial⟩
    simpa [pl] using this
  refine ⟨_, h h2 hR, fun p => ⟨?_, ?_⟩⟩
  · rintro ⟨s, hs, hp'⟩
    simp only [List.mem_singleton] at hs
    subst hs
    have key : ∀ j, hp.length ≤ j → (h2 ++ ext)[j]? = (hp ++ ext)[j]? := fun j hj => by
      rw [List.getElem?_append_right (by omega), List.getElem?_append_right hj, hlen]
    cases p with
    | len => simp [pl, hlen]
    | ob j => exact (pl_of (key j hp')).1
    | cell j k => exact (pl_of (key j hp')).2 k
  · intro hn
    have key : ∀ j, ¬ hp.length ≤ j → (h2 ++ ext)[j]? = h2[j]? := fun j hj => List.getElem?_append_left (by omega)
    cases p with
    | len => exact absurd ⟨_, List.mem_singleton.2 rfl, trivial⟩ hn
    | ob j => exact (pl_of (key j fun h => hn ⟨_, List.mem_singleton.2 rfl, h⟩)).1
    | cell j k => exact (pl_of (key j fun h => hn ⟨_, List.mem_singleton.2 rfl, h⟩)).2 k
theorem virtL_new : ∀ (l : List (Nat × Nat × Sh)) (cs : List AV) (hp : List Ob), ∃ cs' ext, ∀ h2 : List Ob, h2.length = hp.length → virtL l (cs, h2) = (cs', h2 ++ ext)
  | [], cs, hp => ⟨cs, [], fun h2 _ => by simp [virtL]⟩
  | (i, ty, sh) :: l, cs, hp => by
    cases hc : cs[i % 1000000]? with
    | none =>
      obtain ⟨cs', ext, h⟩ := virtL_new l cs hp
      exact ⟨cs', ext, fun h2 hl => by unfold virtL; simp only [hc]; exact h h2 hl⟩
    | some x =>
      by_cases hx : x = .nilsl
      · subst hx
        by_cases hw : sh.width = 0
        · obtain ⟨cs', ext, h⟩ := virtL_new l cs hp
          exact ⟨cs', ext, fun h2 hl => by unfold virtL; simp only [hc, if_pos hw]; exact h h2 hl⟩
        · obtain ⟨cs', ext, h⟩ := virtL_new l (cs.set (i % 1000000) (.oslice hp.length (i / 1000000) 0)) (hp ++ [.grow ty (i / 1000000) sh.width sh []])
          refine ⟨cs', [.grow ty (i / 1000000) sh.width sh []] ++ ext, fun h2 hl => ?_⟩
          unfold virtL
          simp only [hc, if_neg hw]
          have hh := h (h2 ++ [Ob.grow ty (i / 1000000) sh.width sh []]) (by simp [hl])
          rw [hl, hh, List.append_assoc]
      · obtain ⟨cs', ext, h⟩ := virtL_new l cs hp
        refine ⟨cs', ext, fun h2 hl => ?_⟩
        unfold virtL
        simp only [hc]
        cases x <;> first | exact absurd rfl hx | exact h h2 hl
theorem newFix_new {ty : TypeId} {virt : List (Nat × Nat × Sh)} {cs : List AV} {hp hp' : List Ob} {v : AV} {c : Cls} (h : newFix ty virt cs hp (fun v h c => some (v, h, c)) = some (v, hp', c)) :
    c = .write ∧ ∃ ext, hp' = hp ++ ext ∧ ∀ h2 : List Ob, h2.length = hp.length → newFix ty virt cs h2 (fun v h c => some (v, h, c)) = some (v, h2 ++ ext, .write) := by
  obtain ⟨cs', ext, hv⟩ := virtL_new virt cs hp
  have e : ∀ h2 : List Ob, h2.length = hp.length → newFix ty virt cs h2 (fun v h c => some (v, h, c)) = some (.ptr (hp.length + ext.length) 0, h2 ++ (ext ++ [.fix ty cs']), .write) := fun h2 hl => by
    unfold newFix
    rw [hv h2 hl]
    simp [hl]
  have e0 := e hp rfl
  rw [e0] at h
  simp only [Option.some.injEq, Prod.mk.injEq] at h
  obtain ⟨rfl, rfl, rfl⟩ := h
  exact ⟨rfl, ext ++ [.fix ty cs'], by simp, fun h2 hl => e h2 hl⟩
theorem newGrow_new {P : Program} {e : TypeId} {sz : Nat} {sh : Sh} {xs : List AV} {hp hp' : List Ob} {v : AV} {c : Cls} (h : newGrow none P e sz sh xs hp (fun v h c => some (v, h, c)) = some (v, hp', c)) :
    c = .write ∧ ∃ ext, hp' = hp ++ ext ∧ ∀ h2 : List Ob, h2.length = hp.length → newGrow none P e sz sh xs h2 (fun v h c => some (v, h, c)) = some (v, h2 ++ ext, .write) := by
  unfold newGrow at h ⊢
  split at h
  · rename_i z hz
    split at h
    · rename_i hc
      obtain ⟨q, hk⟩ := ask_some h
      simp only [Option.some.injEq, Prod.mk.injEq] at hk
      obtain ⟨rfl, rfl, rfl⟩ := hk
      refine ⟨rfl, _, rfl, fun h2 hl => ?_⟩
      rw [if_pos hc, q, hl]
      rfl
    · simp at h
  · simp at h
theorem newFoot_ok {E : En} {o : Oper} {fr : List AV} {hp hp' : List Ob} {v : AV} {R W : List Spot} (hf : newFoot E o fr hp.length = some (R, W)) (hop : opF E o fr hp = some (v, hp', .write)) :
    ∃ R', R = .new hp.length :: R' ∧ W = [.new hp.length] ∧ Frame (opF E o fr) (hasL R) (hasL W) hp v hp' .write := by
  have lenOf : ∀ {h2 : List Ob} {R' : List Spot}, (∀ p, hasL (.new hp.length :: R') p → pl h2 p = pl hp p) → h2.length = hp.length := fun h => by
    have := h .len ⟨_, List.mem_cons_self, trivial⟩
    simpa [pl] using this
  unfold newFoot at hf
  split at hf
  · rename_i t he
    simp only [Option.some.injEq, Prod.mk.injEq] at hf
    obtain ⟨rfl, rfl⟩ := hf
    refine ⟨[], rfl, rfl, ?_⟩
    cases hz : zeroA E.P t with
    | none => unfold opF opA at hop; simp [he, hz] at hop
    | some z =>
      by_cases hc : (cells z).all oneCell = true
      · have hb : ∀ h2, opF E o fr h2 = newFix t (virtOf E o) (cells z) h2 (fun v h c => some (v, h, c)) := fun h2 => by unfold opF opA; simp only [he, hz, if_pos hc]
        rw [hb] at hop
        obtain ⟨-, ext, rfl, hx⟩ := newFix_new hop
        exact new_frame fun h2 hR => by rw [hb, hx h2 (lenOf hR)]
      · unfold opF opA at hop; simp [he, hz, hc] at hop
  · rename_i t x he
    simp only [Option.some.injEq, Prod.mk.injEq] at hf
    obtain ⟨rfl, rfl⟩ := hf
    refine ⟨[], rfl, rfl, ?_⟩
    by_cases hc : (cells (evalA fr x)).all oneCell = true
    · have hb : ∀ h2, opF E o fr h2 = newFix t (virtOf E o) (cells (evalA fr x)) h2 (fun v h c => some (v, h, c)) := fun h2 => by unfold opF opA; simp only [he, if_pos hc]
      rw [hb] at hop
      obtain ⟨-, ext, rfl, hx⟩ := newFix_new hop
      exact new_frame fun h2 hR => by rw [hb, hx h2 (lenOf hR)]
    · unfold opF opA at hop; simp [he, hc] at hop
  · rename_i cl he
    split at hf
    · rename_i hcal
      split at hf
      · rename_i t tx s x hts hxs
        cases hi : isIntT E.P tx with
        | true => rw [hi] at hf; simp at hf
        | false =>
          rw [hi] at hf
          simp only [cond_false] at hf
          split at hf
          · have hb : ∀ h2, opF E o fr h2 = appendB none E.P t tx .nilsl x h2 (fun v h c => some (v, h, c)) := by
              intro h2
              unfold opF opA
              simp only [he, hcal, builtinA, hts, hxs, appendA, hi, Bool.false_eq_true, if_false]
            have hRW : ∃ R', R = .new hp.length :: R' ∧ W = [.new hp.length] ∧ ∀ id2 ver len, x = .oslice id2 ver len → Spot.ob id2 ∈ R' := by
              cases x <;> simp only [Option.some.injEq, Prod.mk.injEq] at hf <;> (obtain ⟨rfl, rfl⟩ := hf; refine ⟨_, rfl, rfl, fun id2 ver len e => ?_⟩; simp at e)
              obtain ⟨rfl, rfl, rfl⟩ := e
              simp
            obtain ⟨R', rfl, rfl, hx2⟩ := hRW
            refine ⟨R', rfl, rfl, ?_⟩
            rw [hb] at hop
            have hop2 := hop
            unfold appendB at hop
            split at hop
            · rename_i e htk
              simp only at hop
              split at hop
              · simp at hop
              · rename_i hcond
                -- the source's answer
                have src2 : ∀ {K : Option (Nat × Sh) → List AV → Cls → Option (AV × List Ob × Cls)}, srcA none hp x K = some (v, hp', .write) → ∃ how ys cl, K how ys cl = some (v, hp', .write) ∧ ∀ {β : Type} (K' : Option (Nat × Sh) → List AV → Cls → Option β), srcA none hp x K' = K' how ys cl := by
                  intro K hs
                  unfold srcA at hs ⊢
                  split at hs
                  · exact ⟨_, _, _, hs, fun _ => rfl⟩
                  · exact ⟨_, _, _, hs, fun _ => rfl⟩
                  · rename_i hne1 hne2
                    obtain ⟨sz, sh, xs, cl, he', hk⟩ := elems_cps hs
                    refine ⟨_, _, _, hk, fun K' => ?_⟩
                    have hh := elems_hom (fun r : Option (Nat × Sh × List AV × Cls) => r.bind fun r => K' (some (r.1, r.2.1)) r.2.2.1 r.2.2.2) none (hp := hp) x (fun a b d e => some (a, b, d, e))
                    simp only [Option.bind_none, Option.bind_some] at hh
                    rw [he'] at hh
                    simp only [Option.bind_some] at hh
                    exact hh.symm
                obtain ⟨how, ys, cl2, hk, hall⟩ := src2 hop
                clear src2
                split at hk
                · rename_i hhow
                  obtain ⟨-, ext, rfl, hnew⟩ := newGrow_new hk
                  refine new_frame fun h2 hR => ?_
                  have hxo : ∀ id' ver len, x = .oslice id' ver len → h2[id']? = hp[id']? := by
                    intro id' ver' len' hx
                    subst hx
                    have hp2 := hR (.ob id') ⟨_, List.mem_cons_of_mem _ (hx2 _ _ _ rfl), rfl⟩
                    refine ob_eq hp2 fun ty cs hh => ?_
                    clear hall hk hnew hhow
                    unfold srcA elems at hop
                    obtain ⟨_, _, _, he, _⟩ := grownR_inv hop
                    rcases he with ⟨_, he⟩ | he <;> (rw [he] at hh; simp at hh)
                  rw [hb]
                  unfold appendB
                  rw [htk]
                  simp only [if_neg hcond]
                  rw [src_eq hxo, hall]
                  simp only [if_pos hhow]
                  exact hnew h2 (lenOf hR)
                · simp at hk
            · simp at hop
          · simp at hf
      · simp at hf
    · simp at hf
  · simp at hf
theorem newFoot_congr {E : En} {o : Oper} {fr fr' : List AV} {n : Nat} (h : ∀ x ∈ o.op.operands.toList, evalA fr x = evalA fr' x) : newFoot E o fr n = newFoot E o fr' n := by
  unfold newFoot
  cases ho : o.op with
  | call c =>
    rw [ho] at h
    simp only [Op.operands, Call.operands, Array.toList_append, List.mem_append] at h
    have e1 : c.args.toList.map (evalA fr) = c.args.toList.map (evalA fr') := List.map_congr_left fun x hx => h x (.inr hx)
    simp only [e1]
  | _ => rfl
theorem newFoot_shape {E : En} {o : Oper} {fr : List AV} {n : Nat} {R W : List Spot} (hf : newFoot E o fr n = some (R, W)) : ∃ R', R = .new n :: R' := by
  unfold newFoot at hf
  split at hf
  · simp only [Option.some.injEq, Prod.mk.injEq] at hf; exact ⟨_, hf.1.symm⟩
  · simp only [Option.some.injEq, Prod.mk.injEq] at hf; exact ⟨_, hf.1.symm⟩
  · split at hf
    · split at hf
      · rename_i t tx s x hts hxs
        cases hi : isIntT E.P tx with
        | true => rw [hi] at hf; simp at hf
        | false =>
          rw [hi] at hf
          simp only [cond_false] at hf
          split at hf
          · cases x <;> simp only [Option.some.injEq, Prod.mk.injEq] at hf <;> exact ⟨_, hf.1.symm⟩
          · simp at hf
      · simp at hf
    · simp at hf
  · simp at hf
theorem opF_frame {E : En} (hE : EnOK E) {o : Oper} {fr : List AV} {hp hp' : List Ob} {v : AV} {c : Cls} (hop : opF E o fr hp = some (v, hp', c)) :
    Frame (opF E o fr) (Ft.rds (ftOf E o fr hp c)) (Ft.wrs (ftOf E o fr hp c)) hp v hp' c := by
  have whole : ∀ h2, (∀ p, pl h2 p = pl hp p) → ∃ h2', opF E o fr h2 = some (v, h2', c) ∧ ∀ p, pl h2' p = pl hp' p := fun h2 h => by
    have e := pl_ext h
    subst e
    exact ⟨_, hop, fun _ => rfl⟩
  have old : c ≠ .heap → Frame (opF E o fr) (Ft.rds ⟨c, footOf E o fr⟩) (Ft.wrs ⟨c, footOf E o fr⟩) hp v hp' c := by
    intro hne
    cases hf : footOf E o fr with
    | some x => obtain ⟨R, W⟩ := x; exact foot_ok hf hop
    | none =>
      intro h2 hR
      have k := opF_cls hE hop
      simp only [Ft.rds, Ft.wrs] at hR ⊢
      cases c with
      | pure => exact ⟨h2, k.pure rfl h2, fun p => ⟨fun e => by simp [Cls.isWrite] at e, fun _ => rfl⟩⟩
      | read =>
        have e := pl_ext fun p => hR p (by simp)
        subst e
        have := k.same rfl
        subst this
        exact ⟨_, hop, fun p => ⟨fun e => by simp [Cls.isWrite] at e, fun _ => rfl⟩⟩
      | write =>
        obtain ⟨h2', w1, w2⟩ := whole h2 fun p => hR p (by simp)
        exact ⟨h2', w1, fun p => ⟨fun _ => w2 p, fun e => absurd rfl e⟩⟩
      | heap => exact absurd rfl hne
  cases c with
  | pure => exact old (by simp)
  | read => exact old (by simp)
  | write =>
    unfold ftOf
    simp only
    cases hf : footOf E o fr with
    | some x => have := old (by simp); rw [hf] at this; exact this
    | none =>
      simp only [orF]
      cases hn : newFoot E o fr hp.length with
      | none => have := old (by simp); rw [hf] at this; exact this
      | some y =>
        obtain ⟨R, W⟩ := y
        obtain ⟨R', h1, h2, h3⟩ := newFoot_ok hn hop
        exact h3
  | heap =>
    unfold ftOf
    simp only
    cases ha : argsOf fr o with
    | none =>
      intro h2 hR
      simp only [Ft.rds, Ft.wrs, Option.bind_none] at hR ⊢
      obtain ⟨h2', w1, w2⟩ := whole h2 fun p => hR p (by simp)
      exact ⟨h2', w1, fun p => ⟨fun _ => w2 p, fun e => absurd rfl e⟩⟩
    | some as =>
    simp only [Option.bind_some]
    cases hf : callFoot hp as with
    | none =>
      intro h2 hR
      simp only [Ft.rds, Ft.wrs] at hR ⊢
      obtain ⟨h2', w1, w2⟩ := whole h2 fun p => hR p (by simp)
      exact ⟨h2', w1, fun p => ⟨fun _ => w2 p, fun e => absurd rfl e⟩⟩
    | some x =>
      obtain ⟨R, W⟩ := x
      obtain ⟨L, -, rfl, rfl, hL1, hL2⟩ := callFoot_spec hf
      obtain ⟨s, f, hs, hv, hall⟩ := heap_call hE ha hop
      intro h2 hR
      simp only [Ft.rds, Ft.wrs] at hR ⊢
      have hlen : h2.length = hp.length := by
        have := hR .len ⟨_, List.mem_cons_self, trivial⟩
        simpa [pl] using this
      have hobs : ∀ i, i ∈ L → h2[i]? = hp[i]? := fun i hi => all_eq fun p hp => hR p ⟨_, List.mem_cons_of_mem _ (List.mem_map.2 ⟨i, hi, rfl⟩), hp⟩
      obtain ⟨h2', k1, k2, k3, k4⟩ := (hE f s hs).heap _ _ _ _ hv (· ∈ L) hL1 hL2 h2 hlen hobs
      refine ⟨h2', by rw [hall, k1], fun p => ⟨?_, ?_⟩⟩
      · rintro ⟨sp, hsp, hp⟩
        rcases List.mem_cons.1 hsp with rfl | hsp
        · cases p with
          | len => simp [pl, k2]
          | ob j => exact (pl_of (k3 j (.inr hp))).1
          | cell j k => exact (pl_of (k3 j (.inr hp))).2 k
        · obtain ⟨i, hi, rfl⟩ := List.mem_map.1 hsp
          cases p with
          | len => exact hp.elim
          | ob j => simp only [Spot.has] at hp; subst hp; exact (pl_of (k3 i (.inl hi))).1
          | cell j k => simp only [Spot.has] at hp; subst hp; exact (pl_of (k3 i (.inl hi))).2 k
      · intro hn
        have key : ∀ j, (Spot.new hp.length).has (.ob j) ∨ j ∈ L ∨ h2'[j]? = h2[j]? := fun j => by
          by_cases h1 : hp.length ≤ j
          · exact .inl h1
          by_cases h3 : j ∈ L
          · exact .inr (.inl h3)
          · exact .inr (.inr (k4 j h3 (by omega)))
        cases p with
        | len => exact absurd ⟨_, List.mem_cons_self, trivial⟩ hn
        | ob j =>
          rcases key j with h1 | h1 | h1
          · exact absurd ⟨_, List.mem_cons_self, h1⟩ hn
          · exact absurd ⟨_, List.mem_cons_of_mem _ (List.mem_map.2 ⟨j, h1, rfl⟩), rfl⟩ hn
          · exact (pl_of h1).1
        | cell j k =>
          rcases key j with h1 | h1 | h1
          · exact absurd ⟨_, List.mem_cons_self, h1⟩ hn
          · exact absurd ⟨_, List.mem_cons_of_mem _ (List.mem_map.2 ⟨j, h1, rfl⟩), rfl⟩ hn
          · exact (pl_of h1).2 k
theorem ftOf_congr {E : En} {o : Oper} {fr fr' : List AV} {hp h2 : List Ob} {c : Cls} (h : ∀ x ∈ o.op.operands.toList, evalA fr x = evalA fr' x) (hR : ∀ p, (ftOf E o fr' hp c).rds p → pl h2 p = pl hp p) : ftOf E o fr h2 c = ftOf E o fr' hp c := by
  have ea : argsOf fr o = argsOf fr' o := by
    unfold argsOf
    cases ho : o.op with
    | call cl =>
      rw [ho] at h
      simp only [Op.operands, Call.operands, Array.toList_append, List.mem_append] at h
      have e1 : cl.args.toList.map (evalA fr) = cl.args.toList.map (evalA fr') := List.map_congr_left fun x hx => h x (.inr hx)
      cases hc : cl.callee with
      | value fv =>
        rw [hc] at h
        have e2 := h fv (.inl (by simp))
        simp only [hc, e1, e2]
      | _ => simp only [hc]
    | _ => rfl
  cases c with
  | heap =>
    unfold ftOf at hR ⊢
    simp only at hR ⊢
    rw [ea]
    cases ha : argsOf fr' o with
    | none => rfl
    | some as =>
    rw [ha] at hR
    simp only [Option.bind_some] at hR ⊢
    cases hf : callFoot hp as with
    | none =>
      rw [hf] at hR
      have := pl_ext fun p => hR p (by simp [Ft.rds])
      subst this
      rw [hf]
    | some x =>
      obtain ⟨R, W⟩ := x
      rw [hf] at hR
      obtain ⟨L, hL, rfl, rfl, hL1, hL2⟩ := callFoot_spec hf
      simp only [Ft.rds] at hR
      have hlen : h2.length = hp.length := by
        have := hR .len ⟨_, List.mem_cons_self, trivial⟩
        simpa [pl] using this
      have hobs : ∀ i, i ∈ L → h2[i]? = hp[i]? := fun i hi => all_eq fun p hp => hR p ⟨_, List.mem_cons_of_mem _ (List.mem_map.2 ⟨i, hi, rfl⟩), hp⟩
      have er : reach h2 3 (addIds [] (idsL as)) = L := by
        rw [hL]
        exact reach_congr 3 _ fun i hi => hobs i (by rw [hL]; exact hi)
      rw [← hf]
      unfold callFoot
      dsimp only
      rw [er, ← hL, hlen]
      have : (L.all fun i => (idsO (h2.getD i .dead)).all L.contains) = (L.all fun i => (idsO (hp.getD i .dead)).all L.contains) := by
        have : ∀ l : List Nat, (∀ i ∈ l, i ∈ L) → (l.all fun i => (idsO (h2.getD i .dead)).all L.contains) = (l.all fun i => (idsO (hp.getD i .dead)).all L.contains) := by
          intro l
          induction l with
          | nil => intro _; rfl
          | cons x l ih =>
            intro hl
            rw [List.all_cons, List.all_cons, ih fun i hi => hl i (List.mem_cons_of_mem _ hi)]
            rw [List.getD_eq_getElem?_getD, List.getD_eq_getElem?_getD, hobs x (hl x List.mem_cons_self)]
        exact this L fun _ h => h
      rw [this]
  | write =>
    unfold ftOf at hR ⊢
    simp only at hR ⊢
    rw [footOf_congr h, newFoot_congr (fr := fr) (fr' := fr') h]
    cases hf : footOf E o fr' with
    | some x => rfl
    | none =>
      rw [hf] at hR
      simp only [orF] at hR ⊢
      cases hn : newFoot E o fr' hp.length with
      | none =>
        rw [hn] at hR
        have := pl_ext fun p => hR p (by simp [Ft.rds])
        subst this
        rw [hn]
      | some y =>
        obtain ⟨R, W⟩ := y
        rw [hn] at hR
        obtain ⟨R', rfl⟩ := newFoot_shape hn
        simp only [Ft.rds] at hR
        have hlen : h2.length = hp.length := by
          have := hR .len ⟨_, List.mem_cons_self, trivial⟩
          simpa [pl] using this
        rw [hlen, hn]
  | _ => simp only [ftOf, footOf_congr h]
end
end Go.Cx
