/- The abstract heap beside the model's: new blocks, stores. -/
import Derived.Test.YtfhgmpeplfjmcaaCxB
import Derived.Laws.IdiomCopy
namespace Go.Cx
open Go.RowKit (Below)
theorem length_of_get {α : Type} {l : List α} {i : Nat} {x : α} (h : l[i]? = some x) : i < l.length := by
  rcases Nat.lt_or_ge i l.length with h' | h'
  · exact h'
  · rw [List.getElem?_eq_none h'] at h; simp at h
theorem size_of_get {α : Type} {l : Array α} {i : Nat} {x : α} (h : l[i]? = some x) : i < l.size := by
  rcases Nat.lt_or_ge i l.size with h' | h'
  · exact h'
  · rw [Array.getElem?_eq_none h'] at h; simp at h
theorem R.own_lt {g : Gh} {w : World} {hp : List Ob} (h : R g w hp) {i b : Nat} (hd : gone hp[i]? = false) (ho : own g i b) :
    g.free b ∧ b < w.heap.size ∧ (∀ o, g.imm b o = none) ∧ i < hp.length := by
  have k := h.objs i
  cases hi : hp[i]? with
  | none =>
    rw [hi] at k
    rcases ho with ho | ⟨_, _, _, ho⟩
    · rw [k.1] at ho; simp at ho
    · rw [k.2] at ho; simp at ho
  | some o =>
    rw [hi] at k
    have hlt := length_of_get hi
    cases o with
    | dead => rw [hi] at hd; simp at hd
    | hole =>
      rcases ho with ho | ⟨_, _, _, ho⟩
      · rw [k.1] at ho; simp at ho
      · rw [k.2] at ho; simp at ho
    | froz => rw [hi] at hd; simp at hd
    | fix ty cs =>
      obtain ⟨k1, b', vs, fz, k2, k3, k4, k5, k6, k7, k8⟩ := k
      rcases ho with ho | ⟨_, _, _, ho⟩
      · rw [k2] at ho; cases ho; exact ⟨k3, size_of_get k4, k7, hlt⟩
      · rw [k1] at ho; simp at ho
    | grow ty ver sz sh xs =>
      obtain ⟨k1, ⟨_, _, k2⟩ | ⟨b', c, vs, fz, k2, k3, k4, k5, k6, k7, k8, k9, _, k10, k11⟩⟩ := k
      · rcases ho with ho | ⟨_, _, _, ho⟩
        · rw [k1] at ho; simp at ho
        · rw [k2] at ho; cases ho
      rcases ho with ho | ⟨_, _, _, ho⟩
      · rw [k1] at ho; simp at ho
      · rw [k2] at ho; cases ho; exact ⟨k3, size_of_get k4, k10, hlt⟩
theorem cell_lt {w : World} {b o : Nat} {v : Value} (h : w.cell? ⟨b, o, none⟩ = some v) : b < w.heap.size := by
  unfold World.cell? at h
  rcases Nat.lt_or_ge b w.heap.size with h' | h'
  · exact h'
  · simp [Array.getElem?_eq_none h'] at h
theorem cell_congr {w w' : World} {b o : Nat} (h : w'.heap[b]? = w.heap[b]?) : w'.cell? ⟨b, o, none⟩ = w.cell? ⟨b, o, none⟩ := by
  unfold World.cell?; rw [h]
theorem frozen_congr {w w' : World} {b o : Nat} (h : w'.heap[b]? = w.heap[b]?) : w'.frozen? ⟨b, o, none⟩ = w.frozen? ⟨b, o, none⟩ := by
  unfold World.frozen?; rw [h]
theorem ObOK.keep {g g' : Gh} {w w' : World} {i : Nat} {o : Option Ob} (h : ObOK g w i o) (hb : g'.free = g.free) (hblk : g'.blk i = g.blk i) (hcur : g'.cur i = g.cur i)
    (hle : g.le g') (hheap : ∀ b, own g i b → gone o = false → w'.heap[b]? = w.heap[b]?) (himm : ∀ b o', own g i b → gone o = false → g.imm b o' = none → g'.imm b o' = none) : ObOK g' w' i o := by
  cases o with
  | none => exact ⟨hblk.trans h.1, hcur.trans h.2⟩
  | some o =>
    cases o with
    | dead => exact ⟨hblk.trans h.1, trivial⟩
    | hole => exact ⟨hblk.trans h.1, hcur.trans h.2⟩
    | froz ver sz sh xs => obtain ⟨h1, b, c, h2, h3⟩ := h; exact ⟨hblk.trans h1, b, c, hcur.trans h2, h3.mono hle⟩
    | fix ty cs =>
      obtain ⟨k1, b, vs, fz, k2, k3, k4, k5, k6, k7, k8⟩ := h
      have hw := hheap b (.inl k2) (by simp)
      exact ⟨hcur.trans k1, b, vs, fz, hblk.trans k2, by rw [hb]; exact k3, hw.trans k4, k5.mono hle, k6, fun o => himm b o (.inl k2) (by simp) (k7 o), fun o ho => by rw [frozen_congr hw]; exact k8 o ho⟩
    | grow ty ver sz sh xs =>
      obtain ⟨k1, ⟨k0, k3, k2⟩ | ⟨b, c, vs, fz, k2, k3, k4, k5, k6, k7, k8, k9, klim, k10, k11⟩⟩ := h
      · exact ⟨hblk.trans k1, .inl ⟨k0, k3, hcur.trans k2⟩⟩
      have hw := hheap b (.inr ⟨_, _, _, k2⟩) (by simp)
      refine ⟨hblk.trans k1, .inr ?_⟩
      exact ⟨b, c, vs, fz, hcur.trans k2, by rw [hb]; exact k3, hw.trans k4, k5, k6, k7, k8.mono hle, k9, klim, fun o => himm b o (.inr ⟨_, _, _, k2⟩) (by simp) (k10 o), fun o ho => by rw [frozen_congr hw]; exact k11 o ho⟩
theorem R.grow {g : Gh} {w w' : World} {hp : List Ob} (h : R g w hp) (hb : Below w.heap.size w w') : R g w' hp where
  below := h.below.trans (hb.mono h.base)
  base := Nat.le_trans h.base hb.size
  frz := fun k hk => ⟨Nat.lt_of_lt_of_le (h.frz k hk).1 hb.size, (hb.block k (h.frz k hk).1).trans (h.frz k hk).2⟩
  imm := fun b o v e => by rw [cell_congr (hb.block b (cell_lt (h.imm b o v e)))]; exact h.imm b o v e
  objs := fun i => (h.objs i).keep rfl rfl rfl (Gh.le.refl g) (fun b ho hd => hb.block b (h.own_lt hd ho).2.1) (fun _ _ _ _ e => e)
  inj := h.inj
theorem R.newFree {g : Gh} {w : World} {hp : List Ob} (h : R g w hp) : g.free w.heap.size := ⟨h.base, by
  cases hk : g.frz w.heap.size with
  | false => rfl
  | true => have := (h.frz _ hk).1; omega⟩
theorem R.drew {g : Gh} {w : World} {hp : List Ob} (h : R g w hp) : R g w.drew hp := h.grow ((Below.refl _ _).drew)
theorem R.alloc {g : Gh} {w : World} {hp : List Ob} (h : R g w hp) (o : Obj) : R g (w.alloc o) hp := h.grow ((Below.refl _ _).alloc (Nat.le_refl _) o)
theorem getElem?_snoc_lt {α : Type} (l : List α) (x : α) (i : Nat) (h : i < l.length) : (l ++ [x])[i]? = l[i]? := List.getElem?_append_left h
theorem getElem?_snoc_eq {α : Type} (l : List α) (x : α) : (l ++ [x])[l.length]? = some x := by simp
theorem getElem?_snoc_gt {α : Type} (l : List α) (x : α) (i : Nat) (h : l.length < i) : (l ++ [x])[i]? = none := by
  rw [List.getElem?_eq_none]; simp; omega
theorem R.none_blk {g : Gh} {w : World} {hp : List Ob} (h : R g w hp) {i : Nat} (hi : hp.length ≤ i) : g.blk i = none ∧ g.cur i = none := by
  have k := h.objs i; rw [List.getElem?_eq_none hi] at k; exact k
theorem R.addFix {g : Gh} {w : World} {hp : List Ob} (h : R g w hp) {b : Nat} {vs : Array Value} {ty : TypeId} {fz : Nat × Nat} {cs : List AV}
    (hb : w.heap[b]? = some (.cells vs ty fz)) (hbase : g.free b) (hfresh : ∀ i, own g i b → gone hp[i]? = true) (himm : ∀ o, g.imm b o = none) (hcs : VL g cs vs.toList) (h1 : ∀ c ∈ cs, oneCell c)
    (hfr : ∀ o, o < vs.size → w.frozen? ⟨b, o, none⟩ = false) :
    ∃ g', g.le g' ∧ g'.blk hp.length = some b ∧ R g' w (hp ++ [.fix ty cs]) := by
  have hn := h.none_blk (i := hp.length) (Nat.le_refl _)
  let g' : Gh := { g with blk := fun i => if i = hp.length then some b else g.blk i }
  have hle : g.le g' := ⟨rfl, rfl, rfl, fun _ _ _ => rfl, fun _ _ _ e => e, fun i b' e => by
    show (if i = hp.length then some b else g.blk i) = some b'
    split
    · rename_i e1; rw [e1, hn.1] at e; simp at e
    · exact e, fun i _ _ _ _ e => ⟨_, e, Hdr.refl _ _ _ _⟩⟩
  refine ⟨g', hle, by simp [g'], h.below, h.base, h.frz, h.imm, fun i => ?_, fun i j b' hij hdi hdj oi oj => ?_⟩
  · rcases Nat.lt_trichotomy i hp.length with hi | hi | hi
    · rw [getElem?_snoc_lt _ _ _ hi]
      exact (h.objs i).keep rfl (by show (if i = hp.length then some b else g.blk i) = _; rw [if_neg (by omega)]) rfl hle (fun _ _ _ => rfl) (fun _ _ _ _ e => e)
    · subst hi
      rw [getElem?_snoc_eq]
      exact ⟨hn.2, b, vs, fz, by simp [g'], hbase, hb, hcs.mono hle, h1, himm, hfr⟩
    · rw [getElem?_snoc_gt _ _ _ hi]
      have := h.none_blk (i := i) (by omega)
      exact ⟨by show (if i = hp.length then some b else g.blk i) = _; rw [if_neg (by omega)]; exact this.1, this.2⟩
  · have key : ∀ i, own g' i b' → (i ≠ hp.length → own g i b') ∧ (i = hp.length → b' = b) := by
      intro i o
      refine ⟨fun hne => ?_, fun he => ?_⟩
      · rcases o with o | o
        · left; have : (if i = hp.length then some b else g.blk i) = some b' := o; rwa [if_neg hne] at this
        · right; exact o
      · rcases o with o | ⟨_, _, _, o⟩
        · have : (if i = hp.length then some b else g.blk i) = some b' := o; rw [if_pos he] at this; simpa using this.symm
        · subst he; have : g.cur hp.length = some _ := o; rw [hn.2] at this; simp at this
    have old : ∀ i, i ≠ hp.length → gone (hp ++ [.fix ty cs])[i]? = false → own g i b' → gone hp[i]? = false := by
      intro i hne hd o
      rcases Nat.lt_or_ge i hp.length with hl | hl
      · rwa [getElem?_snoc_lt _ _ _ hl] at hd
      · rw [List.getElem?_eq_none hl]; simp
    by_cases ei : i = hp.length
    · have ebi := (key i oi).2 ei
      have oj' := (key j oj).1 (by omega)
      have k1 := old j (by omega) hdj oj'; rw [hfresh j (ebi ▸ oj')] at k1; simp at k1
    · have oi' := (key i oi).1 ei
      by_cases ej : j = hp.length
      · have ebj := (key j oj).2 ej
        have k1 := old i ei hdi oi'; rw [hfresh i (ebj ▸ oi')] at k1; simp at k1
      · have oj' := (key j oj).1 ej
        exact h.inj i j b' hij (old i ei hdi oi') (old j ej hdj oj') oi' oj'
end Go.Cx
namespace Go.Cx
open Go.RowKit (Below)
theorem R.addGrow {g : Gh} {w : World} {hp : List Ob} (h : R g w hp) {b c sz : Nat} {vs : Array Value} {ty : TypeId} {fz : Nat × Nat} {sh : Sh} {xs : List AV}
    (hb : w.heap[b]? = some (.cells vs ty fz)) (hbase : g.free b) (hfresh : ∀ i, own g i b → gone hp[i]? = true) (himm : ∀ o, g.imm b o = none)
    (hsz : vs.size = c * sz) (h0 : 0 < sz) (hlc : xs.length ≤ c) (hcs : VL g (flat xs) (vs.toList.take (xs.length * sz)))
    (hsh : ∀ x ∈ xs, reshape sh x = x ∧ (cells x).length = sz ∧ (cells x).all oneCell) (hlim : xs.length < TOP)
    (hfr : ∀ o, o < vs.size → w.frozen? ⟨b, o, none⟩ = false) :
    ∃ g', g.le g' ∧ g'.cur hp.length = some (0, xs.length, some b, c) ∧ R g' w (hp ++ [.grow ty 0 sz sh xs]) := by
  have hn := h.none_blk (i := hp.length) (Nat.le_refl _)
  let g' : Gh := { g with cur := fun i => if i = hp.length then some (0, xs.length, some b, c) else g.cur i }
  have hle : g.le g' := ⟨rfl, rfl, rfl, fun _ _ _ => rfl, fun _ _ _ e => e, fun _ _ e => e, fun i v' l' b' c' e => by
    show ∃ x, (if i = hp.length then some (0, xs.length, some b, c) else g.cur i) = some x ∧ _
    split
    · rename_i e1; rw [e1, hn.2] at e; simp at e
    · exact ⟨_, e, Hdr.refl _ _ _ _⟩⟩
  refine ⟨g', hle, by simp [g'], h.below, h.base, h.frz, h.imm, fun i => ?_, fun i j b' hij hdi hdj oi oj => ?_⟩
  · rcases Nat.lt_trichotomy i hp.length with hi | hi | hi
    · rw [getElem?_snoc_lt _ _ _ hi]
      exact (h.objs i).keep rfl rfl (by show (if i = hp.length then _ else g.cur i) = _; rw [if_neg (by omega)]) hle (fun _ _ _ => rfl) (fun _ _ _ _ e => e)
    · subst hi
      rw [getElem?_snoc_eq]
      refine ⟨hn.1, .inr ?_⟩
      exact ⟨b, c, vs, fz, by simp [g'], hbase, hb, hsz, h0, hlc, hcs.mono hle, hsh, hlim, himm, hfr⟩
    · rw [getElem?_snoc_gt _ _ _ hi]
      have := h.none_blk (i := i) (by omega)
      exact ⟨this.1, by show (if i = hp.length then _ else g.cur i) = _; rw [if_neg (by omega)]; exact this.2⟩
  · have key : ∀ i, own g' i b' → (i ≠ hp.length → own g i b') ∧ (i = hp.length → b' = b) := by
      intro i o
      refine ⟨fun hne => ?_, fun he => ?_⟩
      · rcases o with o | ⟨v1, l1, c1, o⟩
        · left; exact o
        · right; have : (if i = hp.length then some (0, xs.length, some b, c) else g.cur i) = some (v1, l1, some b', c1) := o; rw [if_neg hne] at this; exact ⟨_, _, _, this⟩
      · rcases o with o | ⟨v1, l1, c1, o⟩
        · subst he; have : g.blk hp.length = some _ := o; rw [hn.1] at this; simp at this
        · have : (if i = hp.length then some (0, xs.length, some b, c) else g.cur i) = some (v1, l1, some b', c1) := o; rw [if_pos he] at this; simp at this; exact this.2.2.1.symm
    have old : ∀ i, i ≠ hp.length → gone (hp ++ [.grow ty 0 sz sh xs])[i]? = false → own g i b' → gone hp[i]? = false := by
      intro i hne hd o
      rcases Nat.lt_or_ge i hp.length with hl | hl
      · rwa [getElem?_snoc_lt _ _ _ hl] at hd
      · rw [List.getElem?_eq_none hl]; simp
    by_cases ei : i = hp.length
    · have ebi := (key i oi).2 ei
      have oj' := (key j oj).1 (by omega)
      have k1 := old j (by omega) hdj oj'; rw [hfresh j (ebi ▸ oj')] at k1; simp at k1
    · have oi' := (key i oi).1 ei
      by_cases ej : j = hp.length
      · have ebj := (key j oj).2 ej
        have k1 := old i ei hdi oi'; rw [hfresh i (ebj ▸ oi')] at k1; simp at k1
      · have oj' := (key j oj).1 ej
        exact h.inj i j b' hij (old i ei hdi oi') (old j ej hdj oj') oi' oj'
theorem below_set {w w' : World} {B b : Nat} (hB : B ≤ b) (hos : w'.os = w.os) (htape : w'.tape = w.tape) (hout : w'.output = w.output) (hsz : w'.heap.size = w.heap.size)
    (hoth : ∀ k, k ≠ b → w'.heap[k]? = w.heap[k]?) : Below B w w' :=
  ⟨hos, htape, hout, by omega, fun k hk => hoth k (by omega)⟩
theorem R.turn {g g' : Gh} {w w' : World} {hp : List Ob} {id b : Nat} {o : Ob} (h : R g w hp) (hle : g.le g') (hlt : id < hp.length) (hold : gone hp[id]? = false)
    (hown : own g id b) (hcur : ∀ i, i ≠ id → g'.cur i = g.cur i) (hblk : ∀ i, i ≠ id → g'.blk i = g.blk i)
    (himm : ∀ b' o' v, g'.imm b' o' = some v → g.imm b' o' = some v ∨ (b' = b ∧ w'.cell? ⟨b', o', none⟩ = some v))
    (himm' : ∀ b' o', b' ≠ b → g.imm b' o' = none → g'.imm b' o' = none)
    (hos : w'.os = w.os) (htape : w'.tape = w.tape) (hout : w'.output = w.output) (hsz : w.heap.size ≤ w'.heap.size)
    (hoth : ∀ k, k < w.heap.size → k ≠ b → w'.heap[k]? = w.heap[k]?) (hok : ObOK g' w' id (some o))
    (hown' : gone (some o) = false → ∀ b', own g' id b' → b' = b ∨ w.heap.size ≤ b') :
    R g' w' (hp.set id o) := by
  have hb := h.own_lt hold hown
  have oldown : ∀ i, i ≠ id → ∀ b', own g' i b' → own g i b' := by
    intro i hi b' ho
    rcases ho with ho | ⟨_, _, _, ho⟩
    · rw [hblk i hi] at ho; exact .inl ho
    · rw [hcur i hi] at ho; exact .inr ⟨_, _, _, ho⟩
  have hget : ∀ i, i ≠ id → (hp.set id o)[i]? = hp[i]? := fun i hi => by rw [List.getElem?_set]; simp [Ne.symm hi]
  refine ⟨?_, ?_, ?_, ?_, ?_, ?_⟩
  · rw [hle.base, hle.w0]
    exact h.below.trans ⟨hos, htape, hout, hsz, fun k hk => hoth k (by have := h.base; omega) (by have := hb.1.1; omega)⟩
  · rw [hle.base]; exact Nat.le_trans h.base hsz
  · intro k hk
    rw [hle.frz] at hk
    rw [hle.w0]
    obtain ⟨k1, k2⟩ := h.frz k hk
    refine ⟨by omega, (hoth k k1 (fun e => ?_)).trans k2⟩
    subst e
    have := hb.1.2
    rw [hk] at this; simp at this
  · intro b' o' v e
    rcases himm b' o' v e with e | ⟨_, e⟩
    · have hne : b' ≠ b := by intro e1; subst e1; rw [hb.2.2.1 o'] at e; simp at e
      have hc := h.imm b' o' v e
      rw [cell_congr (hoth b' (cell_lt hc) hne)]; exact hc
    · exact e
  · intro i
    by_cases hi : i = id
    · subst hi
      rw [List.getElem?_set]; simp [hlt]; exact hok
    · rw [hget i hi]
      refine (h.objs i).keep hle.free (hblk i hi) (hcur i hi) hle (fun b' ho hd => ?_) (fun b' o' ho hd e => ?_)
      · have := h.own_lt hd ho
        exact hoth b' this.2.1 (fun e => h.inj i id b' hi hd hold ho (e ▸ hown))
      · exact himm' b' o' (fun e1 => h.inj i id b' hi hd hold ho (e1 ▸ hown)) e
  · have hid : (hp.set id o)[id]? = some o := by rw [List.getElem?_set]; simp [hlt]
    have cross : ∀ j, j ≠ id → ∀ b', gone (hp.set id o)[id]? = false → gone (hp.set id o)[j]? = false → own g' id b' → own g' j b' → False := by
      intro j hj b' hdi hdj oi oj
      rw [hget j hj] at hdj
      have oj' := oldown j hj b' oj
      have hne : gone (some o) = false := by rw [hid] at hdi; exact hdi
      rcases hown' hne b' oi with e | e
      · exact h.inj j id b' hj hdj hold oj' (e ▸ hown)
      · have := (h.own_lt hdj oj').2.1; omega
    intro i j b' hij hdi hdj oi oj
    by_cases hi : i = id
    · subst hi; exact cross j (Ne.symm hij) b' hdi hdj oi oj
    · by_cases hj : j = id
      · subst hj; exact cross i hi b' hdj hdi oj oi
      · rw [hget i hi] at hdi; rw [hget j hj] at hdj
        exact h.inj i j b' hij hdi hdj (oldown i hi b' oi) (oldown j hj b' oj)
theorem R.turnV {g g' : Gh} {w w' : World} {hp : List Ob} {id : Nat} {o : Ob} (h : R g w hp) (hle : g.le g') (hlt : id < hp.length)
    (hcur : ∀ i, i ≠ id → g'.cur i = g.cur i) (hblk : ∀ i, i ≠ id → g'.blk i = g.blk i) (himm : g'.imm = g.imm) (hbel : Below w.heap.size w w') (hok : ObOK g' w' id (some o))
    (hown' : gone (some o) = false → ∀ b', own g' id b' → w.heap.size ≤ b') : R g' w' (hp.set id o) := by
  have hw := h.grow hbel
  have oldown : ∀ i, i ≠ id → ∀ b', own g' i b' → own g i b' := by
    intro i hi b' ho
    rcases ho with ho | ⟨_, _, _, ho⟩
    · rw [hblk i hi] at ho; exact .inl ho
    · rw [hcur i hi] at ho; exact .inr ⟨_, _, _, ho⟩
  have hget : ∀ i, i ≠ id → (hp.set id o)[i]? = hp[i]? := fun i hi => by rw [List.getElem?_set]; simp [Ne.symm hi]
  refine ⟨by rw [hle.base, hle.w0]; exact hw.below, by rw [hle.base]; exact hw.base, fun k hk => ?_, fun b o v e => hw.imm b o v (by rw [← himm]; exact e), fun i => ?_, ?_⟩
  · rw [hle.w0]; rw [hle.frz] at hk; exact hw.frz k hk
  · by_cases hi : i = id
    · subst hi
      rw [List.getElem?_set]; simp [hlt]; exact hok
    · rw [hget i hi]
      exact (hw.objs i).keep hle.free (hblk i hi) (hcur i hi) hle (fun _ _ _ => rfl) (fun _ _ _ _ e => by rw [himm]; exact e)
  · have hid : (hp.set id o)[id]? = some o := by rw [List.getElem?_set]; simp [hlt]
    have cross : ∀ j, j ≠ id → ∀ b', gone (hp.set id o)[id]? = false → gone (hp.set id o)[j]? = false → own g' id b' → own g' j b' → False := by
      intro j hj b' hdi hdj oi oj
      rw [hget j hj] at hdj
      have oj' := oldown j hj b' oj
      have hne : gone (some o) = false := by rw [hid] at hdi; exact hdi
      have e := hown' hne b' oi
      have := (h.own_lt hdj oj').2.1; omega
    intro i j b' hij hdi hdj oi oj
    by_cases hi : i = id
    · subst hi; exact cross j (Ne.symm hij) b' hdi hdj oi oj
    · by_cases hj : j = id
      · subst hj; exact cross i hi b' hdj hdi oj oi
      · rw [hget i hi] at hdi; rw [hget j hj] at hdj
        exact h.inj i j b' hij hdi hdj (oldown i hi b' oi) (oldown j hj b' oj)
theorem R.addVirt {g : Gh} {w : World} {hp : List Ob} (h : R g w hp) (ty : TypeId) {sz : Nat} (h0 : 0 < sz) (sh : Sh) (ver : Nat := 0) :
    ∃ g', g.le g' ∧ g'.cur hp.length = some (ver, 0, none, 0) ∧ R g' w (hp ++ [.grow ty ver sz sh []]) := by
  have hn := h.none_blk (i := hp.length) (Nat.le_refl _)
  let g' : Gh := { g with cur := fun i => if i = hp.length then some (ver, 0, none, 0) else g.cur i }
  have hle : g.le g' := ⟨rfl, rfl, rfl, fun _ _ _ => rfl, fun _ _ _ e => e, fun _ _ e => e, fun i v' l' b' c' e => by
    show ∃ x, (if i = hp.length then some (ver, 0, none, 0) else g.cur i) = some x ∧ _
    split
    · rename_i e1; rw [e1, hn.2] at e; simp at e
    · exact ⟨_, e, Hdr.refl _ _ _ _⟩⟩
  have oldown : ∀ i b', own g' i b' → own g i b' ∧ i ≠ hp.length := by
    intro i b' ho
    rcases ho with ho | ⟨v1, l1, c1, ho⟩
    · refine ⟨.inl ho, fun e => ?_⟩
      subst e; have : g.blk hp.length = some b' := ho; rw [hn.1] at this; simp at this
    · have ho : (if i = hp.length then some (ver, 0, none, 0) else g.cur i) = some (v1, l1, some b', c1) := ho
      split at ho
      · simp at ho
      · rename_i hi; exact ⟨.inr ⟨_, _, _, ho⟩, hi⟩
  have old : ∀ i, i ≠ hp.length → gone (hp ++ [.grow ty ver sz sh []])[i]? = false → gone hp[i]? = false := by
    intro i hne hd
    rcases Nat.lt_or_ge i hp.length with hl | hl
    · rwa [getElem?_snoc_lt _ _ _ hl] at hd
    · rw [List.getElem?_eq_none hl]; simp
  refine ⟨g', hle, by simp [g'], h.below, h.base, h.frz, h.imm, fun i => ?_, fun i j b' hij hdi hdj oi oj => ?_⟩
  · rcases Nat.lt_trichotomy i hp.length with hi | hi | hi
    · rw [getElem?_snoc_lt _ _ _ hi]
      exact (h.objs i).keep rfl rfl (by show (if i = hp.length then _ else g.cur i) = _; rw [if_neg (by omega)]) hle (fun _ _ _ => rfl) (fun _ _ _ _ e => e)
    · subst hi
      rw [getElem?_snoc_eq]
      exact ⟨hn.1, .inl ⟨rfl, h0, by simp [g']⟩⟩
    · rw [getElem?_snoc_gt _ _ _ hi]
      have := h.none_blk (i := i) (by omega)
      exact ⟨this.1, by show (if i = hp.length then _ else g.cur i) = _; rw [if_neg (by omega)]; exact this.2⟩
  · obtain ⟨o1, n1⟩ := oldown i b' oi
    obtain ⟨o2, n2⟩ := oldown j b' oj
    exact h.inj i j b' hij (old i n1 hdi) (old j n2 hdj) o1 o2
def putR (cur : Array Value) (o : Nat) : List Value → Array Value
  | [] => cur
  | v :: r => putR (cur.setIfInBounds o v) (o + 1) r
@[simp] theorem size_putR (cur : Array Value) (o : Nat) (vs : List Value) : (putR cur o vs).size = cur.size := by
  induction vs generalizing cur o with
  | nil => rfl
  | cons v r ih => simp [putR, ih]
theorem heap_setCells (b : Nat) : ∀ (vs : List Value) (o : Nat) (w : World) (cur : Array Value) (ty : TypeId) (fz : Nat × Nat), w.heap[b]? = some (.cells cur ty fz) →
    (w.setCells b o vs).heap[b]? = some (.cells (putR cur o vs) ty fz)
  | [], o, w, cur, ty, fz, h => h
  | v :: r, o, w, cur, ty, fz, h => by
    have h1 : (w.setCell ⟨b, o, none⟩ v).heap[b]? = some (.cells (cur.setIfInBounds o v) ty fz) := by
      simp [World.setCell, Array.getElem?_modify, h]
    rw [World.setCells]
    exact heap_setCells b r (o + 1) _ _ ty fz h1
theorem heap_setCells_other (b : Nat) : ∀ (vs : List Value) (o : Nat) (w : World) (k : Nat), k ≠ b → (w.setCells b o vs).heap[k]? = w.heap[k]?
  | [], o, w, k, h => rfl
  | v :: r, o, w, k, h => by
    rw [World.setCells, heap_setCells_other b r (o + 1) _ k h]
    simp [World.setCell, Array.getElem?_modify, Ne.symm h]
theorem rest_setCells (b : Nat) : ∀ (vs : List Value) (o : Nat) (w : World), (w.setCells b o vs).os = w.os ∧ (w.setCells b o vs).tape = w.tape ∧ (w.setCells b o vs).output = w.output ∧ (w.setCells b o vs).heap.size = w.heap.size
  | [], o, w => ⟨rfl, rfl, rfl, rfl⟩
  | v :: r, o, w => by
    rw [World.setCells]
    have := rest_setCells b r (o + 1) (w.setCell ⟨b, o, none⟩ v)
    exact ⟨this.1, this.2.1, this.2.2.1, by rw [this.2.2.2]; simp⟩
theorem putR_list (cur : Array Value) (o : Nat) (vs : List Value) (h : o + vs.length ≤ cur.size) :
    (putR cur o vs).toList = cur.toList.take o ++ vs ++ cur.toList.drop (o + vs.length) := by
  induction vs generalizing cur o with
  | nil => simp [putR]
  | cons v r ih =>
    simp only [List.length_cons] at h
    rw [putR, ih _ _ (by simp; omega)]
    apply List.ext_getElem?
    intro i
    simp only [Array.toList_setIfInBounds, List.append_assoc, List.getElem?_append, List.length_take, List.length_set, List.getElem?_take, List.getElem?_set, List.getElem?_drop, List.length_cons, List.cons_append, Array.length_toList]
    by_cases h1 : i < o
    · have a1 : i < min (o + 1) cur.size := by omega
      have a2 : i < min o cur.size := by omega
      simp [a1, a2, h1, show i < o + 1 by omega, show ¬ o = i by omega]
    · by_cases h2 : i = o
      · subst h2
        have a1 : i < min (i + 1) cur.size := by omega
        have a2 : ¬ i < min i cur.size := by omega
        have a3 : i - min i cur.size = 0 := by omega
        simp [a1, a3, show i < cur.size by omega, Nat.min_le_left]
      · have a1 : ¬ i < min (o + 1) cur.size := by omega
        have a2 : ¬ i < min o cur.size := by omega
        have a4 : min (o + 1) cur.size = o + 1 := by omega
        have a5 : min o cur.size = o := by omega
        simp only [a4, a5, show ¬ i < o + 1 by omega, show ¬ i < o by omega, if_false]
        have a6 : i - o = (i - (o + 1)) + 1 := by omega
        rw [a6]
        simp only [List.getElem?_cons_succ, List.getElem?_append]
        by_cases h3 : i - (o + 1) < r.length
        · simp [h3]
        · simp only [h3, if_false, List.getElem?_drop]
          have a7 : ¬ o = o + 1 + r.length + (i - (o + 1) - r.length) := by omega
          simp only [a7, if_false]
          congr 1
          omega
end Go.Cx
