/- A body proved on a small heap, called on a great one: the summary of a function that writes objects. -/
import Derived.Test.YtcnalhganahiiaaGreatDoorCxAe
import Derived.Test.YtcnalhganahiiaaGreatDoorCxAd
section
set_option linter.unusedVariables false
namespace Go.Cx
open Go.RowKit (Below)
set_option linter.unusedSimpArgs false
def σof (L : List Nat) (n i : Nat) : Nat := if i < L.length then L.getD i 0 else n + (i - L.length)
def bigH (L : List Nat) (hp hp2 : List Ob) : List Ob :=
  ((List.range hp.length).map fun i => if L.contains i then renO (σof L hp.length) (hp2.getD (L.idxOf i) .dead) else hp.getD i .dead) ++ (hp2.drop L.length).map (renO (σof L hp.length))
def isDead : Ob → Bool
  | .dead => true
  | .froz .. => true
  | _ => false
def okL (L : List Nat) (hp : List Ob) : Bool := distinct L && L.all fun i => decide (i < hp.length) && !isDead (hp.getD i .dead) && covO (L.contains ·) (hp.getD i .dead)
theorem distinct_nodup : ∀ {l : List Nat}, distinct l = true → l.Nodup
  | [], _ => List.nodup_nil
  | i :: l, h => by
    simp only [distinct, Bool.and_eq_true, Bool.not_eq_true', List.contains_eq_mem, decide_eq_false_iff_not] at h
    exact List.nodup_cons.2 ⟨h.1, distinct_nodup h.2⟩
def ownB (g : Gh) (i b : Nat) : Bool := g.blk i == some b || (match g.cur i with | some (_, _, b', _) => b' == some b | none => false)
theorem ownB_iff {g : Gh} {i b : Nat} : ownB g i b = true ↔ own g i b := by
  unfold ownB own
  cases hc : g.cur i with
  | none => simp
  | some x =>
    obtain ⟨v, l, b', c⟩ := x
    simp only [Bool.or_eq_true, beq_iff_eq]
    constructor
    · rintro (h | h)
      · exact .inl h
      · right; subst h; exact ⟨_, _, _, rfl⟩
    · rintro (h | ⟨_, _, _, h⟩)
      · exact .inl h
      · right; simp at h; exact h.2.2.1
def Gh.small (g : Gh) (w : World) (L : List Nat) : Gh where
  base := g.base
  w0 := w
  frz := fun b => decide (b < w.heap.size) && !(L.any fun i => ownB g i b)
  imm := g.imm
  blk := fun j => (L[j]?).bind g.blk
  cur := fun j => (L[j]?).bind g.cur
theorem idx_get {L : List Nat} (hn : L.Nodup) {j i : Nat} (h : L[j]? = some i) : L.idxOf i = j := by
  have hj := length_of_get h
  rw [List.getElem?_eq_getElem hj] at h
  simp only [Option.some.injEq] at h
  subst h
  exact hn.idxOf_getElem j hj
theorem get_idx {L : List Nat} {i : Nat} (h : i ∈ L) : L[L.idxOf i]? = some i := by
  have := List.idxOf_lt_length_of_mem h
  rw [List.getElem?_eq_getElem this, List.getElem_idxOf this]
section
variable {g : Gh} {w : World} {hp : List Ob} {L : List Nat}
structure Lok (g : Gh) (w : World) (hp : List Ob) (L : List Nat) : Prop where
  r : R g w hp
  nodup : L.Nodup
  lt : ∀ i ∈ L, i < hp.length
  live : ∀ i ∈ L, gone hp[i]? = false
  cov : ∀ i ∈ L, ∀ o, hp[i]? = some o → covO (L.contains ·) o = true
theorem Lok.of (h : R g w hp) (hL : okL L hp = true) : Lok g w hp L := by
  simp only [okL, Bool.and_eq_true, List.all_eq_true, decide_eq_true_eq, Bool.not_eq_true'] at hL
  refine ⟨h, distinct_nodup hL.1, fun i hi => (hL.2 i hi).1.1, fun i hi => ?_, fun i hi o ho => ?_⟩
  · have := (hL.2 i hi).1.2
    have hlt := (hL.2 i hi).1.1
    rw [List.getD_eq_getElem?_getD, List.getElem?_eq_getElem hlt] at this
    rw [List.getElem?_eq_getElem hlt]
    cases ho : hp[i] with
    | dead => rw [ho] at this; simp [isDead] at this
    | froz => rw [ho] at this; simp [isDead] at this
    | _ => rfl
  · have := (hL.2 i hi).2
    rwa [List.getD_eq_getElem?_getD, ho] at this
set_option linter.unusedSectionVars false
theorem Lok.mem (K : Lok g w hp L) {j i : Nat} (h : L[j]? = some i) : i ∈ L := List.mem_of_getElem? h
theorem Lok.toSmall_blk (K : Lok g w hp L) : ∀ i b, L.contains i = true → g.blk i = some b → (g.small w L).blk (τof L i) = some b := by
  intro i b hi hb
  have hm : i ∈ L := by simpa using hi
  show (L[L.idxOf i]?).bind g.blk = some b
  rw [get_idx hm]; exact hb
theorem Lok.toSmall_cur (K : Lok g w hp L) : ∀ i x, L.contains i = true → g.cur i = some x → (g.small w L).cur (τof L i) = some x := by
  intro i x hi hb
  have hm : i ∈ L := by simpa using hi
  show (L[L.idxOf i]?).bind g.cur = some x
  rw [get_idx hm]; exact hb
theorem Lok.frz_old (K : Lok g w hp L) {b : Nat} (hb : g.frz b = true) : (g.small w L).frz b = true := by
  have hlt := (K.r.frz b hb).1
  simp only [Gh.small, hlt, decide_true, Bool.true_and, Bool.not_eq_true', List.any_eq_false]
  intro i hi ho
  have := (K.r.own_lt (K.live i hi) (ownB_iff.1 ho)).1.2
  rw [hb] at this; simp at this
theorem Lok.small_own (K : Lok g w hp L) {j b : Nat} (h : own (g.small w L) j b) : ∃ i, L[j]? = some i ∧ own g i b := by
  rcases h with h | ⟨v, l, c, h⟩
  · simp only [Gh.small, Option.bind_eq_some_iff] at h
    obtain ⟨i, h1, h2⟩ := h
    exact ⟨i, h1, .inl h2⟩
  · simp only [Gh.small, Option.bind_eq_some_iff] at h
    obtain ⟨i, h1, h2⟩ := h
    exact ⟨i, h1, .inr ⟨_, _, _, h2⟩⟩
theorem Lok.free_small (K : Lok g w hp L) {i b : Nat} (hi : i ∈ L) (ho : own g i b) : (g.small w L).free b := by
  refine ⟨(K.r.own_lt (K.live i hi) ho).1.1, ?_⟩
  simp only [Gh.small, Bool.and_eq_false_iff, Bool.not_eq_false', List.any_eq_true]
  right
  exact ⟨i, hi, ownB_iff.2 ho⟩
theorem Lok.frz_other (K : Lok g w hp L) {i b : Nat} (hi : i ∉ L) (hd : gone hp[i]? = false) (ho : own g i b) : (g.small w L).frz b = true := by
  have hlt := (K.r.own_lt hd ho).2.1
  simp only [Gh.small, hlt, decide_true, Bool.true_and, Bool.not_eq_true', List.any_eq_false]
  intro k hk hok
  exact K.r.inj i k b (fun e => hi (e ▸ hk)) hd (K.live k hk) ho (ownB_iff.1 hok)
theorem Lok.toSmall (K : Lok g w hp L) : R (g.small w L) w (smallH L hp) where
  below := Below.refl _ _
  base := K.r.base
  frz := fun k hk => by
    simp only [Gh.small, Bool.and_eq_true, decide_eq_true_eq] at hk
    exact ⟨hk.1, rfl⟩
  imm := K.r.imm
  objs := fun j => by
    have hget : (smallH L hp)[j]? = (L[j]?).map fun i => renO (τof L) (hp.getD i .dead) := by simp [smallH]
    cases hj : L[j]? with
    | none =>
      rw [hget, hj]
      exact ⟨by simp [Gh.small, hj], by simp [Gh.small, hj]⟩
    | some i =>
      have hm := List.mem_of_getElem? hj
      have hlt := K.lt i hm
      obtain ⟨o, ho⟩ : ∃ o, hp[i]? = some o := ⟨_, List.getElem?_eq_getElem hlt⟩
      have hgd : hp.getD i .dead = o := by rw [List.getD_eq_getElem?_getD, ho]; rfl
      rw [hget, hj, Option.map_some, hgd]
      have k := K.r.objs i
      rw [ho] at k
      exact ObOK.renamed (g := g) (g' := g.small w L) (fun _ _ _ e => e) K.toSmall_blk K.toSmall_cur k (by simp [Gh.small, hj]) (by simp [Gh.small, hj]) (fun b ho' _ => K.free_small hm ho') (fun _ _ _ e => e) (K.cov i hm o ho)
  inj := fun i j b hij hi hj oi oj => by
    obtain ⟨i', e1, o1⟩ := K.small_own oi
    obtain ⟨j', e2, o2⟩ := K.small_own oj
    refine K.r.inj i' j' b (fun e => ?_) (K.live i' (List.mem_of_getElem? e1)) (K.live j' (List.mem_of_getElem? e2)) o1 o2
    subst e
    have h1 := idx_get K.nodup e1
    have h2 := idx_get K.nodup e2
    exact hij (h1.symm.trans h2)
theorem Lok.args (K : Lok g w hp L) {args : List AV} {vs : List Value} (h : VL g args vs) (hc : covL (L.contains ·) args = true) : VL (g.small w L) (renL (τof L) args) vs :=
  VL.renamed (g := g) (g' := g.small w L) (fun _ _ _ e => e) K.toSmall_blk K.toSmall_cur h hc
theorem Lok.back (K : Lok g w hp L) {g2 : Gh} {w' : World} {hp2 : List Ob} (hle : (g.small w L).le g2) (h2 : R g2 w' hp2) (hlen : L.length ≤ hp2.length) :
    ∃ g', g.le g' ∧ R g' w' (bigH L hp hp2) ∧ ∀ a v, V g2 a v → V g' (ren (σof L hp.length) a) v := by
  have hbase : g2.base = g.base := hle.base
  have hw0 : g2.w0 = w := hle.w0
  have hfrz : g2.frz = (g.small w L).frz := hle.frz
  have hn := K.nodup
  let idx : Nat → Nat := fun i => if L.contains i then L.idxOf i else L.length + (i - hp.length)
  let old : Nat → Bool := fun i => !L.contains i && decide (i < hp.length)
  let g' : Gh := { g with
    imm := g2.imm
    blk := fun i => if old i then g.blk i else g2.blk (idx i)
    cur := fun i => if old i then g.cur i else g2.cur (idx i) }
  have hidx : ∀ j, idx (σof L hp.length j) = j ∧ old (σof L hp.length j) = false := by
    intro j
    unfold σof
    by_cases hj : j < L.length
    · have hg : L[j]? = some (L.getD j 0) := by rw [List.getD_eq_getElem?_getD, List.getElem?_eq_getElem hj]; rfl
      have hm := List.mem_of_getElem? hg
      rw [if_pos hj]
      simp only [idx, old]
      have hc : L.contains (L.getD j 0) = true := by simpa using hm
      rw [hc]
      exact ⟨by simpa using idx_get hn hg, rfl⟩
    · rw [if_neg hj]
      have hc : L.contains (hp.length + (j - L.length)) = false := by
        simp only [List.contains_eq_mem, decide_eq_false_iff_not]
        intro hm; have := K.lt _ hm; omega
      simp only [idx, old, hc]
      refine ⟨?_, ?_⟩
      · simp; omega
      · simp
  have hblk : ∀ i b, (fun _ => true) i = true → g2.blk i = some b → g'.blk (σof L hp.length i) = some b := by
    intro j b _ hb
    show (if old (σof L hp.length j) then _ else g2.blk (idx (σof L hp.length j))) = some b
    rw [(hidx j).1, (hidx j).2]; exact hb
  have hcur : ∀ i x, (fun _ => true) i = true → g2.cur i = some x → g'.cur (σof L hp.length i) = some x := by
    intro j b _ hb
    show (if old (σof L hp.length j) then _ else g2.cur (idx (σof L hp.length j))) = some b
    rw [(hidx j).1, (hidx j).2]; exact hb
  have hnot : ∀ b, ¬ g.free b → ¬ (g.small w L).free b := by
    intro b hf hf'
    refine hf ⟨hf'.1, ?_⟩
    cases hb : g.frz b with
    | false => rfl
    | true => have := K.frz_old hb; rw [hf'.2] at this; simp at this
  have hfree : ∀ b, g2.free b → g.free b := by
    intro b hf
    rw [hle.free] at hf
    exact Classical.byContradiction fun h => hnot b h hf
  have le : g.le g' := by
    refine ⟨rfl, rfl, rfl, fun b o hb => hle.old b o (hnot b hb), fun b o v e => hle.imm b o v e, fun i b e => ?_, fun i v l b c e => ?_⟩
    · show (if old i then g.blk i else g2.blk (idx i)) = some b
      split
      · exact e
      · rename_i ho
        have hlt : i < hp.length := by
          rcases Nat.lt_or_ge i hp.length with h | h
          · exact h
          · rw [(K.r.none_blk h).1] at e; simp at e
        have hm : i ∈ L := by
          simp only [old, hlt, decide_true, Bool.and_true, Bool.not_eq_true', Bool.not_eq_false] at ho
          simpa using ho
        have hc : L.contains i = true := by simpa using hm
        simp only [idx, hc, if_true]
        exact hle.blk _ _ (K.toSmall_blk i b hc e)
    · show ∃ x, (if old i then g.cur i else g2.cur (idx i)) = some x ∧ _
      split
      · exact ⟨_, e, Hdr.refl _ _ _ _⟩
      · rename_i ho
        have hlt : i < hp.length := by
          rcases Nat.lt_or_ge i hp.length with h | h
          · exact h
          · rw [(K.r.none_blk h).2] at e; simp at e
        have hm : i ∈ L := by
          simp only [old, hlt, decide_true, Bool.and_true, Bool.not_eq_true', Bool.not_eq_false] at ho
          simpa using ho
        have hc : L.contains i = true := by simpa using hm
        simp only [idx, hc, if_true]
        exact hle.cur _ _ _ _ _ (K.toSmall_cur i _ hc e)
  have bigLen : (bigH L hp hp2).length = hp.length + (hp2.length - L.length) := by simp [bigH]
  have getOld : ∀ i, old i = true → (bigH L hp hp2)[i]? = hp[i]? := by
    intro i ho
    simp only [old, Bool.and_eq_true, Bool.not_eq_true', decide_eq_true_eq] at ho
    unfold bigH
    rw [List.getElem?_append_left (by simpa using ho.2), List.getElem?_map, List.getElem?_range ho.2, Option.map_some, ho.1]
    simp [List.getD_eq_getElem?_getD, List.getElem?_eq_getElem ho.2]
  have getNew : ∀ i, old i = false → (bigH L hp hp2)[i]? = (hp2[idx i]?).map (renO (σof L hp.length)) := by
    intro i ho
    by_cases hlt : i < hp.length
    · have hc : L.contains i = true := by
        simp only [old, hlt, decide_true, Bool.and_true, Bool.not_eq_false'] at ho; exact ho
      have hm : i ∈ L := by simpa using hc
      have hi2 : L.idxOf i < hp2.length := Nat.lt_of_lt_of_le (List.idxOf_lt_length_of_mem hm) hlen
      unfold bigH
      rw [List.getElem?_append_left (by simpa using hlt), List.getElem?_map, List.getElem?_range hlt, Option.map_some]
      simp only [idx, hc, if_true]
      simp [List.getD_eq_getElem?_getD, List.getElem?_eq_getElem hi2]
    · have hc : L.contains i = false := by
        simp only [List.contains_eq_mem, decide_eq_false_iff_not]
        intro hm; exact hlt (K.lt _ hm)
      unfold bigH
      have e : idx i = L.length + (i - hp.length) := by simp only [idx, hc]; simp
      rw [List.getElem?_append_right (by simp; omega), List.getElem?_map, List.getElem?_drop, e, List.length_map, List.length_range]
  have newIdx : ∀ i j, old i = false → old j = false → idx i = idx j → i = j := by
    intro i j hi hj e
    have inL : ∀ i, old i = false → i < hp.length → i ∈ L := by
      intro i hi hlt
      simp only [old, hlt, decide_true, Bool.and_true, Bool.not_eq_false'] at hi; simpa using hi
    have form : ∀ i, old i = false → (i ∈ L ∧ idx i = L.idxOf i ∧ L.idxOf i < L.length) ∨ (hp.length ≤ i ∧ idx i = L.length + (i - hp.length)) := by
      intro i hi
      by_cases hlt : i < hp.length
      · have hm := inL i hi hlt
        have hc : L.contains i = true := by simpa using hm
        exact .inl ⟨hm, by simp [idx, hc, hm], List.idxOf_lt_length_of_mem hm⟩
      · have hc : L.contains i = false := by
          simp only [List.contains_eq_mem, decide_eq_false_iff_not]
          intro hm; exact hlt (K.lt _ hm)
        exact .inr ⟨by omega, by simp only [idx, hc]; simp⟩
    rcases form i hi with ⟨h1, h2, h3⟩ | ⟨h1, h2⟩ <;> rcases form j hj with ⟨k1, k2, k3⟩ | ⟨k1, k2⟩
    · have e1 := get_idx h1
      have e2 := get_idx k1
      rw [h2, k2] at e
      rw [e] at e1
      rw [e1] at e2
      simpa using e2
    · omega
    · omega
    · omega
  have ownNew : ∀ i b, old i = false → own g' i b → own g2 (idx i) b := by
    intro i b ho h
    rcases h with h | ⟨v, l, c, h⟩
    · have h : (if old i then g.blk i else g2.blk (idx i)) = some b := h
      rw [ho] at h; exact .inl h
    · have h : (if old i then g.cur i else g2.cur (idx i)) = some (v, l, some b, c) := h
      rw [ho] at h; exact .inr ⟨_, _, _, h⟩
  have ownOld : ∀ i b, old i = true → own g' i b → own g i b := by
    intro i b ho h
    rcases h with h | ⟨v, l, c, h⟩
    · have h : (if old i then g.blk i else g2.blk (idx i)) = some b := h
      rw [ho] at h; exact .inl h
    · have h : (if old i then g.cur i else g2.cur (idx i)) = some (v, l, some b, c) := h
      rw [ho] at h; exact .inr ⟨_, _, _, h⟩
  have oldNotL : ∀ i, old i = true → i ∉ L := by
    intro i ho hm
    have hc : L.contains i = true := by simpa using hm
    simp only [old, hc] at ho; simp at ho
  have newDead : ∀ i, old i = false → gone (bigH L hp hp2)[i]? = false → gone hp2[idx i]? = false := by
    intro i ho hd
    rw [getNew i ho] at hd
    cases h : hp2[idx i]? with
    | none => rfl
    | some o =>
      rw [h] at hd
      cases o with
      | dead => simp [renO] at hd
      | froz => simp [renO] at hd
      | _ => rfl
  have frzOld : ∀ i b, old i = true → gone hp[i]? = false → own g i b → g2.frz b = true := by
    intro i b ho hd h
    rw [hfrz]; exact K.frz_other (oldNotL i ho) hd h
  refine ⟨g', le, ⟨?_, ?_, ?_, h2.imm, fun i => ?_, fun i j b hij hdi hdj oi oj => ?_⟩, fun a v h => ?_⟩
  · have := h2.below
    rw [hbase, hw0] at this
    exact K.r.below.trans this
  · have := h2.base; rw [hbase] at this; exact this
  · intro k hk
    have h1 := h2.frz k (by rw [hfrz]; exact K.frz_old hk)
    rw [hw0] at h1
    exact ⟨h1.1, h1.2.trans (K.r.frz k hk).2⟩
  · cases ho : old i with
    | true =>
      rw [getOld i ho]
      refine (K.r.objs i).keep rfl (by show (if old i then _ else _) = _; rw [ho]; rfl) (by show (if old i then _ else _) = _; rw [ho]; rfl) le (fun b hob hd => ?_) (fun b o' hob hd e => ?_)
      · have := (h2.frz b (frzOld i b ho hd hob)).2
        rwa [hw0] at this
      · have hnf : ¬ (g.small w L).free b := fun hf => by have := K.frz_other (oldNotL i ho) hd hob; rw [hf.2] at this; simp at this
        show g2.imm b o' = none
        rw [hle.old b o' hnf]; exact e
    | false =>
      rw [getNew i ho]
      have k := h2.objs (idx i)
      have e1 : g'.blk i = g2.blk (idx i) := by show (if old i then _ else _) = _; rw [ho]; rfl
      have e2 : g'.cur i = g2.cur (idx i) := by show (if old i then _ else _) = _; rw [ho]; rfl
      cases hh : hp2[idx i]? with
      | none => rw [hh] at k; exact ⟨e1.trans k.1, e2.trans k.2⟩
      | some o =>
        rw [hh] at k
        refine ObOK.renamed (g := g2) (g' := g') (ok := fun _ => true) (fun _ _ _ e => e) hblk hcur k e1 e2 (fun b _ hf => hfree b hf) (fun _ _ _ e => e) ?_
        cases o with
        | fix ty cs => exact covL_true cs
        | grow _ _ _ sh xs => simp [covO, covL_true xs]
        | dead => rfl
        | hole => rfl
        | froz _ _ sh xs => simp [covO, covL_true xs]
  · cases hi : old i with
    | true =>
      cases hj : old j with
      | true =>
        rw [getOld i hi] at hdi; rw [getOld j hj] at hdj
        exact K.r.inj i j b hij hdi hdj (ownOld i b hi oi) (ownOld j b hj oj)
      | false =>
        rw [getOld i hi] at hdi
        have h1 := frzOld i b hi hdi (ownOld i b hi oi)
        have h3 := (h2.own_lt (newDead j hj hdj) (ownNew j b hj oj)).1.2
        rw [h1] at h3; simp at h3
    | false =>
      cases hj : old j with
      | true =>
        rw [getOld j hj] at hdj
        have h1 := frzOld j b hj hdj (ownOld j b hj oj)
        have h3 := (h2.own_lt (newDead i hi hdi) (ownNew i b hi oi)).1.2
        rw [h1] at h3; simp at h3
      | false => exact h2.inj (idx i) (idx j) b (fun e => hij (newIdx i j hi hj e)) (newDead i hi hdi) (newDead j hj hdj) (ownNew i b hi oi) (ownNew j b hj oj)
  · exact V.renamed (g := g2) (g' := g') (ok := fun _ => true) (fun _ _ _ e => e) hblk hcur h (cov_true a)
end
def heapS (F : List AV → List Ob → Tr (AV × List Ob)) : Spec := fun args hp =>
  let L := reach hp 3 (addIds [] (idsL args))
  cond (okL L hp && covL (L.contains ·) args)
    ((F (renL (τof L) args) (smallH L hp)).bind fun x => cond (decide (L.length ≤ x.2.length)) (.r (ren (σof L hp.length) x.1, bigH L hp x.2, .heap)) .bad) .bad
theorem heapS_inv {F : List AV → List Ob → Tr (AV × List Ob)} {args : List AV} {hp : List Ob} {r : AV} {hp' : List Ob} {c : Cls} (h : (heapS F args hp).val = some (r, hp', c)) :
    ∃ L r2 hp2, L = reach hp 3 (addIds [] (idsL args)) ∧ okL L hp = true ∧ covL (L.contains ·) args = true ∧ (F (renL (τof L) args) (smallH L hp)).val = some (r2, hp2) ∧ L.length ≤ hp2.length ∧ r = ren (σof L hp.length) r2 ∧ hp' = bigH L hp hp2 ∧ c = .heap := by
  unfold heapS at h
  dsimp only at h
  generalize hL : reach hp 3 (addIds [] (idsL args)) = L at h
  cases h1 : (okL L hp && covL (L.contains ·) args) with
  | false => rw [h1] at h; simp [Tr.val, Tr.fold] at h
  | true =>
    rw [h1] at h
    simp only [cond_true, Tr.val_bind, Option.bind_eq_some_iff] at h
    obtain ⟨⟨r2, hp2⟩, h2, h3⟩ := h
    cases h4 : decide (L.length ≤ hp2.length) with
    | false => rw [h4] at h3; simp [Tr.val, Tr.fold] at h3
    | true =>
      rw [h4] at h3
      simp only [cond_true, Tr.val, Tr.fold, Option.some.injEq, Prod.mk.injEq] at h3
      simp only [Bool.and_eq_true] at h1
      exact ⟨L, r2, hp2, rfl, h1.1, h1.2, h2, of_decide_eq_true h4, h3.1.symm, h3.2.1.symm, h3.2.2.symm⟩
theorem reach_in {hp : List Ob} {P : Nat → Prop} (hc : ∀ i o, hp[i]? = some o → P i → ∀ j ∈ idsO o, P j) : ∀ (n : Nat) (L : List Nat), (∀ i ∈ L, P i) → ∀ i ∈ reach hp n L, P i
  | 0, L, h => h
  | n + 1, L, h => by
    unfold reach
    refine reach_in hc n _ ?_
    have add : ∀ (l L : List Nat), (∀ i ∈ L, P i) → (∀ i ∈ l, P i) → ∀ i ∈ addIds L l, P i := by
      intro l
      induction l with
      | nil => intro L h1 _ i hi; simpa [addIds] using h1 i (by simpa [addIds] using hi)
      | cons x l ih =>
        intro L h1 h2 i hi
        unfold addIds at hi
        cases hx : L.contains x with
        | true => rw [hx] at hi; exact ih L h1 (fun j hj => h2 j (List.mem_cons_of_mem _ hj)) i hi
        | false =>
          rw [hx] at hi
          refine ih (L ++ [x]) (fun j hj => ?_) (fun j hj => h2 j (List.mem_cons_of_mem _ hj)) i hi
          rcases List.mem_append.1 hj with hj | hj
          · exact h1 j hj
          · rw [List.mem_singleton.1 hj]; exact h2 x List.mem_cons_self
    refine add _ L h fun i hi => ?_
    obtain ⟨j, hj, hi⟩ := List.mem_flatMap.1 hi
    rw [List.getD_eq_getElem?_getD] at hi
    cases ho : hp[j]? with
    | none => rw [ho] at hi; simp [idsO] at hi
    | some o => rw [ho] at hi; exact hc j o ho (h j hj) i hi
theorem bigH_get (L : List Nat) (hp hp2 : List Ob) (i : Nat) : (bigH L hp hp2)[i]? = if i < hp.length then some (if L.contains i then renO (σof L hp.length) (hp2.getD (L.idxOf i) .dead) else hp.getD i .dead) else ((hp2.drop L.length).map (renO (σof L hp.length)))[i - hp.length]? := by
  unfold bigH
  rw [List.getElem?_append]
  simp only [List.length_map, List.length_range]
  split
  · rename_i h
    simp [h]
  · rfl
theorem heapS_loc (F : List AV → List Ob → Tr (AV × List Ob)) (args : List AV) (hp : List Ob) (r : AV) (hp' : List Ob) (h : (heapS F args hp).val = some (r, hp', .heap)) : LocC (heapS F) args hp r hp' := by
  obtain ⟨L, r2, hp2, hL, h1, h1', h2, h3, rfl, rfl, -⟩ := heapS_inv h
  intro P hP hc g2 hlen hobs
  have hLP : ∀ i ∈ L, P i := by
    rw [hL]
    exact reach_in hc 3 _ (fun i hi => by
      have : ∀ (l L : List Nat), (∀ i ∈ L, P i) → (∀ i ∈ l, P i) → ∀ i ∈ addIds L l, P i := by
        intro l
        induction l with
        | nil => intro L h1 _ i hi; simpa [addIds] using h1 i (by simpa [addIds] using hi)
        | cons x l ih =>
          intro L h1 h2 i hi
          unfold addIds at hi
          cases hx : L.contains x with
          | true => rw [hx] at hi; exact ih L h1 (fun j hj => h2 j (List.mem_cons_of_mem _ hj)) i hi
          | false =>
            rw [hx] at hi
            refine ih (L ++ [x]) (fun j hj => ?_) (fun j hj => h2 j (List.mem_cons_of_mem _ hj)) i hi
            rcases List.mem_append.1 hj with hj | hj
            · exact h1 j hj
            · rw [List.mem_singleton.1 hj]; exact h2 x List.mem_cons_self
      exact this _ [] (fun i hi => by simp at hi) hP i hi)
  have hr : reach g2 3 (addIds [] (idsL args)) = L := by
    rw [hL]
    exact reach_congr 3 _ fun i hi => hobs i (hLP i (by rw [hL]; exact hi))
  have hg : ∀ i ∈ L, g2.getD i .dead = hp.getD i .dead := fun i hi => by
    rw [List.getD_eq_getElem?_getD, List.getD_eq_getElem?_getD, hobs i (hLP i hi)]
  have hok : okL L g2 = true := by
    rw [← h1]
    unfold okL
    rw [hlen]
    congr 1
    have : ∀ l : List Nat, (∀ i ∈ l, i ∈ L) → (l.all fun i => decide (i < hp.length) && !isDead (g2.getD i .dead) && covO (L.contains ·) (g2.getD i .dead)) = (l.all fun i => decide (i < hp.length) && !isDead (hp.getD i .dead) && covO (L.contains ·) (hp.getD i .dead)) := by
      intro l
      induction l with
      | nil => intro _; rfl
      | cons x l ih =>
        intro hl
        rw [List.all_cons, List.all_cons, ih fun i hi => hl i (List.mem_cons_of_mem _ hi), hg x (hl x List.mem_cons_self)]
    exact this L fun _ h => h
  have hsm : smallH L g2 = smallH L hp := by
    unfold smallH
    exact List.map_congr_left fun i hi => by rw [hg i hi]
  refine ⟨bigH L g2 hp2, ?_, ?_, ?_, ?_⟩
  · unfold heapS
    dsimp only
    rw [hr, hok, h1', hsm]
    simp only [Bool.and_self, cond_true, Tr.val_bind, h2, Option.bind_some, decide_eq_true h3, hlen]; rfl
  · simp [bigH, hlen]
  · rintro i hi
    rw [bigH_get, bigH_get, hlen]
    by_cases hlt : i < hp.length
    · rw [if_pos hlt, if_pos hlt]
      rcases hi with hi | hi
      · have e : g2.getD i .dead = hp.getD i .dead := by rw [List.getD_eq_getElem?_getD, List.getD_eq_getElem?_getD, hobs i hi]
        rw [e]
      · omega
    · rw [if_neg hlt, if_neg hlt]
  · intro i hi hlt
    rw [bigH_get, hlen, if_pos hlt]
    have : L.contains i = false := by
      cases hx : L.contains i with
      | false => rfl
      | true => exact absurd (hLP i (by simpa using hx)) hi
    have e : g2[i]? = some (g2.getD i .dead) := by rw [List.getD_eq_getElem?_getD, List.getElem?_eq_getElem (show i < g2.length by omega)]; rfl
    rw [this, e]
    simp
def Wk (r' : AV) (hp' : List Ob) (r : AV) (hp : List Ob) : Prop := ∀ g w v, R g w hp' → V g r' v → ∃ g2, g.le g2 ∧ R g2 w hp ∧ V g2 r v
theorem Wk.refl (r : AV) (hp : List Ob) : Wk r hp r hp := fun g _ _ h k => ⟨g, Gh.le.refl g, h, k⟩
theorem LayAt.small {P : Program} {g : Gh} {w : World} {hp : List Ob} (h : LayAt P g) (hr : R g w hp) (L : List Nat) : LayAt P (g.small w L) := fun w' hw => h w' (hr.below.trans hw)
theorem sound_heap {E : En} (hE : EnOK E) (hm : E.P.follows .mixedOrders = true) {f : FuncId} {fn : Func} {c : Code} (hf : E.P.funcs[f]? = some fn) (hb : fn.body = some c)
    (hn : (fn.name == "runtime.NumGoroutine") = false) {F : List AV → List Ob → Tr (AV × List Ob)}
    (h : ∀ args hp r hp2, (F args hp).val = some (r, hp2) → hp.length ≤ hp2.length → ∀ g w vs, R g w hp → VL g args vs →
      ∃ g1 as hp1 k, g.le g1 ∧ R g1 w hp1 ∧ VL g1 as vs ∧ hp1.length ≤ k ∧ hp1.length ≤ E.base ∧ callA { E with keep := k } fn as hp1 (fun r' hp' => Wk r' hp' r hp2)) : Sound E.P f (heapS F) where
  body := ⟨fn, c, hf, hb, hn⟩
  pure := by
    intro args hp r hp' hs
    obtain ⟨_, _, _, _, _, _, _, _, _, _, e⟩ := heapS_inv hs
    simp at e
  read := by
    intro args hp r hp' hs
    obtain ⟨_, _, _, _, _, _, _, _, _, _, e⟩ := heapS_inv hs
    simp at e
  heap := fun args hp r hp' h => heapS_loc F args hp r hp' h
  calls := by
    intro args hp r hp' cl hs g w vs hLy hR hv
    obtain ⟨L, r2, hp2, -, h1, h1', h2, h3, rfl, rfl, rfl⟩ := heapS_inv hs
    have K := Lok.of hR h1
    obtain ⟨g1, as, hp1, k, q1, q2, q3, q4, q5, hcall⟩ := h _ _ _ _ h2 (by simpa [smallH] using h3) _ w vs K.toSmall (K.args hv h1')
    refine Calls.mono (calls_heap (E := { E with keep := k }) hE hm hf hb q4 q5 hcall ((hLy.small hR L).le q1) q2 q3) ?_
    rintro e w' ⟨v, g2, r', hp3, rfl, hle, hR2, hV, hwk⟩
    obtain ⟨g3, i1, i2, i3⟩ := hwk _ _ _ hR2 hV
    obtain ⟨g', j1, j2, j3⟩ := K.back ((q1.trans hle).trans i1) i2 h3
    exact ⟨v, g', rfl, j1, j2, j3 _ _ i3⟩
end Go.Cx

end

section
namespace Go.Cx
open Go.RowKit (Below)
def en (P : Program) (T : FuncId → Option Spec) (own : List Nat) (nm : List (Nat × Nm)) (virt : List (Nat × List (Nat × Nat × Sh))) (virtAt : List (Nat × List (Nat × Nat × Sh))) : En :=
  ⟨P, T, fun s => own.contains s, fun r => (nm.lookup r).getD {forget := [], weak := [], weakO := []}, 0, 0, false, fun r => (virt.lookup r).getD [], fun r => (virtAt.lookup r).getD []⟩
def TblOK (P : Program) (T : FuncId → Option Spec) : Prop := ∀ f s, T f = some s → Sound P f s
theorem TblOK.none (P : Program) : TblOK P (fun _ => none) := fun _ _ h => by simp at h
def addT (T : FuncId → Option Spec) (f : FuncId) (s : Spec) : FuncId → Option Spec := fun g => if g = f then some s else T g
theorem TblOK.add {P : Program} {T : FuncId → Option Spec} (h : TblOK P T) {f : FuncId} {s : Spec} (hs : Sound P f s) : TblOK P (addT T f s) := by
  intro g s' e
  unfold addT at e
  split at e
  · rename_i hg; subst hg; simp at e; subst e; exact hs
  · exact h g s' e
theorem TblOK.en {P : Program} {T : FuncId → Option Spec} (h : TblOK P T) (own : List Nat) (nm : List (Nat × Nm)) (virt virtAt : List (Nat × List (Nat × Nat × Sh))) : EnOK (Cx.en P T own nm virt virtAt) := h
def flatS (F : List AV → Option AV) : Spec := fun args hp => match F args with
  | some r => .r (r, hp, .pure)
  | none => .bad
theorem flatS_inv {F : List AV → Option AV} {args : List AV} {hp : List Ob} {r : AV} {hp' : List Ob} {c : Cls} (h : (flatS F args hp).val = some (r, hp', c)) : F args = some r ∧ hp' = hp ∧ c = .pure := by
  unfold flatS at h
  cases hF : F args with
  | none => rw [hF] at h; simp [Tr.val, Tr.fold] at h
  | some r' => rw [hF] at h; simp only [Tr.val, Tr.fold, Option.some.injEq, Prod.mk.injEq] at h; exact ⟨by rw [h.1], h.2.1.symm, h.2.2.symm⟩
theorem sound_contract {P : Program} {f : FuncId} {fn : Func} {c : Code} (hf : P.funcs[f]? = some fn) (hb : fn.body = some c) (hn : (fn.name == "runtime.NumGoroutine") = false) {F : List AV → Option AV}
    (h : ∀ args r, F args = some r → ∀ g w vs, VL g args vs → Calls P f vs.toArray w fun e w' => ∃ v, e = .returned v ∧ w' = w ∧ V g r v) : Sound P f (flatS F) where
  body := ⟨fn, c, hf, hb, hn⟩
  pure := by
    intro args hp r hp' hs
    obtain ⟨h1, rfl, -⟩ := flatS_inv hs
    exact ⟨rfl, fun h2 => by unfold flatS; rw [h1]; rfl⟩
  read := by
    intro args hp r hp' hs
    exact (flatS_inv hs).2.1
  heap := by
    intro args hp r hp' hs
    have := (flatS_inv hs).2.2
    simp at this
  calls := by
    intro args hp r hp' cl hs g w vs _ hR hv
    obtain ⟨h1, rfl, -⟩ := flatS_inv hs
    refine Calls.mono (h _ _ h1 g w vs hv) ?_
    rintro e w' ⟨v, rfl, rfl, hV⟩
    exact ⟨v, g, rfl, Gh.le.refl g, hR, hV⟩
end Go.Cx

end

section
namespace Go.Cx
set_option linter.unusedVariables false
open Go.RowKit (Below)
set_option linter.unusedSimpArgs false
def Told : AV → AV → Prop
  | .slice sz sh xs .ro, b => b = .slice sz sh xs .nn ∨ (xs = [] ∧ b = .nilsl)
  | a, b => b = a
def ToldL : List AV → List AV → Prop
  | [], [] => True
  | a :: l, b :: m => Told a b ∧ ToldL l m
  | _, _ => False
theorem Told.V {g : Gh} {a : AV} {v : Value} (h : V g a v) : ∃ b, Told a b ∧ V g b v := by
  cases h with
  | slice sz sh xs k vs b o c h1 h2 h3 h4 h5 h6 =>
    cases k with
    | ro => exact ⟨_, .inl rfl, .slice sz sh xs .nn vs b o c h1 h2 h3 h4 h5 h6⟩
    | nn => exact ⟨_, rfl, .slice sz sh xs .nn vs b o c h1 h2 h3 h4 h5 h6⟩
  | slice0 sz sh => exact ⟨_, .inr ⟨rfl, rfl⟩, .nilsl⟩
  | slice1 sz sh k a c =>
    cases k with
    | ro => exact ⟨_, .inl rfl, .slice1 sz sh .nn a c⟩
    | nn => exact ⟨_, rfl, .slice1 sz sh .nn a c⟩
  | int k n => exact ⟨_, rfl, .int k n⟩
  | bool b => exact ⟨_, rfl, .bool b⟩
  | str s hs => exact ⟨_, rfl, .str s hs⟩
  | ptr id off b hb => exact ⟨_, rfl, .ptr id off b hb⟩
  | nilptr => exact ⟨_, rfl, .nilptr⟩
  | rptr cs vs b o h1 h2 h3 => exact ⟨_, rfl, .rptr cs vs b o h1 h2 h3⟩
  | nilsl => exact ⟨_, rfl, .nilsl⟩
  | fslice sz sh xs ys vs b o h1 h2 h3 h4 h5 => exact ⟨_, rfl, .fslice sz sh xs ys vs b o h1 h2 h3 h4 h5⟩
  | oslice id ver len b c x hx hh => exact ⟨_, rfl, .oslice id ver len b c x hx hh⟩
  | oslice0 id ver x hx hh => exact ⟨_, rfl, .oslice0 id ver x hx hh⟩
  | optr id ver len sz i j b c x hx hh => exact ⟨_, rfl, .optr id ver len sz i j b c x hx hh⟩
  | func f pre post vs ws h1 h2 h3 h4 => exact ⟨_, rfl, .func f pre post vs ws h1 h2 h3 h4⟩
  | nilfunc => exact ⟨_, rfl, .nilfunc⟩
  | agg cs vs h1 h2 => exact ⟨_, rfl, .agg cs vs h1 h2⟩
  | tuple cs vs h1 h2 => exact ⟨_, rfl, .tuple cs vs h1 h2⟩
  | nilIface => exact ⟨_, rfl, .nilIface⟩
  | junk v => exact ⟨_, rfl, .junk v⟩
theorem ToldL.VL {g : Gh} : ∀ {l : List AV} {vs : List Value}, VL g l vs → ∃ m, ToldL l m ∧ VL g m vs
  | [], vs, h => ⟨[], trivial, h⟩
  | a :: l, vs, h => by
    obtain ⟨v, vs, rfl, h1, h2⟩ := h.cons_inv
    obtain ⟨b, k1, k2⟩ := Told.V h1
    obtain ⟨m, k3, k4⟩ := ToldL.VL h2
    exact ⟨b :: m, ⟨k1, k3⟩, VL.cons k2 k4⟩
theorem sound_pure_g {E : En} (hE : EnOK E) (hm : E.P.follows .mixedOrders = true) (h0 : E.keep = 0) {f : FuncId} {fn : Func} {c : Code} (hf : E.P.funcs[f]? = some fn) (hb : fn.body = some c)
    (hn : (fn.name == "runtime.NumGoroutine") = false) {F : List AV → Tr AV} (h : ∀ args r, (F args).val = some r → ∀ g vs, VL g args vs → ∃ as, VL g as vs ∧ callA E fn as [] (fun r' _ => Lo r' r)) : Sound E.P f (pureS F) := by
  refine ⟨⟨fn, c, hf, hb, hn⟩, ?_, ?_, fun args hp r hp' hs => by
    obtain ⟨_, ⟨_, _, e⟩ | ⟨_, _, _, _, _, e⟩⟩ := pureS_inv hs <;> simp at e, ?_⟩
  · intro args hp r hp' hs
    obtain ⟨rfl, ⟨h1, h2, -⟩ | ⟨_, _, _, _, _, e⟩⟩ := pureS_inv hs
    · refine ⟨rfl, fun h3 => ?_⟩
      unfold pureS
      rw [h1]
      simp only [cond_true, Tr.val_map, h2, Option.map_some]
    · simp at e
  · intro args hp r hp' hs
    exact (pureS_inv hs).1
  · intro args hp r hp' cl hs g w vs hLy hR hv
    obtain ⟨rfl, ⟨hr, hF, rfl⟩ | ⟨_, hvw, hlk, hF, hpl, rfl⟩⟩ := pureS_inv hs
    · have hsub : (g.trim 0).sub (.still w g.imm) := ⟨fun _ _ _ e => e, fun _ _ e => by simp [Gh.trim] at e, fun _ _ _ _ _ e => by simp [Gh.trim] at e⟩
      have hv0 : VL (.still w g.imm) args vs := (hv.trim hr).sub hsub
      obtain ⟨args', t2, t1⟩ := h args _ hF _ _ hv0
      refine Calls.mono (calls_small hE hm h0 hf hb t1 (hLy.still hR _) (R.still hR.imm) t2) ?_
      rintro e w' ⟨v, g3, r, rfl, hle, hR3, hV, hrf, hlo⟩
      obtain ⟨g', hg, hR', hi⟩ := hR.back hle hR3
      refine ⟨v, g', rfl, hg, hR', ?_⟩
      have hi := hi (fun _ _ _ => rfl)
      have hsub : (g3.trim 0).sub g' := ⟨fun b o v e => by rw [hi]; exact e, fun _ _ e => by simp [Gh.trim] at e, fun _ _ _ _ _ e => by simp [Gh.trim] at e⟩
      exact hlo _ _ ((hV.trim (.inr hrf)).sub hsub)
    · have hv0 := viewPL_V hR args hv hlk hvw
      obtain ⟨args', t2, t1⟩ := h _ _ hF _ _ hv0
      refine Calls.mono (calls_small hE hm h0 hf hb t1 (hLy.still hR _) (R.still fun _ _ _ e => e) t2) ?_
      rintro e w' ⟨v, g3, r, rfl, hle, hR3, hV, hrf, hlo⟩
      obtain ⟨g', hg, hR', -⟩ := hR.back hle hR3
      exact ⟨v, g', rfl, hg, hR', plain_V _ hpl (hlo _ _ hV)⟩
theorem sound_pure_ro {E : En} (hE : EnOK E) (hm : E.P.follows .mixedOrders = true) (h0 : E.keep = 0) {f : FuncId} {fn : Func} {c : Code} (hf : E.P.funcs[f]? = some fn) (hb : fn.body = some c)
    (hn : (fn.name == "runtime.NumGoroutine") = false) {F : List AV → Tr AV} (h : ∀ args r, (F args).val = some r → ∀ args', ToldL args args' → callA E fn args' [] (fun r' _ => Lo r' r)) : Sound E.P f (pureS F) :=
  sound_pure_g hE hm h0 hf hb hn fun args r hF g vs hv => by
    obtain ⟨m, h1, h2⟩ := ToldL.VL hv
    exact ⟨m, h2, h args r hF m h1⟩
theorem sound_pure {E : En} (hE : EnOK E) (hm : E.P.follows .mixedOrders = true) (h0 : E.keep = 0) {f : FuncId} {fn : Func} {c : Code} (hf : E.P.funcs[f]? = some fn) (hb : fn.body = some c)
    (hn : (fn.name == "runtime.NumGoroutine") = false) {F : List AV → Tr AV} (h : ∀ args r, (F args).val = some r → callA E fn args [] (fun r' _ => Lo r' r)) : Sound E.P f (pureS F) :=
  sound_pure_g hE hm h0 hf hb hn fun args r hF g vs hv => ⟨args, hv, h args r hF⟩
theorem Lo.nn {sz : Nat} {sh : Sh} {xs : List AV} {k : SK} : Lo (.slice sz sh xs k) (.slice sz sh xs .ro) := fun _ _ h => slice_weak h
theorem Lo.nil {sz : Nat} {sh : Sh} : Lo .nilsl (.slice sz sh [] .ro) := fun _ _ h => by cases h; exact .slice0 sz sh
end Go.Cx

end
