/- Single operations: loads, stores, cuts. -/
import Derived.Test.YtfhgmpeplfjmcaaCxF
namespace Go.Cx
open Go.RowKit (Below)
set_option linter.unusedSimpArgs false
theorem flat_cons (x : AV) (xs : List AV) : flat (x :: xs) = cells x ++ flat xs := rfl
theorem flat_len {sz : Nat} : ∀ {xs : List AV}, (∀ x ∈ xs, (cells x).length = sz) → (flat xs).length = xs.length * sz
  | [], _ => by simp [flat]
  | x :: xs, h => by
    rw [flat_cons, List.length_append, h x (by simp), flat_len (fun y hy => h y (by simp [hy])), List.length_cons, Nat.succ_mul, Nat.add_comm]
theorem flat_take {sz : Nat} : ∀ {xs : List AV} (n : Nat), (∀ x ∈ xs, (cells x).length = sz) → flat (xs.take n) = (flat xs).take (n * sz)
  | [], n, _ => by simp [flat]
  | x :: xs, 0, h => by simp [flat]
  | x :: xs, n + 1, h => by
    have hx := h x (by simp)
    rw [List.take_succ_cons, flat_cons, flat_cons, flat_take n (fun y hy => h y (by simp [hy])), List.take_append, hx, Nat.succ_mul]
    rw [List.take_of_length_le (l := cells x) (by omega), show n * sz + sz - sz = n * sz by omega]
theorem flat_drop {sz : Nat} : ∀ {xs : List AV} (n : Nat), (∀ x ∈ xs, (cells x).length = sz) → flat (xs.drop n) = (flat xs).drop (n * sz)
  | [], n, _ => by simp [flat]
  | x :: xs, 0, h => by simp [flat]
  | x :: xs, n + 1, h => by
    have hx := h x (by simp)
    rw [List.drop_succ_cons, flat_cons, flat_drop n (fun y hy => h y (by simp [hy])), List.drop_append, hx, Nat.succ_mul]
    rw [List.drop_of_length_le (l := cells x) (by omega), show n * sz + sz - sz = n * sz by omega]; rfl
theorem flat_seg {sz : Nat} {xs : List AV} {i : Nat} {x : AV} (h : ∀ x ∈ xs, (cells x).length = sz) (hx : xs[i]? = some x) : ((flat xs).drop (i * sz)).take sz = cells x := by
  rw [← flat_drop i h]
  have : xs.drop i = x :: xs.drop (i + 1) := by
    have hlt := length_of_get hx
    rw [List.drop_eq_getElem_cons hlt]
    congr 1
    rw [List.getElem?_eq_getElem hlt] at hx; exact Option.some.inj hx
  rw [this, flat_cons, List.take_left' (h x (List.mem_of_getElem? hx))]
theorem flat_set {sz : Nat} : ∀ {xs : List AV} {i : Nat} {y : AV}, (∀ x ∈ xs, (cells x).length = sz) → i < xs.length → flat (xs.set i y) = (flat xs).take (i * sz) ++ cells y ++ (flat xs).drop (i * sz + sz)
  | x :: xs, 0, y, h, _ => by
    have hx := h x (by simp)
    simp only [List.set_cons_zero, flat_cons, Nat.zero_mul, List.take_zero, List.nil_append, Nat.zero_add]
    rw [List.drop_left' hx]
  | x :: xs, i + 1, y, h, hi => by
    have hx := h x (by simp)
    simp only [List.set_cons_succ, flat_cons]
    rw [flat_set (fun z hz => h z (by simp [hz])) (by simpa using hi), Nat.succ_mul, List.take_append, List.drop_append, hx]
    rw [List.take_of_length_le (l := cells x) (by omega), List.drop_of_length_le (l := cells x) (by omega), show i * sz + sz - sz = i * sz by omega, show i * sz + sz + sz - sz = i * sz + sz by omega]
    simp
theorem elemAt_eq {sh : Sh} {xs : List AV} {i : Nat} {x : AV} (h : ∀ x ∈ xs, reshape sh x = x) (hx : xs[i]? = some x) : elemAt sh xs i = x := by
  unfold elemAt
  rw [List.getD_eq_getElem?_getD, hx]
  exact h x (List.mem_of_getElem? hx)
theorem grown_inv {α : Type} {hp : List Ob} {id ver len : Nat} {K : TypeId → Nat → Sh → List AV → Option α} {r : α} (h : grown none hp id ver len K = some r) :
    ∃ ty sz sh xs, hp[id]? = some (.grow ty ver sz sh xs) ∧ len = xs.length ∧ K ty sz sh xs = some r := by
  unfold grown at h
  split at h
  · rename_i ty ver' sz sh xs he
    obtain ⟨h1, k1⟩ := ask_some h
    obtain ⟨h2, k2⟩ := ask_some k1
    simp at h1 h2; subst h1
    exact ⟨ty, sz, sh, xs, he, h2, k2⟩
  · simp at h
theorem grownR_inv {α : Type} {hp : List Ob} {id ver len : Nat} {K : Nat → Sh → List AV → Option α} {r : α} (h : grownR none hp id ver len K = some r) :
    ∃ sz sh xs, ((∃ ty, hp[id]? = some (.grow ty ver sz sh xs)) ∨ hp[id]? = some (.froz ver sz sh xs)) ∧ len = xs.length ∧ K sz sh xs = some r := by
  unfold grownR at h
  split at h
  · rename_i ty ver' sz sh xs he
    obtain ⟨h1, k1⟩ := ask_some h
    obtain ⟨h2, k2⟩ := ask_some k1
    simp at h1 h2; subst h1
    exact ⟨sz, sh, xs, .inl ⟨ty, he⟩, h2, k2⟩
  · rename_i ver' sz sh xs he
    obtain ⟨h1, k1⟩ := ask_some h
    obtain ⟨h2, k2⟩ := ask_some k1
    simp at h1 h2; subst h1
    exact ⟨sz, sh, xs, .inr he, h2, k2⟩
  · simp at h
structure GrowOK (g : Gh) (w : World) (id ver sz : Nat) (sh : Sh) (xs : List AV) (b c : Nat) (vs : Array Value) (ty : TypeId) (fz : Nat × Nat) : Prop where
  cur : g.cur id = some (ver, xs.length, some b, c)
  blk : g.blk id = none
  base : g.free b
  heap : w.heap[b]? = some (.cells vs ty fz)
  size : vs.size = c * sz
  pos : 0 < sz
  le : xs.length ≤ c
  vl : VL g (flat xs) (vs.toList.take (xs.length * sz))
  sh : ∀ x ∈ xs, reshape sh x = x ∧ (cells x).length = sz ∧ (cells x).all oneCell
  lim : xs.length < TOP
  imm : ∀ o, g.imm b o = none
  froz : ∀ o, o < vs.size → w.frozen? ⟨b, o, none⟩ = false
section
variable {P : Program} {g : Gh} {w : World} {hp : List Ob}
structure VirtOK (g : Gh) (id ver sz : Nat) (xs : List AV) : Prop where
  nil : xs = []
  pos : 0 < sz
  cur : g.cur id = some (ver, 0, none, 0)
  blk : g.blk id = none
theorem VirtOK.slice {id ver sz : Nat} (k : VirtOK g id ver sz []) {cv : Value} (h : V g (.oslice id ver 0) cv) : cv = .slice none 0 0 := by
  cases h with
  | oslice _ _ _ b' c' x hx hh =>
    rw [k.cur] at hx; cases hx
    rcases hh with hh | ⟨_, _, hh⟩
    · omega
    · have := (hh rfl).1; simp at this
  | oslice0 _ _ x hx hh => rfl
theorem R.growOK (h : R g w hp) {ty : TypeId} {id ver sz : Nat} {sh : Sh} {xs : List AV} (he : hp[id]? = some (.grow ty ver sz sh xs)) : VirtOK g id ver sz xs ∨ ∃ b c vs fz, GrowOK g w id ver sz sh xs b c vs ty fz := by
  have := h.objs id
  rw [he] at this
  obtain ⟨k1, ⟨k0, k3, k2⟩ | ⟨b, c, vs, fz, k2, k3, k4, k5, k6, k7, k8, k9, klim, k10, k11⟩⟩ := this
  · exact .inl ⟨k0, k3, k2, k1⟩
  right
  exact ⟨b, c, vs, fz, k2, k1, k3, k4, k5, k6, k7, k8, k9, klim, k10, k11⟩
theorem R.frozV (h : R g w hp) {id ver sz : Nat} {sh : Sh} {xs : List AV} (he : hp[id]? = some (.froz ver sz sh xs)) {cv : Value} (hV : V g (.oslice id ver xs.length) cv) : V g (.slice sz sh xs .ro) cv := by
  have := h.objs id
  rw [he] at this
  obtain ⟨-, b, c, hc, hs⟩ := this
  generalize hn : xs.length = n at hV hc hs
  cases hV with
  | oslice _ _ _ b' c' x hx hh =>
    rw [hc] at hx; cases hx
    rcases hh with hh | ⟨_, _, hh⟩
    · omega
    · obtain ⟨h1, h2⟩ := hh rfl
      subst h1 h2; exact hs
  | oslice0 _ _ x hx hh =>
    rw [hc] at hx; cases hx
    rcases hh with hh | ⟨_, _, hh⟩
    · omega
    · obtain ⟨h1, h2⟩ := hh rfl
      subst h1 h2; exact hs
theorem R.frozP (h : R g w hp) {id ver sz : Nat} {sh : Sh} {xs : List AV} (he : hp[id]? = some (.froz ver sz sh xs)) {s i j : Nat} {cv : Value} (hV : V g (.optr id ver xs.length s i j) cv) : ∃ b c, cv = .pointer (some ⟨b, i * s + j, none⟩) ∧ V g (.slice sz sh xs .ro) (.slice (some ⟨b, 0, none⟩) xs.length c) := by
  have := h.objs id
  rw [he] at this
  obtain ⟨-, b, c, hc, hs⟩ := this
  generalize hn : xs.length = n at hV hc hs
  cases hV with
  | optr _ _ _ _ _ _ b' c' x hx hh =>
    rw [hc] at hx; cases hx
    rcases hh with hh | ⟨_, _, hh⟩
    · omega
    · obtain ⟨h1, h2⟩ := hh rfl
      subst h1 h2; exact ⟨_, _, rfl, hs⟩
theorem GrowOK.slice {id ver sz : Nat} {sh : Sh} {xs : List AV} {b c : Nat} {vs : Array Value} {ty : TypeId} {fz : Nat × Nat} (k : GrowOK g w id ver sz sh xs b c vs ty fz) {cv : Value}
    (h : V g (.oslice id ver xs.length) cv) : cv = .slice (some ⟨b, 0, none⟩) xs.length c := by
  have hc := k.cur
  generalize xs.length = n at h hc
  cases h with
  | oslice _ _ _ b' c' x hx hh =>
    rw [hc] at hx; cases hx
    rcases hh with hh | ⟨_, _, hh⟩
    · omega
    · have := hh rfl; simp at this; obtain ⟨rfl, rfl⟩ := this; rfl
  | oslice0 _ _ x hx hh =>
    rw [hc] at hx; cases hx
    rcases hh with hh | ⟨_, _, hh⟩
    · omega
    · have := (hh rfl).1; simp at this
theorem GrowOK.addr {id ver sz : Nat} {sh : Sh} {xs : List AV} {b c : Nat} {vs : Array Value} {ty : TypeId} {fz : Nat × Nat} (k : GrowOK g w id ver sz sh xs b c vs ty fz) {i j sz' : Nat} {cv : Value}
    (h : V g (.optr id ver xs.length sz' i j) cv) : cv = .pointer (some ⟨b, i * sz' + j, none⟩) := by
  cases h with
  | optr _ _ _ _ _ _ b' c' x hx hh =>
    rw [k.cur] at hx; cases hx
    rcases hh with hh | ⟨_, _, hh⟩
    · omega
    · have := hh rfl; simp at this; obtain ⟨rfl, rfl⟩ := this; rfl
theorem GrowOK.lies {id ver sz : Nat} {sh : Sh} {xs : List AV} {b c : Nat} {vs : Array Value} {ty : TypeId} {fz : Nat × Nat} (k : GrowOK g w id ver sz sh xs b c vs ty fz) : Lies w b 0 (vs.toList.take (xs.length * sz)) :=
  (lies_block k.heap).take _
theorem loadA_sound (h : R g w hp) {t : TypeId} {a v : AV} {c : Cls} (hl : loadA none P t a hp (fun v c => some (v, c)) = some (v, c)) {ca : Value} (ha : V g a ca) :
    ∃ cv, (Instr.loadAt t ca).run P w = .ok cv w ∧ V g v cv := by
  have cps : ∀ {cs : List AV} {off : Nat} {c' : Cls}, fromCells none P t cs off (fun v => some (v, c')) = some (v, c) → fromCells none P t cs off some = some v := by
    intro cs off c' hh
    unfold fromCells at hh ⊢
    split at hh
    · split at hh <;> simp at hh ⊢; simp_all
    · split at hh <;> simp at hh ⊢; simp_all
    · simp at hh
    · split at hh <;> simp at hh ⊢; simp_all
  unfold loadA at hl
  split at hl
  · rename_i id off
    split at hl
    · rename_i cs he
      have k := h.objs id
      rw [he] at k
      obtain ⟨_, b, vs, fz, k2, k3, k4, k5, k6, k7, k8⟩ := k
      cases ha with
      | ptr _ _ b' hb =>
        rw [k2] at hb; cases hb
        obtain ⟨cv, hr, hV⟩ := (fromCells_sound (w := w) (cps hl) k5).1 b 0 (lies_block k4)
        rw [Nat.zero_add] at hr
        exact ⟨cv, by simpa [Instr.loadAt, Instr.sureAddr] using hr, hV⟩
    · simp at hl
  · rename_i cs
    cases ha with
    | rptr _ vs b o h1 h2 h3 =>
      obtain ⟨cv, hr, hV⟩ := (fromCells_sound (w := w) (cps hl) ⟨h1, h2⟩).1 b o (lies_at h.imm h3)
      exact ⟨cv, by simpa [Instr.loadAt, Instr.sureAddr] using hr, hV⟩
  · rename_i id ver len sz i j
    obtain ⟨sz', sh, xs, he, rfl, hl⟩ := grownR_inv hl
    obtain ⟨hs, hl1⟩ := ask_some hl
    obtain ⟨hi, hl2⟩ := ask_some hl1
    clear hl hl1
    simp at hs hi; subst hs
    rcases he with ⟨tyo, he⟩ | he
    rotate_left
    · obtain ⟨b, cc, rfl, hs⟩ := h.frozP he ha
      cases hs with
      | slice1 => simp at hi
      | slice _ _ _ _ vs _ _ _ h1 h2 h3 h4 h5 h6 =>
        have hx : xs[i]? = some xs[i] := by simp [hi]
        rw [elemAt_eq (fun x hx => (h4 x hx).1) hx] at hl2
        have hw : ∀ x ∈ xs, (cells x).length = sz := fun x hx => (h4 x hx).2.1
        have hv := (VL.drop (i * sz) (show VL g (flat xs) vs from ⟨h1, h2⟩)).take sz
        rw [flat_seg hw hx] at hv
        obtain ⟨cv, hr, hV⟩ := (fromCells_sound (w := w) (cps hl2) hv).1 b (i * sz) (by have := ((lies_at h.imm h3).drop (i * sz)).take sz; rwa [Nat.zero_add] at this)
        exact ⟨cv, by simpa [Instr.loadAt, Instr.sureAddr] using hr, hV⟩
    rcases h.growOK he with k | ⟨b, cc, vs, fz, k⟩
    · rw [k.nil] at hi; simp at hi
    rw [k.addr ha]
    have hx : xs[i]? = some xs[i] := by simp [hi]
    rw [elemAt_eq (fun x hx => (k.sh x hx).1) hx] at hl2
    have hw : ∀ x ∈ xs, (cells x).length = sz := fun x hx => (k.sh x hx).2.1
    have hv := (k.vl.drop (i * sz)).take sz
    rw [flat_seg hw hx] at hv
    obtain ⟨cv, hr, hV⟩ := (fromCells_sound (w := w) (cps hl2) hv).1 b (i * sz) (by have := (k.lies.drop (i * sz)).take sz; rwa [Nat.zero_add] at this)
    exact ⟨cv, by simpa [Instr.loadAt, Instr.sureAddr] using hr, hV⟩
  · simp at hl
theorem setRange_VL : ∀ {vs : List AV} {cvs : List Value} {cs : List AV} {cur : Array Value} {off : Nat}, VL g vs cvs → VL g cs cur.toList → VL g (setRange cs off vs) (putR cur off cvs).toList
  | [], cvs, cs, cur, off, h, k => by rw [h.nil_inv]; exact k
  | v :: vs, cvs, cs, cur, off, h, k => by
    obtain ⟨cv, cvs', rfl, h1, h2⟩ := h.cons_inv
    rw [setRange, putR]
    exact setRange_VL h2 (by simpa using k.set off h1)
theorem setRange_one : ∀ {vs cs : List AV} {off : Nat}, (∀ c ∈ vs, oneCell c) → (∀ c ∈ cs, oneCell c) → ∀ c ∈ setRange cs off vs, oneCell c
  | [], cs, off, _, k, c, hc => k c hc
  | v :: vs, cs, off, h, k, c, hc => by
    rw [setRange] at hc
    refine setRange_one (fun x hx => h x (by simp [hx])) (fun x hx => ?_) c hc
    rcases List.mem_or_eq_of_mem_set hx with hx | rfl
    · exact k x hx
    · exact h x (by simp)
theorem store_own (b o : Nat) {vs : Array Value} {ty : TypeId} {fz : Nat × Nat} (hb : w.heap[b]? = some (.cells vs ty fz)) (hf : ∀ o, o < vs.size → w.frozen? ⟨b, o, none⟩ = false) (new : List Value) (hn : o + new.length ≤ vs.size)
    (h1 : ∀ v ∈ new, v.oneCell' = true) : (storeCells ⟨b, o, none⟩ new).run P w = .ok () (w.setCells b o new) := by
  have := run_storeCells_cells (P := P) b o new 0 w (fun j hj => ?_) (fun j hj => hf _ (by omega)) h1
  · simpa using this
  · have hlt : o + 0 + j < vs.size := by omega
    simp only [World.cell?, hb]
    simp [hlt]
    omega
theorem storeVar_own {t : TypeId} {i : TypeInfo} (ht : P.info? t = some i) (b o : Nat) {vs : Array Value} {ty : TypeId} {fz : Nat × Nat} (hb : w.heap[b]? = some (.cells vs ty fz)) (hf : ∀ o, o < vs.size → w.frozen? ⟨b, o, none⟩ = false)
    (cv : Value) (hs : cv.cells.size = sizeA P t) (hn : o + cv.cells.size ≤ vs.size) (h1 : ∀ v ∈ cv.cells.toList, v.oneCell' = true) :
    (storeVar t ⟨b, o, none⟩ cv).run P w = .ok () (w.setCells b o cv.cells.toList) := by
  have := store_own (P := P) b o hb hf cv.cells.toList (by simpa using hn) h1
  simp only [storeVar, Sem.run_bind, run_sizeOf ht, Result.andThen_ok, hs, ne_eq, not_true_eq_false, if_false]
  simpa using this
theorem storeA_sound (h : R g w hp) {t : TypeId} {a v : AV} {hp' : List Ob} (hl : storeA none P t a v hp some = some hp') {ca cv : Value} (ha : V g a ca) (hv : V g v cv) :
    ∃ w', (Instr.storeAt t ca cv).run P w = .ok () w' ∧ R g w' hp' := by
  unfold storeA at hl
  split at hl
  · rename_i hc
    obtain ⟨hlen, hone, ht⟩ := hc
    obtain ⟨ti, hti⟩ := Option.isSome_iff_exists.1 (show (P.info? t).isSome = true by rw [← infoF_eq]; exact ht)
    obtain ⟨hvl, h1⟩ := cells_V hv hone
    have hsz : cv.cells.size = sizeA P t := by rw [← hlen]; have := hvl.1; simpa using this.symm
    split at hl
    · rename_i id off
      split at hl
      · rename_i cs he
        split at hl <;> simp at hl
        rename_i hle; subst hl
        have k := h.objs id
        rw [he] at k
        obtain ⟨k1, b, vs, fz, k2, k3, k4, k5, k6, k7, k8⟩ := k
        cases ha with
        | ptr _ _ b' hb =>
          rw [k2] at hb; cases hb
          have hcs : cs.length = vs.size := by have := k5.1; simpa using this
          have hrun := storeVar_own (P := P) hti b off k4 k8 cv hsz (by omega) h1
          refine ⟨_, by simpa [Instr.storeAt, Instr.sureAddr] using hrun, ?_⟩
          obtain ⟨r1, r2, r3, r4⟩ := rest_setCells b cv.cells.toList off w
          refine h.turn (g' := g) (b := b) (Gh.le.refl g) (length_of_get he) (by rw [he]; simp) (.inl k2) (fun _ _ => rfl) (fun _ _ => rfl) (fun _ _ _ e => .inl e) (fun _ _ _ e => e) r1 r2 r3 (by omega)
            (fun k _ hk => heap_setCells_other b _ off w k hk) ?_ (fun _ b' ho => ?_)
          · refine ⟨k1, b, _, fz, k2, k3, heap_setCells b cv.cells.toList off w vs _ fz k4, setRange_VL hvl k5, setRange_one (fun c hc => List.all_eq_true.1 hone c hc) k6, k7, fun o ho => ?_⟩
            rw [World.frozen?_setCells]
            exact k8 o (by simpa using ho)
          · left
            rcases ho with ho | ⟨_, _, _, ho⟩
            · rw [k2] at ho; exact (Option.some.inj ho).symm
            · rw [k1] at ho; simp at ho
      · simp at hl
    · rename_i id ver len sz i j
      obtain ⟨tyo, sz', sh, xs, he, rfl, hl⟩ := grown_inv hl
      obtain ⟨hs, hl1⟩ := ask_some hl
      obtain ⟨hi, hl2⟩ := ask_some hl1
      clear hl hl1
      simp at hs hi; subst hs
      split at hl2
      · rename_i v' hv'
        split at hl2 <;> simp at hl2
        rename_i hj; obtain ⟨rfl, hjl⟩ := hj; subst hl2
        rcases h.growOK he with k | ⟨b, cc, vs, fz, k⟩
        · rw [k.nil] at hi; simp at hi
        obtain ⟨f1, f2, f3, f4⟩ := fit_sound sh v v' hv'
        have hw : ∀ x ∈ xs, (cells x).length = sz := fun x hx => (k.sh x hx).2.1
        have hvl' := fit_cells hv' hvl
        have hnew : cv.cells.toList.length = sz := by rw [← hvl'.1]; exact hjl
        have hroom : i * sz + sz ≤ xs.length * sz := by
          have : (i + 1) * sz ≤ xs.length * sz := Nat.mul_le_mul_right _ (by omega)
          rwa [Nat.succ_mul] at this
        have hroom2 : xs.length * sz ≤ vs.size := by rw [k.size]; exact Nat.mul_le_mul_right _ k.le
        rw [k.addr ha]
        have hrun := storeVar_own (P := P) hti b (i * sz) k.heap k.froz cv hsz (by have : cv.cells.size = sz := by simpa using hnew
                                                                                   omega) h1
        refine ⟨_, by simpa [Instr.storeAt, Instr.sureAddr] using hrun, ?_⟩
        obtain ⟨r1, r2, r3, r4⟩ := rest_setCells b cv.cells.toList (i * sz) w
        refine h.turn (g' := g) (b := b) (Gh.le.refl g) (length_of_get he) (by rw [he]; simp) (.inr ⟨_, _, _, k.cur⟩) (fun _ _ => rfl) (fun _ _ => rfl) (fun _ _ _ e => .inl e) (fun _ _ _ e => e) r1 r2 r3 (by omega)
            (fun k _ hk => heap_setCells_other b _ _ w k hk) ?_ (fun _ b' ho => ?_)
        · refine ⟨k.blk, .inr ?_⟩
          refine ⟨b, cc, _, fz, by rw [List.length_set]; exact k.cur, k.base, heap_setCells b cv.cells.toList _ w vs _ fz k.heap, by rw [size_putR]; exact k.size, k.pos, by rw [List.length_set]; exact k.le, ?_, fun x hx => ?_, by rw [List.length_set]; exact k.lim, k.imm, fun o ho => ?_⟩
          · rw [List.length_set, putR_list _ _ _ (by rw [hnew]; omega), flat_set hw hi, hnew]
            have e : List.take (xs.length * sz) (List.take (i * sz) vs.toList ++ cv.cells.toList ++ List.drop (i * sz + sz) vs.toList) =
                List.take (i * sz) (List.take (xs.length * sz) vs.toList) ++ cv.cells.toList ++ List.drop (i * sz + sz) (List.take (xs.length * sz) vs.toList) := by
              rw [List.append_assoc, List.take_append, List.take_append, List.take_take, List.take_take, List.drop_take, List.append_assoc]
              have l0 : (List.take (i * sz) vs.toList).length = i * sz := by simp; omega
              rw [l0, hnew, Nat.min_comm]
              congr 2
              · rw [List.take_of_length_le (by omega)]
              · congr 1; omega
            rw [e]
            exact ((k.vl.take (i * sz)).append hvl').append (k.vl.drop (i * sz + sz))
          · rcases List.mem_or_eq_of_mem_set hx with hx | rfl
            · exact k.sh x hx
            · exact ⟨f1, hjl, f4⟩
          · rw [World.frozen?_setCells]
            exact k.froz o (by simpa using ho)
        · left
          rcases ho with ho | ⟨_, _, _, ho⟩
          · rw [k.blk] at ho; simp at ho
          · rw [k.cur] at ho; cases ho; rfl
      · simp at hl2
    · simp at hl
  · simp at hl
end
end Go.Cx
