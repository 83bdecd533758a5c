/- A call's arguments, read as data: abstract values that are typed. -/
import Derived.Test.YtfhgmpeplfjmcaaCxAa
import Derived.ProofKit
namespace Go.Cx
noncomputable section
open Go.RowKit (Below)
set_option linter.unusedSimpArgs false
mutual
def Wf : Sh → AV → Prop
  | .int k, x => ∃ n, x = .int k n ∧ (Lit.int k n).wf = true
  | .bool, x => ∃ b, x = .bool b
  | .str, x => ∃ s, x = .str s ∧ s.length < TOP
  | .slice sz sh, x => ∃ xs, x = .slice sz sh xs .ro ∧ xs.length < TOP ∧ ∀ y ∈ xs, Wf sh y
  | .agg l, x => ∃ cs, x = .agg cs ∧ WfL l cs
  | .any, _ => False
def WfL : List Sh → List AV → Prop
  | [], [] => True
  | s :: l, c :: cs => (Wf s c ∧ oneCell c = true) ∧ WfL l cs
  | _, _ => False
end
def shL : Sh → List Sh
  | .agg l => l
  | s => [s]
def mkEl : Sh → List AV → AV
  | .agg _, cs => .agg cs
  | _, cs => cs.headD .junk
def offs (P : Program) : List Field → Nat → Nat → Bool
  | [], o, n => o == n
  | f :: fs, o, n => f.offset == o && offs P fs (o + P.cellsOf f.type) n
def plainT (P : Program) : Nat → TypeId → Bool
  | 0, _ => false
  | d + 1, t => match P.underlying t with
    | some .bool | some (.int _) | some .string => true
    | some (.slice e) => P.cellsOf e == sizeA P e && plainT P d e && decide (0 < sizeA P e)
    | some (.struct fs) => fs.toList.all (fun f => plainT P d f.type) && offs P fs.toList 0 (P.cellsOf t)
    | _ => false
theorem WfL.append : ∀ {a b : List Sh} {x y : List AV}, WfL a x → WfL b y → WfL (a ++ b) (x ++ y)
  | [], b, [], y, _, h => h
  | [], b, c :: cs, y, h, _ => by simp [WfL] at h
  | s :: a, b, [], y, h, _ => by simp [WfL] at h
  | s :: a, b, c :: cs, y, h, k => by
    simp only [WfL, List.cons_append] at h ⊢
    exact ⟨h.1, WfL.append h.2 k⟩
theorem WfL.length : ∀ {l : List Sh} {cs : List AV}, WfL l cs → cs.length = l.length
  | [], [], _ => rfl
  | [], c :: cs, h => by simp [WfL] at h
  | s :: l, [], h => by simp [WfL] at h
  | s :: l, c :: cs, h => by simp only [WfL] at h; simp [WfL.length h.2]
theorem WfL.one : ∀ {l : List Sh} {cs : List AV}, WfL l cs → cs.all oneCell = true
  | [], [], _ => rfl
  | [], c :: cs, h => by simp [WfL] at h
  | s :: l, [], h => by simp [WfL] at h
  | s :: l, c :: cs, h => by simp only [WfL] at h; simp only [List.all_cons, h.1.2, WfL.one h.2, Bool.and_self]
mutual
theorem Wf.shape : ∀ (s : Sh) {x : AV}, Wf s x → reshape s x = x
  | .int k, x, h => by obtain ⟨n, rfl, _⟩ := h; rfl
  | .bool, x, h => by obtain ⟨b, rfl⟩ := h; rfl
  | .str, x, h => by obtain ⟨b, rfl, _⟩ := h; rfl
  | .slice sz sh, x, h => by obtain ⟨xs, rfl, _⟩ := h; rfl
  | .agg l, x, h => by
    obtain ⟨cs, rfl, h⟩ := h
    simp only [reshape]
    rw [WfL.shape l 0 (x := .agg cs) (cs := cs) h (fun j => by simp [getF_agg])]
  | .any, x, h => h.elim
theorem WfL.shape : ∀ (l : List Sh) (i : Nat) {x : AV} {cs : List AV}, WfL l cs → (∀ j, getF x (i + j) = cs.getD j .junk) → reshapeL l i x = cs
  | [], i, x, [], _, _ => rfl
  | [], i, x, c :: cs, h, _ => by simp [WfL] at h
  | s :: l, i, x, [], h, _ => by simp [WfL] at h
  | s :: l, i, x, c :: cs, h, k => by
    simp only [WfL] at h
    have h0 := k 0
    simp only [Nat.add_zero, List.getD_cons_zero] at h0
    simp only [reshapeL, h0, Wf.shape s h.1.1]
    rw [WfL.shape l (i + 1) h.2 (fun j => by have := k (j + 1); rw [show i + 1 + j = i + (j + 1) by omega]; simpa using this)]
end
theorem mkEl_wf {s : Sh} {cs : List AV} (h : WfL (shL s) cs) : Wf s (mkEl s cs) ∧ cells (mkEl s cs) = cs := by
  have one : ∀ {s : Sh}, shL s = [s] → (mkEl s cs = cs.headD .junk) → WfL (shL s) cs → Wf s (mkEl s cs) ∧ cells (mkEl s cs) = cs := by
    intro s h1 h2 h
    rw [h1] at h
    rw [h2]
    cases cs with
    | nil => simp [WfL] at h
    | cons c cs =>
      cases cs with
      | cons => simp [WfL] at h
      | nil =>
        simp only [WfL, and_true] at h
        refine ⟨h.1, ?_⟩
        cases c <;> first | rfl | (simp [oneCell] at h)
  cases s with
  | agg l => exact ⟨⟨cs, rfl, h⟩, rfl⟩
  | _ => exact one rfl rfl h
section
variable {H : Type} {enc : TypeId × Value → H} {P : Program} {w : World} {sp : Nat → Bool} {held : Bool}
theorem rows_V {P : Program} {w : World} {sh : Sh} {sz : Nat} {a : Addr} (ha : ∀ i, 0 < i → True) : ∀ (len : Nat),
    (∀ i, i < len → ∃ vs cs, w.cells? 0 (a.add (i * sz)) sz = some vs ∧ VL (.seen w) cs vs ∧ WfL (shL sh) cs) →
    ∃ xs vs, xs.length = len ∧ VL (.seen w) (flat xs) vs ∧ vs.length = len * sz ∧ (∀ x ∈ xs, Wf sh x ∧ (cells x).length = sz ∧ (cells x).all oneCell = true) ∧ ∀ i v, vs[i]? = some v → w.cell? (a.add i) = some v
  | 0, _ => ⟨[], [], rfl, VL.nil _, by simp, fun x hx => by simp at hx, fun i v h => by simp at h⟩
  | len + 1, h => by
    obtain ⟨xs, vs, h1, h2, h3, h4, h5⟩ := rows_V (P := P) (sh := sh) ha len (fun i hi => h i (by omega))
    obtain ⟨us, cs, k1, k2, k3⟩ := h len (by omega)
    obtain ⟨_, k4, k5⟩ := World.cells?_some k1
    obtain ⟨e1, e2⟩ := mkEl_wf k3
    refine ⟨xs ++ [mkEl sh cs], vs ++ us, by simp [h1], ?_, by simp [h3, k4, Nat.add_mul], fun x hx => ?_, fun i v hi => ?_⟩
    · rw [flat_append]
      refine VL.append h2 ?_
      simpa [flat, e2] using k2
    · rcases List.mem_append.1 hx with hx | hx
      · exact h4 x hx
      · simp at hx; subst hx
        exact ⟨e1, by rw [e2, k2.1, k4], by rw [e2]; exact k3.one⟩
    · rw [List.getElem?_append] at hi
      split at hi
      · exact h5 i v hi
      · rename_i hlt
        have hj := k5 (i - vs.length) (by have := length_of_get hi; omega)
        rw [hi] at hj
        rw [← hj]
        have : (a.add (len * sz)).add (i - vs.length) = a.add i := by
          simp only [Addr.add]
          by_cases z : len * sz = 0
          · have : vs.length = 0 := by omega
            simp [z, this]
          · have : ¬ i = 0 := by omega
            by_cases z2 : i - vs.length = 0
            · simp [z, z2, this]; omega
            · simp [z, z2, this]; omega
        rw [this]
theorem trod_V : ∀ (d n : Nat) (t : TypeId) (vs : List Value) (x : DataW H × List MemPlace), plainT P d t = true → DataW.trod enc P w 0 sp held n t vs = some x →
    ∃ cs, VL (.seen w) cs vs ∧ WfL (shL (shA P d t)) cs
  | 0, n, t, vs, x, hp, h => by simp [plainT] at hp
  | d + 1, n, t, vs, x, hp, h => by
    unfold plainT at hp
    split at hp
    · rename_i hu
      obtain ⟨b, rfl, -⟩ := DataW.trod_bool hu h
      have : shA P (d + 1) t = .bool := by simp [shA, tk_def, hu]
      rw [this]
      exact ⟨[.bool b], VL.cons (.bool b) (VL.nil _), ⟨⟨b, rfl⟩, rfl⟩, trivial⟩
    · rename_i k hu
      obtain ⟨m, rfl, -, hw⟩ := DataW.trod_int hu h
      have : shA P (d + 1) t = .int k := by simp [shA, tk_def, hu]
      rw [this]
      exact ⟨[.int k m], VL.cons (.int k m) (VL.nil _), ⟨⟨m, rfl, hw⟩, rfl⟩, trivial⟩
    · rename_i hu
      obtain ⟨s, rfl, -, hs⟩ := DataW.trod_string hu h
      have : shA P (d + 1) t = .str := by simp [shA, tk_def, hu]
      rw [this]
      have hl : s.data.toList.length < TOP := by
        have : s.data.toList.length = s.size := by rw [Array.length_toList]; rfl
        rw [this]; unfold maxLen at hs; unfold TOP; omega
      exact ⟨[.str s.data.toList], VL.cons (.str _ hl) (VL.nil _), ⟨⟨_, rfl, hl⟩, rfl⟩, trivial⟩
    · rename_i e hu
      simp only [Bool.and_eq_true, beq_iff_eq, decide_eq_true_eq] at hp
      obtain ⟨⟨hc, hpe⟩, hsl⟩ := hp
      have : shA P (d + 1) t = .slice (sizeA P e) (shA P d e) := by simp [shA, tk_def, hu]
      rw [this]
      rcases DataW.trod_slice hu h with ⟨rfl, -⟩ | ⟨a, len, cap, elems, rest, m, rfl, rfl, -, -, hlc, hcm, hel, hE, -, -⟩
      · exact ⟨[.slice _ _ [] .ro], VL.cons (.slice0 _ _) (VL.nil _), ⟨⟨[], rfl, by decide, fun y hy => by simp at hy⟩, rfl⟩, trivial⟩
      · have each : ∀ i, i < len → ∃ vs cs, w.cells? 0 (a.add (i * sizeA P e)) (sizeA P e) = some vs ∧ VL (.seen w) cs vs ∧ WfL (shL (shA P d e)) cs := by
          intro i hi
          have h1 := hE i hi
          rw [List.getElem?_eq_getElem (by omega : i < elems.length), Option.bind_eq_some_iff] at h1
          obtain ⟨us, h2, h3⟩ := h1
          obtain ⟨cs, h4, h5⟩ := trod_V d m e us _ hpe h3
          rw [hc] at h2
          exact ⟨us, cs, h2, h4, h5⟩
        obtain ⟨xs, us, h1, h2, h3, h4, h5⟩ := rows_V (P := P) (fun _ _ => trivial) len each
        have htop : len < TOP := by unfold maxLen at hcm; unfold TOP; omega
        refine ⟨[.slice _ _ xs .ro], VL.cons ?_ (VL.nil _), ⟨⟨xs, rfl, by omega, fun y hy => (h4 y hy).1⟩, rfl⟩, trivial⟩
        by_cases h0 : len = 0
        · subst h0
          have := List.eq_nil_of_length_eq_zero h1
          subst this
          exact .slice1 _ _ _ a cap
        · -- an element is there: its address is one of a cell, or there are no cells at all
          obtain ⟨b, o, spot⟩ := a
          have h00 := each 0 (by omega)
          obtain ⟨us0, cs0, k1, -, -⟩ := h00
          obtain ⟨-, k4, k5⟩ := World.cells?_some k1
          have := k5 0 (by omega)
          have hs : spot = none := by
            simp only [Nat.zero_mul, Addr.add, if_pos] at this
            rw [List.getElem?_eq_getElem (by omega : 0 < us0.length)] at this
            cases spot with
            | none => rfl
            | some q => simp [World.cell?] at this; split at this <;> simp at this
          subst hs
          rw [← h1]
          refine .slice _ _ xs .ro us b o cap h2.1 h2.2 (fun i v e => ?_) (fun x hx => ⟨(h4 x hx).1.shape, (h4 x hx).2⟩) (by omega) (by omega)
          have := h5 i v e
          show w.cell? ⟨b, o + i, none⟩ = some v
          simp only [Addr.add] at this
          split at this
          · rename_i e0; subst e0; exact this
          · exact this
    · rename_i fs hu
      simp only [Bool.and_eq_true, List.all_eq_true] at hp
      obtain ⟨hpf, hof⟩ := hp
      obtain ⟨xs, m, rfl, -, hlen, hxl, hF⟩ := DataW.trod_struct hu h
      have : shA P (d + 1) t = .agg (fs.toList.flatMap fun f => shL (shA P d f.type)) := by
        simp only [shA, tk_def, hu, List.flatMap_map]
        congr 1
      rw [this]
      have key : ∀ (l : List Field) (o : Nat), (∀ f ∈ l, plainT P d f.type = true) → offs P l o (P.cellsOf t) = true → (∀ f ∈ l, ∃ y, DataW.trod enc P w 0 sp held m f.type ((vs.drop f.offset).take (P.cellsOf f.type)) = some y) → 
          ∃ cs, VL (.seen w) cs (vs.drop o) ∧ WfL (l.flatMap fun f => shL (shA P d f.type)) cs := by
        intro l
        induction l with
        | nil =>
          intro o _ ho _
          simp only [offs, beq_iff_eq] at ho
          refine ⟨[], ?_, trivial⟩
          rw [List.drop_eq_nil_of_le (by omega)]
          exact VL.nil _
        | cons f l ih =>
          intro o h1 h2 h3
          simp only [offs, Bool.and_eq_true, beq_iff_eq] at h2
          obtain ⟨ho, h2⟩ := h2
          subst ho
          obtain ⟨cs2, k1, k2⟩ := ih _ (fun g hg => h1 g (by simp [hg])) h2 (fun g hg => h3 g (by simp [hg]))
          obtain ⟨y, hy⟩ := h3 f (by simp)
          obtain ⟨cs1, k3, k4⟩ := trod_V d m f.type _ y (h1 f (by simp)) hy
          refine ⟨cs1 ++ cs2, ?_, ?_⟩
          · have := VL.append k3 k1
            rwa [← List.drop_drop, List.take_append_drop] at this
          · simp only [List.flatMap_cons]
            exact k4.append k2
      have := key fs.toList 0 hpf hof (fun f hf => by
        obtain ⟨i, hi⟩ := List.getElem?_of_mem hf
        have := hF i f (by simpa using hi)
        have hlt : i < xs.length := by
          have := length_of_get hi
          rw [hxl]; simpa using this
        rw [List.getElem?_eq_getElem hlt] at this
        exact ⟨_, this⟩)
      simpa [shL] using this
    · simp at hp
end
end
end Go.Cx
