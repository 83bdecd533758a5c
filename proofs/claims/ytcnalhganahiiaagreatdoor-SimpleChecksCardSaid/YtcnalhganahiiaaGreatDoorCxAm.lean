/- A call's arguments, read as data: abstract values that are typed. -/
import Derived.Test.YtcnalhganahiiaaGreatDoorCxAd
import Derived.ProofKit
import Derived.OpenShut
import Derived.ChangeOld
import Derived.Carry
import Derived.Test.YtcnalhganahiiaaGreatDoorCxAv
import Derived.JoinedCond
section
namespace Go.Cx
noncomputable section
open Go.RowKit (Below)
set_option linter.unusedSimpArgs false
mutual
def Wf : Sh → AV → Prop
  | .int k, x => ∃ n, x = .int k n ∧ (Lit.int k n).wf = true
  | .bool, x => ∃ b, x = .bool b
  | .str, x => ∃ s, x = .str s ∧ s.length < TOP
  | .slice sz sh, x => ∃ xs, x = .slice sz sh xs .ro ∧ xs.length < TOP ∧ ∀ y ∈ xs, Wf sh y
  | .agg l, x => ∃ cs, x = .agg cs ∧ WfL l cs
  | .any, _ => False
def WfL : List Sh → List AV → Prop
  | [], [] => True
  | s :: l, c :: cs => (Wf s c ∧ oneCell c = true) ∧ WfL l cs
  | _, _ => False
end
def shL : Sh → List Sh
  | .agg l => l
  | s => [s]
def mkEl : Sh → List AV → AV
  | .agg _, cs => .agg cs
  | _, cs => cs.headD .junk
def offs (P : Program) : List Field → Nat → Nat → Bool
  | [], o, n => o == n
  | f :: fs, o, n => f.offset == o && offs P fs (o + P.cellsOf f.type) n
def plainT (P : Program) : Nat → TypeId → Bool
  | 0, _ => false
  | d + 1, t => match P.underlying t with
    | some .bool | some (.int _) | some .string => true
    | some (.slice e) => P.cellsOf e == sizeA P e && plainT P d e && decide (0 < sizeA P e)
    | some (.struct fs) => fs.toList.all (fun f => plainT P d f.type) && offs P fs.toList 0 (P.cellsOf t)
    | _ => false
theorem WfL.append : ∀ {a b : List Sh} {x y : List AV}, WfL a x → WfL b y → WfL (a ++ b) (x ++ y)
  | [], b, [], y, _, h => h
  | [], b, c :: cs, y, h, _ => by simp [WfL] at h
  | s :: a, b, [], y, h, _ => by simp [WfL] at h
  | s :: a, b, c :: cs, y, h, k => by
    simp only [WfL, List.cons_append] at h ⊢
    exact ⟨h.1, WfL.append h.2 k⟩
theorem WfL.length : ∀ {l : List Sh} {cs : List AV}, WfL l cs → cs.length = l.length
  | [], [], _ => rfl
  | [], c :: cs, h => by simp [WfL] at h
  | s :: l, [], h => by simp [WfL] at h
  | s :: l, c :: cs, h => by simp only [WfL] at h; simp [WfL.length h.2]
theorem WfL.one : ∀ {l : List Sh} {cs : List AV}, WfL l cs → cs.all oneCell = true
  | [], [], _ => rfl
  | [], c :: cs, h => by simp [WfL] at h
  | s :: l, [], h => by simp [WfL] at h
  | s :: l, c :: cs, h => by simp only [WfL] at h; simp only [List.all_cons, h.1.2, WfL.one h.2, Bool.and_self]
mutual
theorem Wf.shape : ∀ (s : Sh) {x : AV}, Wf s x → reshape s x = x
  | .int k, x, h => by obtain ⟨n, rfl, _⟩ := h; rfl
  | .bool, x, h => by obtain ⟨b, rfl⟩ := h; rfl
  | .str, x, h => by obtain ⟨b, rfl, _⟩ := h; rfl
  | .slice sz sh, x, h => by obtain ⟨xs, rfl, _⟩ := h; rfl
  | .agg l, x, h => by
    obtain ⟨cs, rfl, h⟩ := h
    simp only [reshape]
    rw [WfL.shape l 0 (x := .agg cs) (cs := cs) h (fun j => by simp [getF_agg])]
  | .any, x, h => h.elim
theorem WfL.shape : ∀ (l : List Sh) (i : Nat) {x : AV} {cs : List AV}, WfL l cs → (∀ j, getF x (i + j) = cs.getD j .junk) → reshapeL l i x = cs
  | [], i, x, [], _, _ => rfl
  | [], i, x, c :: cs, h, _ => by simp [WfL] at h
  | s :: l, i, x, [], h, _ => by simp [WfL] at h
  | s :: l, i, x, c :: cs, h, k => by
    simp only [WfL] at h
    have h0 := k 0
    simp only [Nat.add_zero, List.getD_cons_zero] at h0
    simp only [reshapeL, h0, Wf.shape s h.1.1]
    rw [WfL.shape l (i + 1) h.2 (fun j => by have := k (j + 1); rw [show i + 1 + j = i + (j + 1) by omega]; simpa using this)]
end
theorem mkEl_wf {s : Sh} {cs : List AV} (h : WfL (shL s) cs) : Wf s (mkEl s cs) ∧ cells (mkEl s cs) = cs := by
  have one : ∀ {s : Sh}, shL s = [s] → (mkEl s cs = cs.headD .junk) → WfL (shL s) cs → Wf s (mkEl s cs) ∧ cells (mkEl s cs) = cs := by
    intro s h1 h2 h
    rw [h1] at h
    rw [h2]
    cases cs with
    | nil => simp [WfL] at h
    | cons c cs =>
      cases cs with
      | cons => simp [WfL] at h
      | nil =>
        simp only [WfL, and_true] at h
        refine ⟨h.1, ?_⟩
        cases c <;> first | rfl | (simp [oneCell] at h)
  cases s with
  | agg l => exact ⟨⟨cs, rfl, h⟩, rfl⟩
  | _ => exact one rfl rfl h
section
variable {H : Type} {enc : TypeId × Value → H} {P : Program} {w : World} {sp : Nat → Bool} {held : Bool}
theorem rows_V {P : Program} {w : World} {sh : Sh} {sz : Nat} {a : Addr} (ha : ∀ i, 0 < i → True) : ∀ (len : Nat),
    (∀ i, i < len → ∃ vs cs, w.cells? 0 (a.add (i * sz)) sz = some vs ∧ VL (.seen w) cs vs ∧ WfL (shL sh) cs) →
    ∃ xs vs, xs.length = len ∧ VL (.seen w) (flat xs) vs ∧ vs.length = len * sz ∧ (∀ x ∈ xs, Wf sh x ∧ (cells x).length = sz ∧ (cells x).all oneCell = true) ∧ ∀ i v, vs[i]? = some v → w.cell? (a.add i) = some v
  | 0, _ => ⟨[], [], rfl, VL.nil _, by simp, fun x hx => by simp at hx, fun i v h => by simp at h⟩
  | len + 1, h => by
    obtain ⟨xs, vs, h1, h2, h3, h4, h5⟩ := rows_V (P := P) (sh := sh) ha len (fun i hi => h i (by omega))
    obtain ⟨us, cs, k1, k2, k3⟩ := h len (by omega)
    obtain ⟨_, k4, k5⟩ := World.cells?_some k1
    obtain ⟨e1, e2⟩ := mkEl_wf k3
    refine ⟨xs ++ [mkEl sh cs], vs ++ us, by simp [h1], ?_, by simp [h3, k4, Nat.add_mul], fun x hx => ?_, fun i v hi => ?_⟩
    · rw [flat_append]
      refine VL.append h2 ?_
      simpa [flat, e2] using k2
    · rcases List.mem_append.1 hx with hx | hx
      · exact h4 x hx
      · simp at hx; subst hx
        exact ⟨e1, by rw [e2, k2.1, k4], by rw [e2]; exact k3.one⟩
    · rw [List.getElem?_append] at hi
      split at hi
      · exact h5 i v hi
      · rename_i hlt
        have hj := k5 (i - vs.length) (by have := length_of_get hi; omega)
        rw [hi] at hj
        rw [← hj]
        have : (a.add (len * sz)).add (i - vs.length) = a.add i := by
          simp only [Addr.add]
          by_cases z : len * sz = 0
          · have : vs.length = 0 := by omega
            simp [z, this]
          · have : ¬ i = 0 := by omega
            by_cases z2 : i - vs.length = 0
            · simp [z, z2, this]; omega
            · simp [z, z2, this]; omega
        rw [this]
theorem trod_V : ∀ (d n : Nat) (t : TypeId) (vs : List Value) (x : DataW H × List MemPlace), plainT P d t = true → DataW.trod enc P w 0 sp held n t vs = some x →
    ∃ cs, VL (.seen w) cs vs ∧ WfL (shL (shA P d t)) cs
  | 0, n, t, vs, x, hp, h => by simp [plainT] at hp
  | d + 1, n, t, vs, x, hp, h => by
    unfold plainT at hp
    split at hp
    · rename_i hu
      obtain ⟨b, rfl, -⟩ := DataW.trod_bool hu h
      have : shA P (d + 1) t = .bool := by simp [shA, tk_def, hu]
      rw [this]
      exact ⟨[.bool b], VL.cons (.bool b) (VL.nil _), ⟨⟨b, rfl⟩, rfl⟩, trivial⟩
    · rename_i k hu
      obtain ⟨m, rfl, -, hw⟩ := DataW.trod_int hu h
      have : shA P (d + 1) t = .int k := by simp [shA, tk_def, hu]
      rw [this]
      exact ⟨[.int k m], VL.cons (.int k m) (VL.nil _), ⟨⟨m, rfl, hw⟩, rfl⟩, trivial⟩
    · rename_i hu
      obtain ⟨s, rfl, -, hs⟩ := DataW.trod_string hu h
      have : shA P (d + 1) t = .str := by simp [shA, tk_def, hu]
      rw [this]
      have hl : s.data.toList.length < TOP := by
        have : s.data.toList.length = s.size := by rw [Array.length_toList]; rfl
        rw [this]; unfold maxLen at hs; unfold TOP; omega
      exact ⟨[.str s.data.toList], VL.cons (.str _ hl) (VL.nil _), ⟨⟨_, rfl, hl⟩, rfl⟩, trivial⟩
    · rename_i e hu
      simp only [Bool.and_eq_true, beq_iff_eq, decide_eq_true_eq] at hp
      obtain ⟨⟨hc, hpe⟩, hsl⟩ := hp
      have : shA P (d + 1) t = .slice (sizeA P e) (shA P d e) := by simp [shA, tk_def, hu]
      rw [this]
      rcases DataW.trod_slice hu h with ⟨rfl, -⟩ | ⟨a, len, cap, elems, rest, m, rfl, rfl, -, -, hlc, hcm, hel, hE, -, -⟩
      · exact ⟨[.slice _ _ [] .ro], VL.cons (.slice0 _ _) (VL.nil _), ⟨⟨[], rfl, by decide, fun y hy => by simp at hy⟩, rfl⟩, trivial⟩
      · have each : ∀ i, i < len → ∃ vs cs, w.cells? 0 (a.add (i * sizeA P e)) (sizeA P e) = some vs ∧ VL (.seen w) cs vs ∧ WfL (shL (shA P d e)) cs := by
          intro i hi
          have h1 := hE i hi
          rw [List.getElem?_eq_getElem (by omega : i < elems.length), Option.bind_eq_some_iff] at h1
          obtain ⟨us, h2, h3⟩ := h1
          obtain ⟨cs, h4, h5⟩ := trod_V d m e us _ hpe h3
          rw [hc] at h2
          exact ⟨us, cs, h2, h4, h5⟩
        obtain ⟨xs, us, h1, h2, h3, h4, h5⟩ := rows_V (P := P) (fun _ _ => trivial) len each
        have htop : len < TOP := by unfold maxLen at hcm; unfold TOP; omega
        refine ⟨[.slice _ _ xs .ro], VL.cons ?_ (VL.nil _), ⟨⟨xs, rfl, by omega, fun y hy => (h4 y hy).1⟩, rfl⟩, trivial⟩
        by_cases h0 : len = 0
        · subst h0
          have := List.eq_nil_of_length_eq_zero h1
          subst this
          exact .slice1 _ _ _ a cap
        · -- an element is there: its address is one of a cell, or there are no cells at all
          obtain ⟨b, o, spot⟩ := a
          have h00 := each 0 (by omega)
          obtain ⟨us0, cs0, k1, -, -⟩ := h00
          obtain ⟨-, k4, k5⟩ := World.cells?_some k1
          have := k5 0 (by omega)
          have hs : spot = none := by
            simp only [Nat.zero_mul, Addr.add, if_pos] at this
            rw [List.getElem?_eq_getElem (by omega : 0 < us0.length)] at this
            cases spot with
            | none => rfl
            | some q => simp [World.cell?] at this; split at this <;> simp at this
          subst hs
          rw [← h1]
          refine .slice _ _ xs .ro us b o cap h2.1 h2.2 (fun i v e => ?_) (fun x hx => ⟨(h4 x hx).1.shape, (h4 x hx).2⟩) (by omega) (by omega)
          have := h5 i v e
          show w.cell? ⟨b, o + i, none⟩ = some v
          simp only [Addr.add] at this
          split at this
          · rename_i e0; subst e0; exact this
          · exact this
    · rename_i fs hu
      simp only [Bool.and_eq_true, List.all_eq_true] at hp
      obtain ⟨hpf, hof⟩ := hp
      obtain ⟨xs, m, rfl, -, hlen, hxl, hF⟩ := DataW.trod_struct hu h
      have : shA P (d + 1) t = .agg (fs.toList.flatMap fun f => shL (shA P d f.type)) := by
        simp only [shA, tk_def, hu, List.flatMap_map]
        congr 1
      rw [this]
      have key : ∀ (l : List Field) (o : Nat), (∀ f ∈ l, plainT P d f.type = true) → offs P l o (P.cellsOf t) = true → (∀ f ∈ l, ∃ y, DataW.trod enc P w 0 sp held m f.type ((vs.drop f.offset).take (P.cellsOf f.type)) = some y) → 
          ∃ cs, VL (.seen w) cs (vs.drop o) ∧ WfL (l.flatMap fun f => shL (shA P d f.type)) cs := by
        intro l
        induction l with
        | nil =>
          intro o _ ho _
          simp only [offs, beq_iff_eq] at ho
          refine ⟨[], ?_, trivial⟩
          rw [List.drop_eq_nil_of_le (by omega)]
          exact VL.nil _
        | cons f l ih =>
          intro o h1 h2 h3
          simp only [offs, Bool.and_eq_true, beq_iff_eq] at h2
          obtain ⟨ho, h2⟩ := h2
          subst ho
          obtain ⟨cs2, k1, k2⟩ := ih _ (fun g hg => h1 g (by simp [hg])) h2 (fun g hg => h3 g (by simp [hg]))
          obtain ⟨y, hy⟩ := h3 f (by simp)
          obtain ⟨cs1, k3, k4⟩ := trod_V d m f.type _ y (h1 f (by simp)) hy
          refine ⟨cs1 ++ cs2, ?_, ?_⟩
          · have := VL.append k3 k1
            rwa [← List.drop_drop, List.take_append_drop] at this
          · simp only [List.flatMap_cons]
            exact k4.append k2
      have := key fs.toList 0 hpf hof (fun f hf => by
        obtain ⟨i, hi⟩ := List.getElem?_of_mem hf
        have := hF i f (by simpa using hi)
        have hlt : i < xs.length := by
          have := length_of_get hi
          rw [hxl]; simpa using this
        rw [List.getElem?_eq_getElem hlt] at this
        exact ⟨_, this⟩)
      simpa [shL] using this
    · simp at hp
end
end
end Go.Cx

end

section
namespace Go.Cx
open Go.RowKit Go.ChangeShapes Go.WideShapes
set_option linter.unusedSimpArgs false
section
variable {H : Type} {enc : TypeId × Value → H} {P : Program} {W : World}
theorem arg_V {D : Nat} {t : TypeId} {v : Value} {r : Reach} {b : Nat} {sp : Nat → Bool} {held : Bool} {d : DataW H} {ps : List MemPlace} (hp : plainT P D t = true) (hv : Value.okWide P W r b t v)
    (h : DataW.Trod enc P W 0 sp held t v d ps) : ∃ a, V (.seen W) a v ∧ Wf (shA P D t) a := by
  obtain ⟨n, h⟩ := h
  obtain ⟨cs, h1, h2⟩ := trod_V D n t _ _ hp h
  obtain ⟨k1, k2⟩ := mkEl_wf h2
  refine ⟨mkEl (shA P D t) cs, ?_, k1⟩
  have one : v.cells.toList = [v] → V (.seen W) (mkEl (shA P D t) cs) v := by
    intro hc
    rw [hc] at h1
    have := h1.1
    cases cs with
    | nil => simp at this
    | cons c cs =>
      cases cs with
      | cons => simp at this
      | nil =>
        cases hs : shA P D t with
        | agg l =>
          exfalso
          cases D with
          | zero => simp [plainT] at hp
          | succ D =>
            unfold plainT at hp
            split at hp
            · rename_i hu; simp [shA, tk_def, hu] at hs
            · rename_i hu; simp [shA, tk_def, hu] at hs
            · rename_i hu; simp [shA, tk_def, hu] at hs
            · rename_i hu; simp [shA, tk_def, hu] at hs
            · rename_i fs hu
              obtain ⟨xs, rfl, -⟩ := okWide_struct hu hv
              cases xs with | mk l =>
              simp only [Value.cells, List.cons.injEq, and_true] at hc
              have := congrArg (fun l : List Value => SizeOf.sizeOf l) hc
              simp at this
              omega
            · simp at hp
        | _ => exact h1.head
  cases D with
  | zero => simp [plainT] at hp
  | succ D =>
    have hp0 := hp
    unfold plainT at hp
    split at hp
    · rename_i hu; obtain ⟨x, rfl⟩ := okWide_bool hu hv; exact one rfl
    · rename_i hu; obtain ⟨x, rfl⟩ := okWide_int hu hv; exact one rfl
    · rename_i hu; obtain ⟨x, rfl⟩ := okWide_string hu hv; exact one rfl
    · rename_i hu; obtain ⟨x, y, z, rfl⟩ := okWide_slice hu hv; exact one rfl
    · rename_i fs hu
      obtain ⟨xs, rfl, -⟩ := okWide_struct hu hv
      have hs : ∃ l, shA P (D + 1) t = .agg l := by simp [shA, tk_def, hu]
      obtain ⟨l, hs⟩ := hs
      rw [hs]
      have hc : (Value.agg xs).cells.toList = xs.toList := by simp [Value.cells]
      rw [hc] at h1
      exact .agg cs xs (by simpa using h1.1) (fun i c v e1 e2 => h1.2 i c v e1 (by simpa using e2))
    · simp at hp
def WfArgs (P : Program) (D : Nat) : List TypeId → List AV → Prop
  | [], [] => True
  | t :: ts, a :: as => Wf (shA P D t) a ∧ WfArgs P D ts as
  | _, _ => False
theorem args_V {D : Nat} {r : Reach} {b : Nat} {sp : Nat → Bool} {held : Bool} : ∀ (ts : List TypeId) (vs : List Value) (ds : List (DataW H)) (ps : List MemPlace), (∀ t ∈ ts, plainT P D t = true) →
    (∀ (j : Nat) t v, ts[j]? = some t → vs[j]? = some v → Value.okWide P W r b t v) → DataW.TrodAll enc P W 0 sp held ts vs ds ps → ∃ as, VL (.seen W) as vs ∧ WfArgs P D ts as
  | [], [], [], ps, _, _, _ => ⟨[], VL.nil _, trivial⟩
  | t :: ts, v :: vs, d :: ds, ps, hp, hv, h => by
    obtain ⟨p, q, h1, h2, -⟩ := h
    obtain ⟨a, k1, k2⟩ := arg_V (hp t (by simp)) (hv 0 t v rfl rfl) h1
    obtain ⟨as, k3, k4⟩ := args_V ts vs ds q (fun t ht => hp t (by simp [ht])) (fun j t v e1 e2 => hv (j + 1) t v (by simpa using e1) (by simpa using e2)) h2
    exact ⟨a :: as, VL.cons k1 k3, k2, k4⟩
  | [], v :: vs, _, ps, _, _, h => by simp [DataW.TrodAll] at h
  | [], [], d :: ds, ps, _, _, h => by simp [DataW.TrodAll] at h
  | t :: ts, [], _, ps, _, _, h => by simp [DataW.TrodAll] at h
  | t :: ts, v :: vs, [], ps, _, _, h => by simp [DataW.TrodAll] at h
theorem trodAll_length {sp : Nat → Bool} {held : Bool} : ∀ (ts : List TypeId) (vs : List Value) (ds : List (DataW H)) (ps : List MemPlace), DataW.TrodAll enc P W 0 sp held ts vs ds ps → ds.length = ts.length
  | [], [], [], ps, _ => rfl
  | t :: ts, v :: vs, d :: ds, ps, h => by
    obtain ⟨p, q, -, h2, -⟩ := h
    simp [trodAll_length ts vs ds q h2]
  | [], v :: vs, _, ps, h => by simp [DataW.TrodAll] at h
  | [], [], d :: ds, ps, h => by simp [DataW.TrodAll] at h
  | t :: ts, [], _, ps, h => by simp [DataW.TrodAll] at h
  | t :: ts, v :: vs, [], ps, h => by simp [DataW.TrodAll] at h
theorem trodAll_below {W' : World} (hl : laidOutB P = true) (hb : Below W.heap.size W W') : ∀ (ts : List TypeId) (vs : List Value) (ds : List (DataW H)) (ps : List MemPlace),
    (∀ t ∈ ts, P.readableRec t = true ∧ t < P.types.size) → DataW.TrodAll enc P W 0 (fun _ => true) true ts vs ds ps → DataW.TrodAll enc P W' 0 (fun b => decide (b < W.heap.size)) true ts vs ds ps
  | [], [], [], ps, _, h => h
  | t :: ts, v :: vs, d :: ds, ps, hp, h => by
    obtain ⟨p, q, h1, h2, e⟩ := h
    have hlt : ∀ x ∈ p, x.block < W.heap.size := by obtain ⟨m, hm⟩ := h1; exact DataW.trod_lt m _ _ _ hm
    exact ⟨p, q, Below.trod hl (hp t (by simp)).1 (hp t (by simp)).2 h1 hb hlt, trodAll_below hl hb ts vs ds q (fun t ht => hp t (by simp [ht])) h2, e⟩
  | [], v :: vs, _, ps, _, h => by simp [DataW.TrodAll] at h
  | [], [], d :: ds, ps, _, h => by simp [DataW.TrodAll] at h
  | t :: ts, [], _, ps, _, h => by simp [DataW.TrodAll] at h
  | t :: ts, v :: vs, [], ps, _, h => by simp [DataW.TrodAll] at h
theorem law_end {E : En} (hE : EnOK E) (hm : E.P.follows .mixedOrders = true) (h0 : E.keep = 0) {f : FuncId} {fn : Func} {c : Code} (hf : E.P.funcs[f]? = some fn) (hb : fn.body = some c) {D : Nat} (hl : laidOutB E.P = true)
    (hts : fn.params.toList.all (fun t => plainT E.P D t && E.P.readableRec t && decide (t < E.P.types.size)) = true) {tb : TypeId} (hr : fn.resultTypes = #[tb]) (htb : E.P.underlying tb = some .bool)
    (hlaw : ∀ as, WfArgs E.P D fn.params.toList as → callA E fn as [] (fun r _ => r = .bool true)) {s : ChangeSpec} (hsv : s.vars = [])
    (hs : ∀ ds : List (DataW H), ds.length = fn.params.toList.length → s.fn H ds = { results := [.lit (.bool true)], args := ds })
    {apart fresh handsOn : Bool} {base : Nat} {args : Array Value} {ds gs : List (DataW H)} {before : List MemPlace}
    (hval : ∀ (j : Nat) t v, fn.params[j]? = some t → args[j]? = some v → Value.okWide E.P W .any base t v)
    (hW : DataW.Whole enc E.P fn.params.toList s.vars apart W args.toList ds gs before) (hlay : ∀ w, Below W.heap.size W w → Lay E.P w) :
    Calls E.P f args W fun e W' => ∃ v, e = .returned v ∧ s.post enc E.P fn apart fresh handsOn false W args v W' := by
  have hW' := hW
  obtain ⟨p, q, hA, hV, rfl, hfz, hnd⟩ := hW
  rw [hsv] at hV
  obtain ⟨rfl, rfl⟩ := trodVars_none hV
  simp only [List.all_eq_true, Bool.and_eq_true, decide_eq_true_eq] at hts
  obtain ⟨as, h1, h2⟩ := args_V fn.params.toList args.toList ds p (fun t ht => (hts t ht).1.1) (fun j t v e1 e2 => hval j t v (by simpa using e1) (by simpa using e2)) hA
  have hc := calls_small hE hm h0 hf hb (hlaw as h2) (show LayAt E.P (.still W fun b o => W.cell? ⟨b, o, none⟩) from hlay) (R.still (w := W) fun _ _ _ e => e) h1
  rw [show args.toList.toArray = args by simp] at hc
  refine Calls.mono hc ?_
  rintro e W' ⟨v, g', r, rfl, hle, hR, hVr, -, rfl⟩
  obtain rfl := bool_inv hVr
  have hbel : Below W.heap.size W W' := by
    have := hR.below
    rw [hle.base, hle.w0] at this
    exact this
  have hlen := trodAll_length _ _ _ _ hA
  refine ⟨_, rfl, ds, [], _, [], p, [], hW', ?_, ?_, ?_, hbel.frame _, fun h => by cases h⟩
  · rw [List.append_nil, hs ds hlen, hr]
    exact trodAll_mk1 (shut_bool htb true)
  · rw [List.append_nil, hs ds hlen]
    exact trodAll_below hl hbel _ _ _ _ (fun t ht => ⟨(hts t ht).1.2, (hts t ht).2⟩) hA
  · rw [List.append_nil, hs ds hlen, hsv]
    exact rfl
end
end Go.Cx

end

section
namespace Go.Cx
set_option linter.unusedSimpArgs false
theorem i64_wrap {n : Int} (h0 : -9223372036854775808 ≤ n) (h : n < 9223372036854775808) : IntKind.i64.wrap n = n := by
  simp [IntKind.wrap, IntKind.signed, IntKind.bits]; omega
theorem u8_wrap {n : Int} (h0 : 0 ≤ n) (h : n < 256) : IntKind.u8.wrap n = n := by
  simp [IntKind.wrap, IntKind.signed, IntKind.bits]; omega
def bl (b : List UInt8) : List AV := b.map byte
@[simp] theorem bl_length (b : List UInt8) : (bl b).length = b.length := by simp [bl]
theorem bl_get {b : List UInt8} {i : Nat} (h : i < b.length) : (bl b).getD i (.int .u8 0) = .int .u8 (b[i].toNat : Int) := by
  simp [bl, List.getD_eq_getElem?_getD, h, byte]
theorem shr4 (n : Nat) : shrA .u8 (n : Int) 4 = ((n / 16 : Nat) : Int) := by
  have : (min (4 : Int).toNat IntKind.u8.bits) = 4 := by decide
  unfold shrA; rw [this]
  show (n : Int).fdiv (2 ^ 4) = _
  rw [Int.fdiv_eq_ediv_of_nonneg _ (by decide)]
  norm_cast
theorem and15 {n : Nat} (h : n < 256) : bitsA .and .u8 (n : Int) 15 = ((n % 16 : Nat) : Int) := by
  have : ∀ k : Fin 256, bitsA .and .u8 ((k : Nat) : Int) 15 = (((k : Nat) % 16 : Nat) : Int) := by decide +kernel
  exact this ⟨n, h⟩
theorem bytesOf_bl (b : List UInt8) : bytesOf (bl b) = b := by
  induction b with
  | nil => rfl
  | cons c b ih =>
    simp only [bl, bytesOf, List.map_cons, List.map_map] at ih ⊢
    rw [ih]
    congr 1
    simp [toB, byte, getI]
theorem lit_u8 {n : Int} (h : (Lit.int .u8 n).wf = true) : 0 ≤ n ∧ n < 256 := by
  simp [Lit.wf, IntKind.min, IntKind.max, IntKind.signed, IntKind.bits] at h
  omega
theorem lit_i64 {n : Int} (h : (Lit.int .i64 n).wf = true) : -9223372036854775808 ≤ n ∧ n < 9223372036854775808 := by
  simp [Lit.wf, IntKind.min, IntKind.max, IntKind.signed, IntKind.bits] at h
  omega
theorem wf_bytes {a : AV} (h : Wf (.slice 1 (.int .u8)) a) : ∃ b : List UInt8, a = .slice 1 (.int .u8) (bl b) .ro ∧ b.length < TOP := by
  simp only [Wf] at h
  obtain ⟨xs, rfl, hl, hx⟩ := h
  have key : ∀ l : List AV, (∀ y ∈ l, ∃ n, y = .int .u8 n ∧ (Lit.int .u8 n).wf = true) → l = bl (l.map toB) := by
    intro l
    induction l with
    | nil => intro _; rfl
    | cons y l ih =>
      intro h
      obtain ⟨n, rfl, hn⟩ := h y (by simp)
      obtain ⟨h0, h1⟩ := lit_u8 hn
      have := ih (fun z hz => h z (by simp [hz]))
      simp only [bl, List.map_cons, List.map_map] at this ⊢
      rw [← this]
      congr 1
      simp only [byte, toB, getI]
      congr 1
      have : (UInt8.ofNat n.toNat).toNat = n.toNat := by
        rw [UInt8.toNat_ofNat']; omega
      rw [this]; omega
  exact ⟨xs.map toB, by rw [← key xs hx], by simpa using hl⟩
end Go.Cx

end

section
namespace Go.Cx
theorem outP_bool {K : Bool → Prop} {r : AV} {hp : List Ob} (h : outP (.leaf .bool) (fun ls => K (getB (ls.getD 0 .junk))) r hp) : ∃ b, r = .bool b ∧ K b := by
  unfold outP at h
  split at h
  · rename_i x hx
    obtain ⟨-, h2⟩ := chkP_inv h
    cases r <;> simp [mat, fit] at hx
    case bool b => subst hx; exact ⟨b, rfl, h2⟩
  · exact h.elim
theorem law_flat {E : En} {fn : Func} {as : List AV} {hp : List Ob} {T : Tr Bool} (hc : ∀ Rv : Bool → Prop, callA E fn as hp (outP (.leaf .bool) fun ls => Rv (getB (ls.getD 0 .junk))) = T.fold False Rv) (hx : T.val = some true) :
    callA E fn as hp (fun r _ => r = .bool true) := by
  refine callA_mono (fun y h hy => ?_) (Eq.mpr (hc (· = true)) (Tr.fold_P (R := (· = true)) rfl T hx))
  obtain ⟨b, rfl, rfl⟩ := outP_bool (K := (· = true)) hy
  rfl
theorem law_mach {E : En} {fn : Func} {σ : Type} {as : List AV} {hp : List Ob} {step : σ → Tr (σ ⊕ Bool)} {T : Tr (σ ⊕ Bool)} {L : (Bool → Prop) → σ → Prop}
    (hc : ∀ Rv : Bool → Prop, callA E fn as hp (outP (.leaf .bool) fun ls => Rv (getB (ls.getD 0 .junk))) = T.fold False (Sum.elim (L Rv) Rv)) (hl : ∀ Rv s, (step s).fold False (Sum.elim (L Rv) Rv) → L Rv s)
    (hx : run step T = some true) : callA E fn as hp (fun r _ => r = .bool true) := by
  obtain ⟨n, hn⟩ := run_some.1 hx
  refine callA_mono (fun y h hy => ?_) (Eq.mpr (hc (· = true)) (machine_sound (R := (· = true)) (hl _) rfl n T hn))
  obtain ⟨b, rfl, rfl⟩ := outP_bool (K := (· = true)) hy
  rfl
end Go.Cx

end

section
namespace Go.Cx
set_option linter.unusedSimpArgs false
variable {σ ρ τ : Type}
theorem Tr.val_c (b : Bool) (t e : Tr ρ) : (Tr.c b t e).val = cond b t.val e.val := by cases b <;> rfl
theorem Tr.val_r (x : ρ) : (Tr.r x).val = some x := rfl
theorem Tr.val_bad : (Tr.bad : Tr ρ).val = none := rfl
theorem run_val (step : σ → Tr (σ ⊕ ρ)) (t : Tr (σ ⊕ ρ)) : run step t = t.val.bind (Sum.elim (fun s => run step (step s)) some) := by
  rw [run_unfold]
  induction t with
  | bad => rfl
  | r x => cases x <;> rfl
  | c b t e iht ihe =>
    cases b with
    | true => exact iht
    | false => exact ihe
theorem run_inl {step : σ → Tr (σ ⊕ ρ)} {t : Tr (σ ⊕ ρ)} {s : σ} (h : t.val = some (.inl s)) : run step t = run step (step s) := by
  rw [run_val, h]; rfl
theorem run_inr {step : σ → Tr (σ ⊕ ρ)} {t : Tr (σ ⊕ ρ)} {x : ρ} (h : t.val = some (.inr x)) : run step t = some x := by
  rw [run_val, h]; rfl
theorem run_count {step : σ → Tr (σ ⊕ ρ)} {f : Nat → σ} {n : Nat} (h : ∀ i, i < n → (step (f i)).val = some (.inl (f (i + 1)))) : run step (step (f 0)) = run step (step (f n)) := by
  induction n with
  | zero => rfl
  | succ n ih => rw [ih (fun i hi => h i (by omega)), run_inl (h n (by omega))]
theorem run_until {step : σ → Tr (σ ⊕ ρ)} {f : Nat → σ} {n : Nat} {x : ρ} (h : ∀ i, i < n → (step (f i)).val = some (.inl (f (i + 1)))) (hx : (step (f n)).val = some (.inr x)) : run step (step (f 0)) = some x := by
  rw [run_count h, run_inr hx]
theorem run_exit {step : σ → Tr (σ ⊕ ρ)} {f : Nat → σ} {p : Nat → Bool} {e : ρ} {n : Nat} {z : ρ} (h : ∀ i, i < n → (step (f i)).val = some (if p i = true then .inl (f (i + 1)) else .inr e)) (hz : (step (f n)).val = some (.inr z)) :
    run step (step (f 0)) = some (if (List.range n).all p = true then z else e) := by
  have key : ∀ k i, i + k = n → (∀ j, j < i → p j = true) → run step (step (f i)) = some (if (List.range n).all p = true then z else e) := by
    intro k
    induction k with
    | zero =>
      intro i hi hp
      have : i = n := by omega
      subst this
      rw [run_inr hz, if_pos]
      simpa [List.all_eq_true] using hp
    | succ k ih =>
      intro i hi hp
      have hh := h i (by omega)
      cases hpi : p i with
      | true =>
        rw [hpi, if_pos rfl] at hh
        rw [run_inl hh]
        exact ih (i + 1) (by omega) (fun j hj => by
          by_cases e : j = i
          · subst e; exact hpi
          · exact hp j (by omega))
      | false =>
        rw [hpi] at hh
        rw [run_inr (x := e) (by simpa using hh), if_neg]
        simp only [List.all_eq_true, List.mem_range]
        intro hall
        have := hall i (by omega)
        rw [hpi] at this; simp at this
  exact key n 0 (by omega) (fun j hj => by omega)
def foldE {α β : Type} (g : β → α → β ⊕ ρ) : β → List α → β ⊕ ρ
  | acc, [] => .inl acc
  | acc, x :: l => match g acc x with
    | .inl acc => foldE g acc l
    | .inr e => .inr e
theorem run_foldE {α β : Type} {step : σ → Tr (σ ⊕ ρ)} {F : Nat → β → σ} {l : List α} {g : β → α → β ⊕ ρ} {z : β → Tr (σ ⊕ ρ)} {Inv : Nat → β → Prop}
    (h : ∀ i (hi : i < l.length) acc, Inv i acc → (step (F i acc)).val = some (match g acc l[i] with | .inl acc' => .inl (F (i + 1) acc') | .inr e => .inr e))
    (hI : ∀ i (hi : i < l.length) acc acc', Inv i acc → g acc l[i] = .inl acc' → Inv (i + 1) acc')
    (hz : ∀ acc, Inv l.length acc → step (F l.length acc) = z acc) {acc : β} (h0 : Inv 0 acc) :
    run step (step (F 0 acc)) = match foldE g acc l with | .inl acc' => run step (z acc') | .inr e => some e := by
  have key : ∀ k i acc, i + k = l.length → Inv i acc → run step (step (F i acc)) = match foldE g acc (l.drop i) with | .inl acc' => run step (z acc') | .inr e => some e := by
    intro k
    induction k with
    | zero =>
      intro i acc hi hinv
      have : i = l.length := by omega
      subst this
      rw [List.drop_length, hz acc hinv]; rfl
    | succ k ih =>
      intro i acc hi hinv
      have hlt : i < l.length := by omega
      have hh := h i hlt acc hinv
      rw [List.drop_eq_getElem_cons hlt, foldE]
      cases hg : g acc l[i] with
      | inl acc' =>
        rw [hg] at hh
        rw [run_inl hh]
        exact ih (i + 1) acc' (by omega) (hI i hlt acc acc' hinv hg)
      | inr e =>
        rw [hg] at hh
        rw [run_inr hh]
  simpa using key l.length 0 acc (by omega) h0
end Go.Cx

end

section
namespace Go.Cx
set_option linter.unusedSimpArgs false
theorem u64_wrap {n : Int} (h0 : 0 ≤ n) (h : n < 18446744073709551616) : IntKind.u64.wrap n = n := by
  simp [IntKind.wrap, IntKind.signed, IntKind.bits]; omega
theorem u32_wrap {n : Int} (h0 : 0 ≤ n) (h : n < 4294967296) : IntKind.u32.wrap n = n := by
  simp [IntKind.wrap, IntKind.signed, IntKind.bits]; omega
theorem u8_mod (n : Int) : IntKind.u8.wrap n = n % 256 := by simp [IntKind.wrap, IntKind.signed, IntKind.bits]
theorem u32_mod (n : Int) : IntKind.u32.wrap n = n % 4294967296 := by simp [IntKind.wrap, IntKind.signed, IntKind.bits]
theorem u64_mod (n : Int) : IntKind.u64.wrap n = n % 18446744073709551616 := by simp [IntKind.wrap, IntKind.signed, IntKind.bits]
theorem u64_bounds (n : Int) : 0 ≤ IntKind.u64.wrap n ∧ IntKind.u64.wrap n < 18446744073709551616 := by rw [u64_mod]; omega
theorem u8_bounds (n : Int) : 0 ≤ IntKind.u8.wrap n ∧ IntKind.u8.wrap n < 256 := by rw [u8_mod]; omega
theorem tmod_eq {a b : Int} (h : 0 ≤ a) : Int.tmod a b = a % b := Int.tmod_eq_emod_of_nonneg h
theorem tdiv_eq {a b : Int} (h : 0 ≤ a) : Int.tdiv a b = a / b := Int.tdiv_eq_ediv_of_nonneg h
@[simp] theorem getI_int (k : IntKind) (n : Int) : getI (.int k n) = n := rfl
@[simp] theorem getB_bool (b : Bool) : getB (.bool b) = b := rfl
@[simp] theorem getS_str (s : List UInt8) : getS (.str s) = s := rfl
@[simp] theorem getXs_slice (a : Nat) (b : Sh) (xs : List AV) (k : SK) : getXs (.slice a b xs k) = xs := rfl
@[simp] theorem getCs_agg (cs : List AV) : getCs (.agg cs) = cs := rfl
@[simp] theorem bytesOf_bl' (b : List UInt8) : bytesOf (bl b) = b := bytesOf_bl b
@[simp] theorem bl_nil : bl [] = [] := rfl
@[simp] theorem bl_append (a b : List UInt8) : bl (a ++ b) = bl a ++ bl b := by simp [bl]
theorem bl_cons (c : UInt8) (b : List UInt8) : bl (c :: b) = .int .u8 (c.toNat : Int) :: bl b := rfl
@[simp] theorem bl_take (b : List UInt8) (n : Nat) : (bl b).take n = bl (b.take n) := by simp [bl, List.map_take]
@[simp] theorem bl_drop (b : List UInt8) (n : Nat) : (bl b).drop n = bl (b.drop n) := by simp [bl, List.map_drop]
theorem bl_inj {a b : List UInt8} (h : bl a = bl b) : a = b := by have := congrArg bytesOf h; simpa using this
theorem byte_ofNat {n : Nat} (h : n < 256) : byte (UInt8.ofNat n) = .int .u8 (n : Int) := by
  simp [byte, UInt8.toNat_ofNat', Nat.mod_eq_of_lt h]
theorem int_byte {n : Int} (h0 : 0 ≤ n) (h : n < 256) : AV.int .u8 n = byte (UInt8.ofNat n.toNat) := by
  rw [byte_ofNat (by omega)]; congr 1; omega
theorem bl_set (b : List UInt8) (i : Nat) {n : Int} (h0 : 0 ≤ n) (h : n < 256) : (bl b).set i (.int .u8 n) = bl (b.set i (UInt8.ofNat n.toNat)) := by
  rw [int_byte h0 h]; simp [bl, List.map_set]
theorem bl_replicate (n : Nat) : List.replicate n (AV.int .u8 0) = bl (List.replicate n 0) := by simp [bl, byte]
theorem bl_getD {b : List UInt8} {i : Nat} : (bl b).getD i (.int .u8 0) = .int .u8 ((b.getD i 0).toNat : Int) := by
  simp only [bl, List.getD_eq_getElem?_getD, List.getElem?_map]
  cases b[i]? <;> rfl
theorem toUInt8_toNat (c : UInt8) : Nat.toUInt8 c.toNat = c := by simp [Nat.toUInt8]
theorem getD_lt {b : List UInt8} {i : Nat} (h : i < b.length) : b.getD i 0 = b[i] := by simp [List.getD_eq_getElem?_getD, h]
theorem range_all {α : Type} (s : List α) (d : α) (p : α → Bool) : (List.range s.length).all (fun i => p (s.getD i d)) = s.all p := by
  rw [Bool.eq_iff_iff]
  simp only [List.all_eq_true, List.mem_range]
  constructor
  · intro h x hx
    obtain ⟨i, hi, rfl⟩ := List.getElem_of_mem hx
    simpa [List.getD_eq_getElem?_getD, hi] using h i hi
  · intro h i hi
    simpa [List.getD_eq_getElem?_getD, hi] using h s[i] (List.getElem_mem hi)
theorem all_bytes {p : UInt8 → Prop} (h : ∀ k : Fin 256, p (UInt8.ofNat k)) (c : UInt8) : p c := by
  have := h ⟨c.toNat, c.toNat_lt⟩
  simpa using this
theorem val_opt {ρ τ : Type} [Inhabited ρ] (o : Option ρ) (k : ρ → Tr τ) : (opt o k).val = o.bind fun x => (k x).val := by
  cases o <;> rfl
theorem val_opt_some {ρ τ : Type} [Inhabited ρ] {o : Option ρ} {x : ρ} (h : o = some x) (k : ρ → Tr τ) : (opt o k).val = (k x).val := by
  subst h; rfl
theorem opt_some {ρ τ : Type} [Inhabited ρ] (x : ρ) (k : ρ → Tr τ) : (opt (some x) k).val = (k x).val := rfl
end Go.Cx

end

section
namespace Go.Cx
set_option linter.unusedSimpArgs false
theorem ofInt_toNat (w X : Nat) (h : X < 2 ^ w) : (BitVec.ofInt w (X : Int)).toNat = X := by
  rw [BitVec.toNat_ofInt]
  have : ((X : Int) % ((2 ^ w : Nat) : Int)).toNat = X := by
    rw [← Int.natCast_emod, Nat.mod_eq_of_lt h]; simp
  simpa using this
theorem or64 {X Y : Nat} (hX : X < 2 ^ 64) (hY : Y < 2 ^ 64) : bitsA .or .u64 (X : Int) (Y : Int) = ((X ||| Y : Nat) : Int) := by
  show IntKind.u64.wrap ((BitVec.ofInt 64 (X : Int) ||| BitVec.ofInt 64 (Y : Int)).toNat : Int) = _
  rw [BitVec.toNat_or, ofInt_toNat 64 X hX, ofInt_toNat 64 Y hY]
  have := Nat.or_lt_two_pow hX hY
  exact u64_wrap (by omega) (by omega)
theorem and64 {X Y : Nat} (hX : X < 2 ^ 64) (hY : Y < 2 ^ 64) : bitsA .and .u64 (X : Int) (Y : Int) = ((X &&& Y : Nat) : Int) := by
  show IntKind.u64.wrap ((BitVec.ofInt 64 (X : Int) &&& BitVec.ofInt 64 (Y : Int)).toNat : Int) = _
  rw [BitVec.toNat_and, ofInt_toNat 64 X hX, ofInt_toNat 64 Y hY]
  have := Nat.and_lt_two_pow X hY
  exact u64_wrap (by omega) (by omega)
theorem xor32 {X Y : Nat} (hX : X < 2 ^ 32) (hY : Y < 2 ^ 32) : bitsA .xor .u32 (X : Int) (Y : Int) = ((X ^^^ Y : Nat) : Int) := by
  show IntKind.u32.wrap ((BitVec.ofInt 32 (X : Int) ^^^ BitVec.ofInt 32 (Y : Int)).toNat : Int) = _
  rw [BitVec.toNat_xor, ofInt_toNat 32 X hX, ofInt_toNat 32 Y hY]
  have := Nat.xor_lt_two_pow hX hY
  exact u32_wrap (by omega) (by omega)
theorem and32 {X Y : Nat} (hX : X < 2 ^ 32) (hY : Y < 2 ^ 32) : bitsA .and .u32 (X : Int) (Y : Int) = ((X &&& Y : Nat) : Int) := by
  show IntKind.u32.wrap ((BitVec.ofInt 32 (X : Int) &&& BitVec.ofInt 32 (Y : Int)).toNat : Int) = _
  rw [BitVec.toNat_and, ofInt_toNat 32 X hX, ofInt_toNat 32 Y hY]
  have := Nat.and_lt_two_pow X hY
  exact u32_wrap (by omega) (by omega)
theorem odd32 {X : Nat} (hX : X < 2 ^ 32) : bitsA .and .u32 (X : Int) 1 = ((X % 2 : Nat) : Int) := by
  have := and32 hX (Y := 1) (by omega)
  rw [Nat.and_one_is_mod] at this
  exact this
theorem half32 (X : Nat) : shrA .u32 (X : Int) 1 = ((X / 2 : Nat) : Int) := by
  show (X : Int).fdiv 2 = _
  rw [Int.fdiv_eq_ediv_of_nonneg _ (by decide)]
  norm_cast
theorem byte_behind {a y : Nat} (ha : a < 2 ^ 56) (hy : y < 256) : bitsA .or .u64 (shlA .u64 (a : Int) 8) (IntKind.u64.wrap (y : Int)) = ((a * 256 + y : Nat) : Int) := by
  have hs : shlA .u64 (a : Int) 8 = ((a * 256 : Nat) : Int) := by
    show IntKind.u64.wrap ((a : Int) * 256) = _
    rw [u64_wrap (by omega) (by omega)]; omega
  rw [hs, u64_wrap (by omega) (by omega), or64 (by omega) (by omega)]
  have h := Nat.two_pow_add_eq_or_of_lt (i := 8) (b := y) (by omega) a
  have e : a * 256 = 2 ^ 8 * a := by omega
  rw [e, ← h]
theorem lit_u64 {n : Int} (h : (Lit.int .u64 n).wf = true) : 0 ≤ n ∧ n < 18446744073709551616 := by
  simp [Lit.wf, IntKind.min, IntKind.max, IntKind.signed, IntKind.bits] at h
  omega
theorem wf_u64 {xs : List AV} (h : ∀ y ∈ xs, Wf (.int .u64) y) (i : Nat) : 0 ≤ getI (xs.getD i (.int .u64 0)) ∧ getI (xs.getD i (.int .u64 0)) < 18446744073709551616 := by
  rw [List.getD_eq_getElem?_getD]
  rcases Nat.lt_or_ge i xs.length with hi | hi
  · rw [List.getElem?_eq_getElem hi]
    obtain ⟨n, hn, hw⟩ := h xs[i] (List.getElem_mem hi)
    simp only [Option.getD_some, hn, getI_int]
    exact lit_u64 hw
  · rw [List.getElem?_eq_none hi]
    simp
end Go.Cx

end

section
namespace Go.Cx
open Go.RowKit Go.ChangeShapes Go.WideShapes
set_option linter.unusedSimpArgs false
mutual
def bulkV : AV → Nat
  | .str s => s.length + 1
  | .slice _ _ xs _ => bulkL xs + 1
  | .agg cs => bulkL cs + 1
  | _ => 1
def bulkL : List AV → Nat
  | [] => 0
  | x :: r => bulkV x + bulkL r
end
theorem bulkL_append (a b : List AV) : bulkL (a ++ b) = bulkL a + bulkL b := by
  induction a with
  | nil => simp [bulkL]
  | cons x a ih => simp only [List.cons_append, bulkL, ih]; omega
theorem bulkV_pos : ∀ x : AV, 1 ≤ bulkV x := by
  intro x
  cases x <;> simp only [bulkV] <;> omega
theorem bulkL_len (l : List AV) : l.length ≤ bulkL l := by
  induction l with
  | nil => simp
  | cons x l ih => have := bulkV_pos x; simp only [List.length_cons, bulkL]; omega
theorem bulkV_mem {x : AV} {l : List AV} (h : x ∈ l) : bulkV x ≤ bulkL l := by
  induction l with
  | nil => simp at h
  | cons y l ih =>
    simp only [bulkL]
    rcases List.mem_cons.1 h with rfl | h
    · omega
    · have := ih h; omega
structure Bulk {H : Type} (B : DataW H → Nat) (BA : List (DataW H) → Nat) : Prop where
  lit : ∀ l, 1 ≤ B (.lit l)
  str : ∀ b, B (.lit (.string b)) = b.length + 1
  nilv : B .nil = 1
  slice : ∀ e s, B (.slice e s) = BA e + BA s + 1
  agg : ∀ l, B (.agg l) = BA l + 1
  nil : BA [] = 0
  cons : ∀ d r, BA (d :: r) = B d + BA r
section
variable {H : Type} {enc : TypeId × Value → H} {P : Program} {w : World} {sp : Nat → Bool} {held : Bool} {B : DataW H → Nat} {BA : List (DataW H) → Nat}
theorem Bulk.append (hB : Bulk B BA) (a b : List (DataW H)) : BA (a ++ b) = BA a + BA b := by
  induction a with
  | nil => simp [hB.nil]
  | cons x a ih => simp only [List.cons_append, hB.cons, ih]; omega
theorem Bulk.snoc (hB : Bulk B BA) (a : List (DataW H)) (d : DataW H) : BA (a ++ [d]) = BA a + B d := by
  rw [hB.append, hB.cons, hB.nil]; rfl
theorem rows_B {sh : Sh} {sz : Nat} {a : Addr} {f : Nat → Nat} {F : Nat → Nat} (hF : ∀ i, F (i + 1) = F i + f i) : ∀ (len : Nat),
    (∀ i, i < len → ∃ vs cs, w.cells? 0 (a.add (i * sz)) sz = some vs ∧ VL (.seen w) cs vs ∧ WfL (shL sh) cs ∧ bulkV (mkEl sh cs) ≤ f i) →
    ∃ xs vs, xs.length = len ∧ VL (.seen w) (flat xs) vs ∧ vs.length = len * sz ∧ (∀ x ∈ xs, Wf sh x ∧ (cells x).length = sz ∧ (cells x).all oneCell = true) ∧ (∀ i v, vs[i]? = some v → w.cell? (a.add i) = some v) ∧ bulkL xs + F 0 ≤ F len
  | 0, _ => ⟨[], [], rfl, VL.nil _, by simp, fun x hx => by simp at hx, fun i v h => by simp at h, by simp [bulkL]⟩
  | len + 1, h => by
    obtain ⟨xs, vs, h1, h2, h3, h4, h5, h6⟩ := rows_B (sh := sh) hF len (fun i hi => h i (by omega))
    obtain ⟨us, cs, k1, k2, k3, k6⟩ := h len (by omega)
    obtain ⟨_, k4, k5⟩ := World.cells?_some k1
    obtain ⟨e1, e2⟩ := mkEl_wf k3
    refine ⟨xs ++ [mkEl sh cs], vs ++ us, by simp [h1], ?_, by simp [h3, k4, Nat.add_mul], fun x hx => ?_, fun i v hi => ?_, ?_⟩
    · rw [flat_append]
      refine VL.append h2 ?_
      simpa [flat, e2] using k2
    · rcases List.mem_append.1 hx with hx | hx
      · exact h4 x hx
      · simp at hx; subst hx
        exact ⟨e1, by rw [e2, k2.1, k4], by rw [e2]; exact k3.one⟩
    · rw [List.getElem?_append] at hi
      split at hi
      · exact h5 i v hi
      · rename_i hlt
        have hj := k5 (i - vs.length) (by have := length_of_get hi; omega)
        rw [hi] at hj
        rw [← hj]
        have : (a.add (len * sz)).add (i - vs.length) = a.add i := by
          simp only [Addr.add]
          by_cases z : len * sz = 0
          · have : vs.length = 0 := by omega
            simp [z, this]
          · have : ¬ i = 0 := by omega
            by_cases z2 : i - vs.length = 0
            · simp [z, z2, this]; omega
            · simp [z, z2, this]; omega
        rw [this]
    · rw [bulkL_append, hF]
      simp only [bulkL]
      omega
theorem trod_B (hB : Bulk B BA) : ∀ (d n : Nat) (t : TypeId) (vs : List Value) (x : DataW H × List MemPlace), plainT P d t = true → DataW.trod enc P w 0 sp held n t vs = some x →
    ∃ cs, VL (.seen w) cs vs ∧ WfL (shL (shA P d t)) cs ∧ bulkV (mkEl (shA P d t) cs) ≤ B x.1 ∧ bulkL cs ≤ B x.1
  | 0, n, t, vs, x, hp, h => by simp [plainT] at hp
  | d + 1, n, t, vs, x, hp, h => by
    unfold plainT at hp
    split at hp
    · rename_i hu
      obtain ⟨b, rfl, rfl⟩ := DataW.trod_bool hu h
      have : shA P (d + 1) t = .bool := by simp [shA, tk_def, hu]
      rw [this]
      have := hB.lit (.bool b)
      exact ⟨[.bool b], VL.cons (.bool b) (VL.nil _), ⟨⟨⟨b, rfl⟩, rfl⟩, trivial⟩, by simpa [mkEl, bulkV] using this, by simpa [bulkL, bulkV] using this⟩
    · rename_i k hu
      obtain ⟨m, rfl, rfl, hw⟩ := DataW.trod_int hu h
      have : shA P (d + 1) t = .int k := by simp [shA, tk_def, hu]
      rw [this]
      have := hB.lit (.int k m)
      exact ⟨[.int k m], VL.cons (.int k m) (VL.nil _), ⟨⟨⟨m, rfl, hw⟩, rfl⟩, trivial⟩, by simpa [mkEl, bulkV] using this, by simpa [bulkL, bulkV] using this⟩
    · rename_i hu
      obtain ⟨s, rfl, rfl, hs⟩ := DataW.trod_string hu h
      have : shA P (d + 1) t = .str := by simp [shA, tk_def, hu]
      rw [this]
      have hl : s.data.toList.length < TOP := by
        have : s.data.toList.length = s.size := by rw [Array.length_toList]; rfl
        rw [this]; unfold maxLen at hs; unfold TOP; omega
      have := hB.str s.data.toList
      refine ⟨[.str s.data.toList], VL.cons (.str _ hl) (VL.nil _), ⟨⟨⟨_, rfl, hl⟩, rfl⟩, trivial⟩, ?_, ?_⟩
      · show bulkV (.str s.data.toList) ≤ _
        rw [this]; simp only [bulkV]; omega
      · show bulkV (.str s.data.toList) + 0 ≤ _
        rw [this]; simp only [bulkV]; omega
    · rename_i e hu
      simp only [Bool.and_eq_true, beq_iff_eq, decide_eq_true_eq] at hp
      obtain ⟨⟨hc, hpe⟩, hsl⟩ := hp
      have : shA P (d + 1) t = .slice (sizeA P e) (shA P d e) := by simp [shA, tk_def, hu]
      rw [this]
      rcases DataW.trod_slice hu h with ⟨rfl, rfl⟩ | ⟨a, len, cap, elems, rest, m, rfl, rfl, rfl, -, hlc, hcm, hel, hE, -, -⟩
      · refine ⟨[.slice _ _ [] .ro], VL.cons (.slice0 _ _) (VL.nil _), ⟨⟨⟨[], rfl, by decide, fun y hy => by simp at hy⟩, rfl⟩, trivial⟩, ?_, ?_⟩
        · show bulkV (.slice _ _ [] .ro) ≤ B .nil
          rw [hB.nilv]; simp [bulkV, bulkL]
        · show bulkV (.slice _ _ [] .ro) + 0 ≤ B .nil
          rw [hB.nilv]; simp [bulkV, bulkL]
      · have each : ∀ i, i < len → ∃ vs cs, w.cells? 0 (a.add (i * sizeA P e)) (sizeA P e) = some vs ∧ VL (.seen w) cs vs ∧ WfL (shL (shA P d e)) cs ∧ bulkV (mkEl (shA P d e) cs) ≤ (match elems[i]? with | some y => B y.1 | none => 0) := by
          intro i hi
          have h1 := hE i hi
          rw [List.getElem?_eq_getElem (by omega : i < elems.length), Option.bind_eq_some_iff] at h1
          obtain ⟨us, h2, h3⟩ := h1
          obtain ⟨cs, h4, h5, h6, -⟩ := trod_B hB d m e us _ hpe h3
          rw [hc] at h2
          refine ⟨us, cs, h2, h4, h5, ?_⟩
          rw [List.getElem?_eq_getElem (by omega : i < elems.length)]
          exact h6
        have hF : ∀ i, BA ((elems.take (i + 1)).map (·.1)) = BA ((elems.take i).map (·.1)) + (match elems[i]? with | some y => B y.1 | none => 0) := by
          intro i
          rcases Nat.lt_or_ge i elems.length with hi | hi
          · rw [List.getElem?_eq_getElem hi, List.take_succ_eq_append_getElem hi, List.map_append, List.map_singleton, hB.snoc]
          · rw [List.getElem?_eq_none hi, List.take_of_length_le hi, List.take_of_length_le (by omega)]
            exact (Nat.add_zero _).symm
        obtain ⟨xs, us, h1, h2, h3, h4, h5, h6⟩ := rows_B (F := fun i => BA ((elems.take i).map (·.1))) hF len each
        have hb : bulkV (.slice (sizeA P e) (shA P d e) xs .ro) ≤ B (.slice (elems.map (·.1)) (rest.map (·.1))) := by
          simp only [List.take_zero, List.map_nil, hB.nil] at h6
          rw [List.take_of_length_le (by omega)] at h6
          rw [hB.slice]
          simp only [bulkV]
          omega
        have htop : len < TOP := by unfold maxLen at hcm; unfold TOP; omega
        refine ⟨[.slice _ _ xs .ro], VL.cons ?_ (VL.nil _), ⟨⟨⟨xs, rfl, by omega, fun y hy => (h4 y hy).1⟩, rfl⟩, trivial⟩, hb, by show bulkV _ + 0 ≤ _; exact hb⟩
        by_cases h0 : len = 0
        · subst h0
          have := List.eq_nil_of_length_eq_zero h1
          subst this
          exact .slice1 _ _ _ a cap
        · obtain ⟨b, o, spot⟩ := a
          have h00 := each 0 (by omega)
          obtain ⟨us0, cs0, k1, -, -⟩ := h00
          obtain ⟨-, k4, k5⟩ := World.cells?_some k1
          have := k5 0 (by omega)
          have hs : spot = none := by
            simp only [Nat.zero_mul, Addr.add, if_pos] at this
            rw [List.getElem?_eq_getElem (by omega : 0 < us0.length)] at this
            cases spot with
            | none => rfl
            | some q => simp [World.cell?] at this; split at this <;> simp at this
          subst hs
          rw [← h1]
          refine .slice _ _ xs .ro us b o cap h2.1 h2.2 (fun i v e => ?_) (fun x hx => ⟨(h4 x hx).1.shape, (h4 x hx).2⟩) (by omega) (by omega)
          have := h5 i v e
          show w.cell? ⟨b, o + i, none⟩ = some v
          simp only [Addr.add] at this
          split at this
          · rename_i e0; subst e0; exact this
          · exact this
    · rename_i fs hu
      simp only [Bool.and_eq_true, List.all_eq_true] at hp
      obtain ⟨hpf, hof⟩ := hp
      obtain ⟨xs, m, rfl, rfl, hlen, hxl, hF⟩ := DataW.trod_struct hu h
      have : shA P (d + 1) t = .agg (fs.toList.flatMap fun f => shL (shA P d f.type)) := by
        simp only [shA, tk_def, hu, List.flatMap_map]
        congr 1
      rw [this]
      have key : ∀ (l : List Field) (ys : List (DataW H × List MemPlace)) (o : Nat), l.length = ys.length → (∀ f ∈ l, plainT P d f.type = true) → offs P l o (P.cellsOf t) = true →
          (∀ (i : Nat) (f : Field), l[i]? = some f → DataW.trod enc P w 0 sp held m f.type ((vs.drop f.offset).take (P.cellsOf f.type)) = ys[i]?) → 
          ∃ cs, VL (.seen w) cs (vs.drop o) ∧ WfL (l.flatMap fun f => shL (shA P d f.type)) cs ∧ bulkL cs ≤ BA (ys.map (·.1)) := by
        intro l
        induction l with
        | nil =>
          intro ys o _ _ ho _
          simp only [offs, beq_iff_eq] at ho
          refine ⟨[], ?_, trivial, by simp [bulkL]⟩
          rw [List.drop_eq_nil_of_le (by omega)]
          exact VL.nil _
        | cons f l ih =>
          intro ys o hl h1 h2 h3
          cases ys with
          | nil => simp at hl
          | cons y ys =>
            simp only [offs, Bool.and_eq_true, beq_iff_eq] at h2
            obtain ⟨ho, h2⟩ := h2
            subst ho
            obtain ⟨cs2, k1, k2, k5⟩ := ih ys _ (by simpa using hl) (fun g hg => h1 g (by simp [hg])) h2 (fun i g hg => by have := h3 (i + 1) g (by simpa using hg); simpa using this)
            have hy := h3 0 f rfl
            simp only [List.getElem?_cons_zero] at hy
            obtain ⟨cs1, k3, k4, -, k6⟩ := trod_B hB d m f.type _ y (h1 f (by simp)) hy
            refine ⟨cs1 ++ cs2, ?_, ?_, ?_⟩
            · have := VL.append k3 k1
              rwa [← List.drop_drop, List.take_append_drop] at this
            · simp only [List.flatMap_cons]
              exact k4.append k2
            · rw [bulkL_append, List.map_cons, hB.cons]; omega
      obtain ⟨cs, c1, c2, c3⟩ := key fs.toList xs 0 (by rw [hxl]; simp) hpf hof (fun i f hf => hF i f (by simpa using hf))
      refine ⟨cs, by simpa using c1, by simpa [shL] using c2, ?_, ?_⟩
      · show bulkV (.agg cs) ≤ B (.agg _)
        rw [hB.agg]; simp only [bulkV]; omega
      · show bulkL cs ≤ B (.agg _)
        rw [hB.agg]; omega
    · simp at hp
theorem arg_B (hB : Bulk B BA) {D : Nat} {t : TypeId} {v : Value} {r : Reach} {b : Nat} {d : DataW H} {ps : List MemPlace} (hp : plainT P D t = true) (hv : Value.okWide P w r b t v)
    (h : DataW.Trod enc P w 0 sp held t v d ps) : ∃ a, V (.seen w) a v ∧ Wf (shA P D t) a ∧ bulkV a ≤ B d := by
  obtain ⟨n, h⟩ := h
  obtain ⟨cs, h1, h2, h3, -⟩ := trod_B hB D n t _ _ hp h
  obtain ⟨k1, k2⟩ := mkEl_wf h2
  refine ⟨mkEl (shA P D t) cs, ?_, k1, h3⟩
  have one : v.cells.toList = [v] → V (.seen w) (mkEl (shA P D t) cs) v := by
    intro hc
    rw [hc] at h1
    have := h1.1
    cases cs with
    | nil => simp at this
    | cons c cs =>
      cases cs with
      | cons => simp at this
      | nil =>
        cases hs : shA P D t with
        | agg l =>
          exfalso
          cases D with
          | zero => simp [plainT] at hp
          | succ D =>
            unfold plainT at hp
            split at hp
            · rename_i hu; simp [shA, tk_def, hu] at hs
            · rename_i hu; simp [shA, tk_def, hu] at hs
            · rename_i hu; simp [shA, tk_def, hu] at hs
            · rename_i hu; simp [shA, tk_def, hu] at hs
            · rename_i fs hu
              obtain ⟨xs, rfl, -⟩ := okWide_struct hu hv
              cases xs with | mk l =>
              simp only [Value.cells, List.cons.injEq, and_true] at hc
              have := congrArg (fun l : List Value => SizeOf.sizeOf l) hc
              simp at this
              omega
            · simp at hp
        | _ => exact h1.head
  cases D with
  | zero => simp [plainT] at hp
  | succ D =>
    have hp0 := hp
    unfold plainT at hp
    split at hp
    · rename_i hu; obtain ⟨x, rfl⟩ := okWide_bool hu hv; exact one rfl
    · rename_i hu; obtain ⟨x, rfl⟩ := okWide_int hu hv; exact one rfl
    · rename_i hu; obtain ⟨x, rfl⟩ := okWide_string hu hv; exact one rfl
    · rename_i hu; obtain ⟨x, y, z, rfl⟩ := okWide_slice hu hv; exact one rfl
    · rename_i fs hu
      obtain ⟨xs, rfl, -⟩ := okWide_struct hu hv
      have hs : ∃ l, shA P (D + 1) t = .agg l := by simp [shA, tk_def, hu]
      obtain ⟨l, hs⟩ := hs
      rw [hs]
      have hc : (Value.agg xs).cells.toList = xs.toList := by simp [Value.cells]
      rw [hc] at h1
      exact .agg cs xs (by simpa using h1.1) (fun i c v e1 e2 => h1.2 i c v e1 (by simpa using e2))
    · simp at hp
theorem args_B (hB : Bulk B BA) {D : Nat} {r : Reach} {b : Nat} : ∀ (ts : List TypeId) (vs : List Value) (ds : List (DataW H)) (ps : List MemPlace), (∀ t ∈ ts, plainT P D t = true) →
    (∀ (j : Nat) t v, ts[j]? = some t → vs[j]? = some v → Value.okWide P w r b t v) → DataW.TrodAll enc P w 0 sp held ts vs ds ps → ∃ as, VL (.seen w) as vs ∧ WfArgs P D ts as ∧ bulkL as ≤ BA ds
  | [], [], [], ps, _, _, _ => ⟨[], VL.nil _, trivial, by simp [bulkL]⟩
  | t :: ts, v :: vs, d :: ds, ps, hp, hv, h => by
    obtain ⟨p, q, h1, h2, -⟩ := h
    obtain ⟨a, k1, k2, k5⟩ := arg_B hB (hp t (by simp)) (hv 0 t v rfl rfl) h1
    obtain ⟨as, k3, k4, k6⟩ := args_B hB ts vs ds q (fun t ht => hp t (by simp [ht])) (fun j t v e1 e2 => hv (j + 1) t v (by simpa using e1) (by simpa using e2)) h2
    exact ⟨a :: as, VL.cons k1 k3, ⟨k2, k4⟩, by simp only [bulkL, hB.cons]; omega⟩
  | [], v :: vs, _, ps, _, _, h => by simp [DataW.TrodAll] at h
  | [], [], d :: ds, ps, _, _, h => by simp [DataW.TrodAll] at h
  | t :: ts, [], _, ps, _, _, h => by simp [DataW.TrodAll] at h
  | t :: ts, v :: vs, [], ps, _, _, h => by simp [DataW.TrodAll] at h
theorem law_end_B {W : World} (hB : Bulk B BA) {N : Nat} {E : En} (hE : EnOK E) (hm : E.P.follows .mixedOrders = true) (h0 : E.keep = 0) {f : FuncId} {fn : Func} {c : Code} (hf : E.P.funcs[f]? = some fn) (hb : fn.body = some c) {D : Nat} (hl : laidOutB E.P = true)
    (hts : fn.params.toList.all (fun t => plainT E.P D t && E.P.readableRec t && decide (t < E.P.types.size)) = true) {tb : TypeId} (hr : fn.resultTypes = #[tb]) (htb : E.P.underlying tb = some .bool)
    (hlaw : ∀ as, WfArgs E.P D fn.params.toList as → bulkL as ≤ N → callA E fn as [] (fun r _ => r = .bool true)) {s : ChangeSpec} (hsv : s.vars = [])
    (hs : ∀ ds : List (DataW H), ds.length = fn.params.toList.length → s.fn H ds = { results := [.lit (.bool true)], args := ds })
    {apart fresh handsOn : Bool} {base : Nat} {args : Array Value} {ds gs : List (DataW H)} {before : List MemPlace}
    (hval : ∀ (j : Nat) t v, fn.params[j]? = some t → args[j]? = some v → Value.okWide E.P W .any base t v)
    (hW : DataW.Whole enc E.P fn.params.toList s.vars apart W args.toList ds gs before) (hN : BA (ds ++ gs) ≤ N) (hlay : ∀ w, Below W.heap.size W w → Lay E.P w) :
    Calls E.P f args W fun e W' => ∃ v, e = .returned v ∧ s.post enc E.P fn apart fresh handsOn false W args v W' := by
  have hW' := hW
  obtain ⟨p, q, hA, hV, rfl, hfz, hnd⟩ := hW
  rw [hsv] at hV
  obtain ⟨rfl, rfl⟩ := trodVars_none hV
  rw [List.append_nil] at hN
  simp only [List.all_eq_true, Bool.and_eq_true, decide_eq_true_eq] at hts
  obtain ⟨as, h1, h2, h3⟩ := args_B hB fn.params.toList args.toList ds p (fun t ht => (hts t ht).1.1) (fun j t v e1 e2 => hval j t v (by simpa using e1) (by simpa using e2)) hA
  have hc := calls_small hE hm h0 hf hb (hlaw as h2 (by omega)) (show LayAt E.P (.still W fun b o => W.cell? ⟨b, o, none⟩) from hlay) (R.still (w := W) fun _ _ _ e => e) h1
  rw [show args.toList.toArray = args by simp] at hc
  refine Calls.mono hc ?_
  rintro e W' ⟨v, g', r, rfl, hle, hR, hVr, -, rfl⟩
  obtain rfl := bool_inv hVr
  have hbel : Below W.heap.size W W' := by
    have := hR.below
    rw [hle.base, hle.w0] at this
    exact this
  have hlen := trodAll_length _ _ _ _ hA
  refine ⟨_, rfl, ds, [], _, [], p, [], hW', ?_, ?_, ?_, hbel.frame _, fun h => by cases h⟩
  · rw [List.append_nil, hs ds hlen, hr]
    exact trodAll_mk1 (shut_bool htb true)
  · rw [List.append_nil, hs ds hlen]
    exact trodAll_below hl hbel _ _ _ _ (fun t ht => ⟨(hts t ht).1.2, (hts t ht).2⟩) hA
  · rw [List.append_nil, hs ds hlen, hsv]
    exact rfl
end
theorem wfL_get : ∀ {l : List Sh} {cs : List AV}, WfL l cs → ∀ (i : Nat) (s : Sh), l[i]? = some s → Wf s (cs.getD i .junk)
  | [], [], _, i, s, h => by simp at h
  | s0 :: l, c :: cs, h, 0, s, hs => by simp only [List.getElem?_cons_zero, Option.some.injEq] at hs; subst hs; exact h.1.1
  | s0 :: l, c :: cs, h, i + 1, s, hs => wfL_get (l := l) (cs := cs) h.2 i s hs
  | [], _ :: _, h, _, _, _ => h.elim
  | _ :: _, [], h, _, _, _ => h.elim
end Go.Cx

end
