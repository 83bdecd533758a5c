/- Arguments that are not too much together. -/
import Derived.Test.YtfhgmpeplfjmcaaCxAl
import Derived.JoinedCond
namespace Go.Cx
open Go.RowKit Go.ChangeShapes Go.WideShapes
set_option linter.unusedSimpArgs false
mutual
def bulkV : AV → Nat
  | .str s => s.length + 1
  | .slice _ _ xs _ => bulkL xs + 1
  | .agg cs => bulkL cs + 1
  | _ => 1
def bulkL : List AV → Nat
  | [] => 0
  | x :: r => bulkV x + bulkL r
end
theorem bulkL_append (a b : List AV) : bulkL (a ++ b) = bulkL a + bulkL b := by
  induction a with
  | nil => simp [bulkL]
  | cons x a ih => simp only [List.cons_append, bulkL, ih]; omega
theorem bulkV_pos : ∀ x : AV, 1 ≤ bulkV x := by
  intro x
  cases x <;> simp only [bulkV] <;> omega
theorem bulkL_len (l : List AV) : l.length ≤ bulkL l := by
  induction l with
  | nil => simp
  | cons x l ih => have := bulkV_pos x; simp only [List.length_cons, bulkL]; omega
theorem bulkV_mem {x : AV} {l : List AV} (h : x ∈ l) : bulkV x ≤ bulkL l := by
  induction l with
  | nil => simp at h
  | cons y l ih =>
    simp only [bulkL]
    rcases List.mem_cons.1 h with rfl | h
    · omega
    · have := ih h; omega
structure Bulk {H : Type} (B : DataW H → Nat) (BA : List (DataW H) → Nat) : Prop where
  lit : ∀ l, 1 ≤ B (.lit l)
  str : ∀ b, B (.lit (.string b)) = b.length + 1
  nilv : B .nil = 1
  slice : ∀ e s, B (.slice e s) = BA e + BA s + 1
  agg : ∀ l, B (.agg l) = BA l + 1
  nil : BA [] = 0
  cons : ∀ d r, BA (d :: r) = B d + BA r
section
variable {H : Type} {enc : TypeId × Value → H} {P : Program} {w : World} {sp : Nat → Bool} {held : Bool} {B : DataW H → Nat} {BA : List (DataW H) → Nat}
theorem Bulk.append (hB : Bulk B BA) (a b : List (DataW H)) : BA (a ++ b) = BA a + BA b := by
  induction a with
  | nil => simp [hB.nil]
  | cons x a ih => simp only [List.cons_append, hB.cons, ih]; omega
theorem Bulk.snoc (hB : Bulk B BA) (a : List (DataW H)) (d : DataW H) : BA (a ++ [d]) = BA a + B d := by
  rw [hB.append, hB.cons, hB.nil]; rfl
theorem rows_B {sh : Sh} {sz : Nat} {a : Addr} {f : Nat → Nat} {F : Nat → Nat} (hF : ∀ i, F (i + 1) = F i + f i) : ∀ (len : Nat),
    (∀ i, i < len → ∃ vs cs, w.cells? 0 (a.add (i * sz)) sz = some vs ∧ VL (.seen w) cs vs ∧ WfL (shL sh) cs ∧ bulkV (mkEl sh cs) ≤ f i) →
    ∃ xs vs, xs.length = len ∧ VL (.seen w) (flat xs) vs ∧ vs.length = len * sz ∧ (∀ x ∈ xs, Wf sh x ∧ (cells x).length = sz ∧ (cells x).all oneCell = true) ∧ (∀ i v, vs[i]? = some v → w.cell? (a.add i) = some v) ∧ bulkL xs + F 0 ≤ F len
  | 0, _ => ⟨[], [], rfl, VL.nil _, by simp, fun x hx => by simp at hx, fun i v h => by simp at h, by simp [bulkL]⟩
  | len + 1, h => by
    obtain ⟨xs, vs, h1, h2, h3, h4, h5, h6⟩ := rows_B (sh := sh) hF len (fun i hi => h i (by omega))
    obtain ⟨us, cs, k1, k2, k3, k6⟩ := h len (by omega)
    obtain ⟨_, k4, k5⟩ := World.cells?_some k1
    obtain ⟨e1, e2⟩ := mkEl_wf k3
    refine ⟨xs ++ [mkEl sh cs], vs ++ us, by simp [h1], ?_, by simp [h3, k4, Nat.add_mul], fun x hx => ?_, fun i v hi => ?_, ?_⟩
    · rw [flat_append]
      refine VL.append h2 ?_
      simpa [flat, e2] using k2
    · rcases List.mem_append.1 hx with hx | hx
      · exact h4 x hx
      · simp at hx; subst hx
        exact ⟨e1, by rw [e2, k2.1, k4], by rw [e2]; exact k3.one⟩
    · rw [List.getElem?_append] at hi
      split at hi
      · exact h5 i v hi
      · rename_i hlt
        have hj := k5 (i - vs.length) (by have := length_of_get hi; omega)
        rw [hi] at hj
        rw [← hj]
        have : (a.add (len * sz)).add (i - vs.length) = a.add i := by
          simp only [Addr.add]
          by_cases z : len * sz = 0
          · have : vs.length = 0 := by omega
            simp [z, this]
          · have : ¬ i = 0 := by omega
            by_cases z2 : i - vs.length = 0
            · simp [z, z2, this]; omega
            · simp [z, z2, this]; omega
        rw [this]
    · rw [bulkL_append, hF]
      simp only [bulkL]
      omega
theorem trod_B (hB : Bulk B BA) : ∀ (d n : Nat) (t : TypeId) (vs : List Value) (x : DataW H × List MemPlace), plainT P d t = true → DataW.trod enc P w 0 sp held n t vs = some x →
    ∃ cs, VL (.seen w) cs vs ∧ WfL (shL (shA P d t)) cs ∧ bulkV (mkEl (shA P d t) cs) ≤ B x.1 ∧ bulkL cs ≤ B x.1
  | 0, n, t, vs, x, hp, h => by simp [plainT] at hp
  | d + 1, n, t, vs, x, hp, h => by
    unfold plainT at hp
    split at hp
    · rename_i hu
      obtain ⟨b, rfl, rfl⟩ := DataW.trod_bool hu h
      have : shA P (d + 1) t = .bool := by simp [shA, tk_def, hu]
      rw [this]
      have := hB.lit (.bool b)
      exact ⟨[.bool b], VL.cons (.bool b) (VL.nil _), ⟨⟨⟨b, rfl⟩, rfl⟩, trivial⟩, by simpa [mkEl, bulkV] using this, by simpa [bulkL, bulkV] using this⟩
    · rename_i k hu
      obtain ⟨m, rfl, rfl, hw⟩ := DataW.trod_int hu h
      have : shA P (d + 1) t = .int k := by simp [shA, tk_def, hu]
      rw [this]
      have := hB.lit (.int k m)
      exact ⟨[.int k m], VL.cons (.int k m) (VL.nil _), ⟨⟨⟨m, rfl, hw⟩, rfl⟩, trivial⟩, by simpa [mkEl, bulkV] using this, by simpa [bulkL, bulkV] using this⟩
    · rename_i hu
      obtain ⟨s, rfl, rfl, hs⟩ := DataW.trod_string hu h
      have : shA P (d + 1) t = .str := by simp [shA, tk_def, hu]
      rw [this]
      have hl : s.data.toList.length < TOP := by
        have : s.data.toList.length = s.size := by rw [Array.length_toList]; rfl
        rw [this]; unfold maxLen at hs; unfold TOP; omega
      have := hB.str s.data.toList
      refine ⟨[.str s.data.toList], VL.cons (.str _ hl) (VL.nil _), ⟨⟨⟨_, rfl, hl⟩, rfl⟩, trivial⟩, ?_, ?_⟩
      · show bulkV (.str s.data.toList) ≤ _
        rw [this]; simp only [bulkV]; omega
      · show bulkV (.str s.data.toList) + 0 ≤ _
        rw [this]; simp only [bulkV]; omega
    · rename_i e hu
      simp only [Bool.and_eq_true, beq_iff_eq, decide_eq_true_eq] at hp
      obtain ⟨⟨hc, hpe⟩, hsl⟩ := hp
      have : shA P (d + 1) t = .slice (sizeA P e) (shA P d e) := by simp [shA, tk_def, hu]
      rw [this]
      rcases DataW.trod_slice hu h with ⟨rfl, rfl⟩ | ⟨a, len, cap, elems, rest, m, rfl, rfl, rfl, -, hlc, hcm, hel, hE, -, -⟩
      · refine ⟨[.slice _ _ [] .ro], VL.cons (.slice0 _ _) (VL.nil _), ⟨⟨⟨[], rfl, by decide, fun y hy => by simp at hy⟩, rfl⟩, trivial⟩, ?_, ?_⟩
        · show bulkV (.slice _ _ [] .ro) ≤ B .nil
          rw [hB.nilv]; simp [bulkV, bulkL]
        · show bulkV (.slice _ _ [] .ro) + 0 ≤ B .nil
          rw [hB.nilv]; simp [bulkV, bulkL]
      · have each : ∀ i, i < len → ∃ vs cs, w.cells? 0 (a.add (i * sizeA P e)) (sizeA P e) = some vs ∧ VL (.seen w) cs vs ∧ WfL (shL (shA P d e)) cs ∧ bulkV (mkEl (shA P d e) cs) ≤ (match elems[i]? with | some y => B y.1 | none => 0) := by
          intro i hi
          have h1 := hE i hi
          rw [List.getElem?_eq_getElem (by omega : i < elems.length), Option.bind_eq_some_iff] at h1
          obtain ⟨us, h2, h3⟩ := h1
          obtain ⟨cs, h4, h5, h6, -⟩ := trod_B hB d m e us _ hpe h3
          rw [hc] at h2
          refine ⟨us, cs, h2, h4, h5, ?_⟩
          rw [List.getElem?_eq_getElem (by omega : i < elems.length)]
          exact h6
        have hF : ∀ i, BA ((elems.take (i + 1)).map (·.1)) = BA ((elems.take i).map (·.1)) + (match elems[i]? with | some y => B y.1 | none => 0) := by
          intro i
          rcases Nat.lt_or_ge i elems.length with hi | hi
          · rw [List.getElem?_eq_getElem hi, List.take_succ_eq_append_getElem hi, List.map_append, List.map_singleton, hB.snoc]
          · rw [List.getElem?_eq_none hi, List.take_of_length_le hi, List.take_of_length_le (by omega)]
            exact (Nat.add_zero _).symm
        obtain ⟨xs, us, h1, h2, h3, h4, h5, h6⟩ := rows_B (F := fun i => BA ((elems.take i).map (·.1))) hF len each
        have hb : bulkV (.slice (sizeA P e) (shA P d e) xs .ro) ≤ B (.slice (elems.map (·.1)) (rest.map (·.1))) := by
          simp only [List.take_zero, List.map_nil, hB.nil] at h6
          rw [List.take_of_length_le (by omega)] at h6
          rw [hB.slice]
          simp only [bulkV]
          omega
        have htop : len < TOP := by unfold maxLen at hcm; unfold TOP; omega
        refine ⟨[.slice _ _ xs .ro], VL.cons ?_ (VL.nil _), ⟨⟨⟨xs, rfl, by omega, fun y hy => (h4 y hy).1⟩, rfl⟩, trivial⟩, hb, by show bulkV _ + 0 ≤ _; exact hb⟩
        by_cases h0 : len = 0
        · subst h0
          have := List.eq_nil_of_length_eq_zero h1
          subst this
          exact .slice1 _ _ _ a cap
        · obtain ⟨b, o, spot⟩ := a
          have h00 := each 0 (by omega)
          obtain ⟨us0, cs0, k1, -, -⟩ := h00
          obtain ⟨-, k4, k5⟩ := World.cells?_some k1
          have := k5 0 (by omega)
          have hs : spot = none := by
            simp only [Nat.zero_mul, Addr.add, if_pos] at this
            rw [List.getElem?_eq_getElem (by omega : 0 < us0.length)] at this
            cases spot with
            | none => rfl
            | some q => simp [World.cell?] at this; split at this <;> simp at this
          subst hs
          rw [← h1]
          refine .slice _ _ xs .ro us b o cap h2.1 h2.2 (fun i v e => ?_) (fun x hx => ⟨(h4 x hx).1.shape, (h4 x hx).2⟩) (by omega) (by omega)
          have := h5 i v e
          show w.cell? ⟨b, o + i, none⟩ = some v
          simp only [Addr.add] at this
          split at this
          · rename_i e0; subst e0; exact this
          · exact this
    · rename_i fs hu
      simp only [Bool.and_eq_true, List.all_eq_true] at hp
      obtain ⟨hpf, hof⟩ := hp
      obtain ⟨xs, m, rfl, rfl, hlen, hxl, hF⟩ := DataW.trod_struct hu h
      have : shA P (d + 1) t = .agg (fs.toList.flatMap fun f => shL (shA P d f.type)) := by
        simp only [shA, tk_def, hu, List.flatMap_map]
        congr 1
      rw [this]
      have key : ∀ (l : List Field) (ys : List (DataW H × List MemPlace)) (o : Nat), l.length = ys.length → (∀ f ∈ l, plainT P d f.type = true) → offs P l o (P.cellsOf t) = true →
          (∀ (i : Nat) (f : Field), l[i]? = some f → DataW.trod enc P w 0 sp held m f.type ((vs.drop f.offset).take (P.cellsOf f.type)) = ys[i]?) → 
          ∃ cs, VL (.seen w) cs (vs.drop o) ∧ WfL (l.flatMap fun f => shL (shA P d f.type)) cs ∧ bulkL cs ≤ BA (ys.map (·.1)) := by
        intro l
        induction l with
        | nil =>
          intro ys o _ _ ho _
          simp only [offs, beq_iff_eq] at ho
          refine ⟨[], ?_, trivial, by simp [bulkL]⟩
          rw [List.drop_eq_nil_of_le (by omega)]
          exact VL.nil _
        | cons f l ih =>
          intro ys o hl h1 h2 h3
          cases ys with
          | nil => simp at hl
          | cons y ys =>
            simp only [offs, Bool.and_eq_true, beq_iff_eq] at h2
            obtain ⟨ho, h2⟩ := h2
            subst ho
            obtain ⟨cs2, k1, k2, k5⟩ := ih ys _ (by simpa using hl) (fun g hg => h1 g (by simp [hg])) h2 (fun i g hg => by have := h3 (i + 1) g (by simpa using hg); simpa using this)
            have hy := h3 0 f rfl
            simp only [List.getElem?_cons_zero] at hy
            obtain ⟨cs1, k3, k4, -, k6⟩ := trod_B hB d m f.type _ y (h1 f (by simp)) hy
            refine ⟨cs1 ++ cs2, ?_, ?_, ?_⟩
            · have := VL.append k3 k1
              rwa [← List.drop_drop, List.take_append_drop] at this
            · simp only [List.flatMap_cons]
              exact k4.append k2
            · rw [bulkL_append, List.map_cons, hB.cons]; omega
      obtain ⟨cs, c1, c2, c3⟩ := key fs.toList xs 0 (by rw [hxl]; simp) hpf hof (fun i f hf => hF i f (by simpa using hf))
      refine ⟨cs, by simpa using c1, by simpa [shL] using c2, ?_, ?_⟩
      · show bulkV (.agg cs) ≤ B (.agg _)
        rw [hB.agg]; simp only [bulkV]; omega
      · show bulkL cs ≤ B (.agg _)
        rw [hB.agg]; omega
    · simp at hp
theorem arg_B (hB : Bulk B BA) {D : Nat} {t : TypeId} {v : Value} {r : Reach} {b : Nat} {d : DataW H} {ps : List MemPlace} (hp : plainT P D t = true) (hv : Value.okWide P w r b t v)
    (h : DataW.Trod enc P w 0 sp held t v d ps) : ∃ a, V (.seen w) a v ∧ Wf (shA P D t) a ∧ bulkV a ≤ B d := by
  obtain ⟨n, h⟩ := h
  obtain ⟨cs, h1, h2, h3, -⟩ := trod_B hB D n t _ _ hp h
  obtain ⟨k1, k2⟩ := mkEl_wf h2
  refine ⟨mkEl (shA P D t) cs, ?_, k1, h3⟩
  have one : v.cells.toList = [v] → V (.seen w) (mkEl (shA P D t) cs) v := by
    intro hc
    rw [hc] at h1
    have := h1.1
    cases cs with
    | nil => simp at this
    | cons c cs =>
      cases cs with
      | cons => simp at this
      | nil =>
        cases hs : shA P D t with
        | agg l =>
          exfalso
          cases D with
          | zero => simp [plainT] at hp
          | succ D =>
            unfold plainT at hp
            split at hp
            · rename_i hu; simp [shA, tk_def, hu] at hs
            · rename_i hu; simp [shA, tk_def, hu] at hs
            · rename_i hu; simp [shA, tk_def, hu] at hs
            · rename_i hu; simp [shA, tk_def, hu] at hs
            · rename_i fs hu
              obtain ⟨xs, rfl, -⟩ := okWide_struct hu hv
              cases xs with | mk l =>
              simp only [Value.cells, List.cons.injEq, and_true] at hc
              have := congrArg (fun l : List Value => SizeOf.sizeOf l) hc
              simp at this
              omega
            · simp at hp
        | _ => exact h1.head
  cases D with
  | zero => simp [plainT] at hp
  | succ D =>
    have hp0 := hp
    unfold plainT at hp
    split at hp
    · rename_i hu; obtain ⟨x, rfl⟩ := okWide_bool hu hv; exact one rfl
    · rename_i hu; obtain ⟨x, rfl⟩ := okWide_int hu hv; exact one rfl
    · rename_i hu; obtain ⟨x, rfl⟩ := okWide_string hu hv; exact one rfl
    · rename_i hu; obtain ⟨x, y, z, rfl⟩ := okWide_slice hu hv; exact one rfl
    · rename_i fs hu
      obtain ⟨xs, rfl, -⟩ := okWide_struct hu hv
      have hs : ∃ l, shA P (D + 1) t = .agg l := by simp [shA, tk_def, hu]
      obtain ⟨l, hs⟩ := hs
      rw [hs]
      have hc : (Value.agg xs).cells.toList = xs.toList := by simp [Value.cells]
      rw [hc] at h1
      exact .agg cs xs (by simpa using h1.1) (fun i c v e1 e2 => h1.2 i c v e1 (by simpa using e2))
    · simp at hp
theorem args_B (hB : Bulk B BA) {D : Nat} {r : Reach} {b : Nat} : ∀ (ts : List TypeId) (vs : List Value) (ds : List (DataW H)) (ps : List MemPlace), (∀ t ∈ ts, plainT P D t = true) →
    (∀ (j : Nat) t v, ts[j]? = some t → vs[j]? = some v → Value.okWide P w r b t v) → DataW.TrodAll enc P w 0 sp held ts vs ds ps → ∃ as, VL (.seen w) as vs ∧ WfArgs P D ts as ∧ bulkL as ≤ BA ds
  | [], [], [], ps, _, _, _ => ⟨[], VL.nil _, trivial, by simp [bulkL]⟩
  | t :: ts, v :: vs, d :: ds, ps, hp, hv, h => by
    obtain ⟨p, q, h1, h2, -⟩ := h
    obtain ⟨a, k1, k2, k5⟩ := arg_B hB (hp t (by simp)) (hv 0 t v rfl rfl) h1
    obtain ⟨as, k3, k4, k6⟩ := args_B hB ts vs ds q (fun t ht => hp t (by simp [ht])) (fun j t v e1 e2 => hv (j + 1) t v (by simpa using e1) (by simpa using e2)) h2
    exact ⟨a :: as, VL.cons k1 k3, ⟨k2, k4⟩, by simp only [bulkL, hB.cons]; omega⟩
  | [], v :: vs, _, ps, _, _, h => by simp [DataW.TrodAll] at h
  | [], [], d :: ds, ps, _, _, h => by simp [DataW.TrodAll] at h
  | t :: ts, [], _, ps, _, _, h => by simp [DataW.TrodAll] at h
  | t :: ts, v :: vs, [], ps, _, _, h => by simp [DataW.TrodAll] at h
theorem law_end_B {W : World} (hB : Bulk B BA) {N : Nat} {E : En} (hE : EnOK E) (hm : E.P.follows .mixedOrders = true) (h0 : E.keep = 0) {f : FuncId} {fn : Func} {c : Code} (hf : E.P.funcs[f]? = some fn) (hb : fn.body = some c) {D : Nat} (hl : laidOutB E.P = true)
    (hts : fn.params.toList.all (fun t => plainT E.P D t && E.P.readableRec t && decide (t < E.P.types.size)) = true) {tb : TypeId} (hr : fn.resultTypes = #[tb]) (htb : E.P.underlying tb = some .bool)
    (hlaw : ∀ as, WfArgs E.P D fn.params.toList as → bulkL as ≤ N → callA E fn as [] (fun r _ => r = .bool true)) {s : ChangeSpec} (hsv : s.vars = [])
    (hs : ∀ ds : List (DataW H), ds.length = fn.params.toList.length → s.fn H ds = { results := [.lit (.bool true)], args := ds })
    {apart fresh handsOn : Bool} {base : Nat} {args : Array Value} {ds gs : List (DataW H)} {before : List MemPlace}
    (hval : ∀ (j : Nat) t v, fn.params[j]? = some t → args[j]? = some v → Value.okWide E.P W .any base t v)
    (hW : DataW.Whole enc E.P fn.params.toList s.vars apart W args.toList ds gs before) (hN : BA (ds ++ gs) ≤ N) :
    Calls E.P f args W fun e W' => ∃ v, e = .returned v ∧ s.post enc E.P fn apart fresh handsOn false W args v W' := by
  have hW' := hW
  obtain ⟨p, q, hA, hV, rfl, hfz, hnd⟩ := hW
  rw [hsv] at hV
  obtain ⟨rfl, rfl⟩ := trodVars_none hV
  rw [List.append_nil] at hN
  simp only [List.all_eq_true, Bool.and_eq_true, decide_eq_true_eq] at hts
  obtain ⟨as, h1, h2, h3⟩ := args_B hB fn.params.toList args.toList ds p (fun t ht => (hts t ht).1.1) (fun j t v e1 e2 => hval j t v (by simpa using e1) (by simpa using e2)) hA
  have hc := calls_small hE hm h0 hf hb (hlaw as h2 (by omega)) (R.still (w := W) fun _ _ _ e => e) h1
  rw [show args.toList.toArray = args by simp] at hc
  refine Calls.mono hc ?_
  rintro e W' ⟨v, g', r, rfl, hle, hR, hVr, -, rfl⟩
  obtain rfl := bool_inv hVr
  have hbel : Below W.heap.size W W' := by
    have := hR.below
    rw [hle.base, hle.w0] at this
    exact this
  have hlen := trodAll_length _ _ _ _ hA
  refine ⟨_, rfl, ds, [], _, [], p, [], hW', ?_, ?_, ?_, hbel.frame _, fun h => by cases h⟩
  · rw [List.append_nil, hs ds hlen, hr]
    exact trodAll_mk1 (shut_bool htb true)
  · rw [List.append_nil, hs ds hlen]
    exact trodAll_below hl hbel _ _ _ _ (fun t ht => ⟨(hts t ht).1.2, (hts t ht).2⟩) hA
  · rw [List.append_nil, hs ds hlen, hsv]
    exact rfl
end
theorem wfL_get : ∀ {l : List Sh} {cs : List AV}, WfL l cs → ∀ (i : Nat) (s : Sh), l[i]? = some s → Wf s (cs.getD i .junk)
  | [], [], _, i, s, h => by simp at h
  | s0 :: l, c :: cs, h, 0, s, hs => by simp only [List.getElem?_cons_zero, Option.some.injEq] at hs; subst hs; exact h.1.1
  | s0 :: l, c :: cs, h, i + 1, s, hs => wfL_get (l := l) (cs := cs) h.2 i s hs
  | [], _ :: _, h, _, _, _ => h.elim
  | _ :: _, [], h, _, _, _ => h.elim
end Go.Cx
