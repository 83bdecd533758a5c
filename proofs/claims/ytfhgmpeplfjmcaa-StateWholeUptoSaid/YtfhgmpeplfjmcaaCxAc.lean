/- A law that answers true whatever it is handed: from the abstract body to what the row asks behind the call. -/
import Derived.Test.YtfhgmpeplfjmcaaCxAb
import Derived.OpenShut
import Derived.ChangeOld
import Derived.Carry
namespace Go.Cx
open Go.RowKit Go.ChangeShapes Go.WideShapes
set_option linter.unusedSimpArgs false
section
variable {H : Type} {enc : TypeId × Value → H} {P : Program} {W : World}
theorem arg_V {D : Nat} {t : TypeId} {v : Value} {r : Reach} {b : Nat} {sp : Nat → Bool} {held : Bool} {d : DataW H} {ps : List MemPlace} (hp : plainT P D t = true) (hv : Value.okWide P W r b t v)
    (h : DataW.Trod enc P W 0 sp held t v d ps) : ∃ a, V (.seen W) a v ∧ Wf (shA P D t) a := by
  obtain ⟨n, h⟩ := h
  obtain ⟨cs, h1, h2⟩ := trod_V D n t _ _ hp h
  obtain ⟨k1, k2⟩ := mkEl_wf h2
  refine ⟨mkEl (shA P D t) cs, ?_, k1⟩
  have one : v.cells.toList = [v] → V (.seen W) (mkEl (shA P D t) cs) v := by
    intro hc
    rw [hc] at h1
    have := h1.1
    cases cs with
    | nil => simp at this
    | cons c cs =>
      cases cs with
      | cons => simp at this
      | nil =>
        cases hs : shA P D t with
        | agg l =>
          exfalso
          cases D with
          | zero => simp [plainT] at hp
          | succ D =>
            unfold plainT at hp
            split at hp
            · rename_i hu; simp [shA, tk_def, hu] at hs
            · rename_i hu; simp [shA, tk_def, hu] at hs
            · rename_i hu; simp [shA, tk_def, hu] at hs
            · rename_i hu; simp [shA, tk_def, hu] at hs
            · rename_i fs hu
              obtain ⟨xs, rfl, -⟩ := okWide_struct hu hv
              cases xs with | mk l =>
              simp only [Value.cells, List.cons.injEq, and_true] at hc
              have := congrArg (fun l : List Value => SizeOf.sizeOf l) hc
              simp at this
              omega
            · simp at hp
        | _ => exact h1.head
  cases D with
  | zero => simp [plainT] at hp
  | succ D =>
    have hp0 := hp
    unfold plainT at hp
    split at hp
    · rename_i hu; obtain ⟨x, rfl⟩ := okWide_bool hu hv; exact one rfl
    · rename_i hu; obtain ⟨x, rfl⟩ := okWide_int hu hv; exact one rfl
    · rename_i hu; obtain ⟨x, rfl⟩ := okWide_string hu hv; exact one rfl
    · rename_i hu; obtain ⟨x, y, z, rfl⟩ := okWide_slice hu hv; exact one rfl
    · rename_i fs hu
      obtain ⟨xs, rfl, -⟩ := okWide_struct hu hv
      have hs : ∃ l, shA P (D + 1) t = .agg l := by simp [shA, tk_def, hu]
      obtain ⟨l, hs⟩ := hs
      rw [hs]
      have hc : (Value.agg xs).cells.toList = xs.toList := by simp [Value.cells]
      rw [hc] at h1
      exact .agg cs xs (by simpa using h1.1) (fun i c v e1 e2 => h1.2 i c v e1 (by simpa using e2))
    · simp at hp
def WfArgs (P : Program) (D : Nat) : List TypeId → List AV → Prop
  | [], [] => True
  | t :: ts, a :: as => Wf (shA P D t) a ∧ WfArgs P D ts as
  | _, _ => False
theorem args_V {D : Nat} {r : Reach} {b : Nat} {sp : Nat → Bool} {held : Bool} : ∀ (ts : List TypeId) (vs : List Value) (ds : List (DataW H)) (ps : List MemPlace), (∀ t ∈ ts, plainT P D t = true) →
    (∀ (j : Nat) t v, ts[j]? = some t → vs[j]? = some v → Value.okWide P W r b t v) → DataW.TrodAll enc P W 0 sp held ts vs ds ps → ∃ as, VL (.seen W) as vs ∧ WfArgs P D ts as
  | [], [], [], ps, _, _, _ => ⟨[], VL.nil _, trivial⟩
  | t :: ts, v :: vs, d :: ds, ps, hp, hv, h => by
    obtain ⟨p, q, h1, h2, -⟩ := h
    obtain ⟨a, k1, k2⟩ := arg_V (hp t (by simp)) (hv 0 t v rfl rfl) h1
    obtain ⟨as, k3, k4⟩ := args_V ts vs ds q (fun t ht => hp t (by simp [ht])) (fun j t v e1 e2 => hv (j + 1) t v (by simpa using e1) (by simpa using e2)) h2
    exact ⟨a :: as, VL.cons k1 k3, k2, k4⟩
  | [], v :: vs, _, ps, _, _, h => by simp [DataW.TrodAll] at h
  | [], [], d :: ds, ps, _, _, h => by simp [DataW.TrodAll] at h
  | t :: ts, [], _, ps, _, _, h => by simp [DataW.TrodAll] at h
  | t :: ts, v :: vs, [], ps, _, _, h => by simp [DataW.TrodAll] at h
theorem trodAll_length {sp : Nat → Bool} {held : Bool} : ∀ (ts : List TypeId) (vs : List Value) (ds : List (DataW H)) (ps : List MemPlace), DataW.TrodAll enc P W 0 sp held ts vs ds ps → ds.length = ts.length
  | [], [], [], ps, _ => rfl
  | t :: ts, v :: vs, d :: ds, ps, h => by
    obtain ⟨p, q, -, h2, -⟩ := h
    simp [trodAll_length ts vs ds q h2]
  | [], v :: vs, _, ps, h => by simp [DataW.TrodAll] at h
  | [], [], d :: ds, ps, h => by simp [DataW.TrodAll] at h
  | t :: ts, [], _, ps, h => by simp [DataW.TrodAll] at h
  | t :: ts, v :: vs, [], ps, h => by simp [DataW.TrodAll] at h
theorem trodAll_below {W' : World} (hl : laidOutB P = true) (hb : Below W.heap.size W W') : ∀ (ts : List TypeId) (vs : List Value) (ds : List (DataW H)) (ps : List MemPlace),
    (∀ t ∈ ts, P.readableRec t = true ∧ t < P.types.size) → DataW.TrodAll enc P W 0 (fun _ => true) true ts vs ds ps → DataW.TrodAll enc P W' 0 (fun b => decide (b < W.heap.size)) true ts vs ds ps
  | [], [], [], ps, _, h => h
  | t :: ts, v :: vs, d :: ds, ps, hp, h => by
    obtain ⟨p, q, h1, h2, e⟩ := h
    have hlt : ∀ x ∈ p, x.block < W.heap.size := by obtain ⟨m, hm⟩ := h1; exact DataW.trod_lt m _ _ _ hm
    exact ⟨p, q, Below.trod hl (hp t (by simp)).1 (hp t (by simp)).2 h1 hb hlt, trodAll_below hl hb ts vs ds q (fun t ht => hp t (by simp [ht])) h2, e⟩
  | [], v :: vs, _, ps, _, h => by simp [DataW.TrodAll] at h
  | [], [], d :: ds, ps, _, h => by simp [DataW.TrodAll] at h
  | t :: ts, [], _, ps, _, h => by simp [DataW.TrodAll] at h
  | t :: ts, v :: vs, [], ps, _, h => by simp [DataW.TrodAll] at h
theorem law_end {E : En} (hE : EnOK E) (hm : E.P.follows .mixedOrders = true) (h0 : E.keep = 0) {f : FuncId} {fn : Func} {c : Code} (hf : E.P.funcs[f]? = some fn) (hb : fn.body = some c) {D : Nat} (hl : laidOutB E.P = true)
    (hts : fn.params.toList.all (fun t => plainT E.P D t && E.P.readableRec t && decide (t < E.P.types.size)) = true) {tb : TypeId} (hr : fn.resultTypes = #[tb]) (htb : E.P.underlying tb = some .bool)
    (hlaw : ∀ as, WfArgs E.P D fn.params.toList as → callA E fn as [] (fun r _ => r = .bool true)) {s : ChangeSpec} (hsv : s.vars = [])
    (hs : ∀ ds : List (DataW H), ds.length = fn.params.toList.length → s.fn H ds = { results := [.lit (.bool true)], args := ds })
    {apart fresh handsOn : Bool} {base : Nat} {args : Array Value} {ds gs : List (DataW H)} {before : List MemPlace}
    (hval : ∀ (j : Nat) t v, fn.params[j]? = some t → args[j]? = some v → Value.okWide E.P W .any base t v)
    (hW : DataW.Whole enc E.P fn.params.toList s.vars apart W args.toList ds gs before) :
    Calls E.P f args W fun e W' => ∃ v, e = .returned v ∧ s.post enc E.P fn apart fresh handsOn false W args v W' := by
  have hW' := hW
  obtain ⟨p, q, hA, hV, rfl, hfz, hnd⟩ := hW
  rw [hsv] at hV
  obtain ⟨rfl, rfl⟩ := trodVars_none hV
  simp only [List.all_eq_true, Bool.and_eq_true, decide_eq_true_eq] at hts
  obtain ⟨as, h1, h2⟩ := args_V fn.params.toList args.toList ds p (fun t ht => (hts t ht).1.1) (fun j t v e1 e2 => hval j t v (by simpa using e1) (by simpa using e2)) hA
  have hc := calls_small hE hm h0 hf hb (hlaw as h2) (R.still (w := W) fun _ _ _ e => e) h1
  rw [show args.toList.toArray = args by simp] at hc
  refine Calls.mono hc ?_
  rintro e W' ⟨v, g', r, rfl, hle, hR, hVr, -, rfl⟩
  obtain rfl := bool_inv hVr
  have hbel : Below W.heap.size W W' := by
    have := hR.below
    rw [hle.base, hle.w0] at this
    exact this
  have hlen := trodAll_length _ _ _ _ hA
  refine ⟨_, rfl, ds, [], _, [], p, [], hW', ?_, ?_, ?_, hbel.frame _, fun h => by cases h⟩
  · rw [List.append_nil, hs ds hlen, hr]
    exact trodAll_mk1 (shut_bool htb true)
  · rw [List.append_nil, hs ds hlen]
    exact trodAll_below hl hbel _ _ _ _ (fun t ht => ⟨(hts t ht).1.2, (hts t ht).2⟩) hA
  · rw [List.append_nil, hs ds hlen, hsv]
    exact rfl
end
end Go.Cx
