/- Single operations: append. -/
import Derived.Test.YtfhgmpeplfjmcaaCxK
namespace Go.Cx
set_option linter.unusedVariables false
open Go.RowKit (Below)
set_option linter.unusedSimpArgs false
section
variable {P : Program} {g : Gh} {w : World} {hp : List Ob}
theorem lenOf_els {sz : Nat} {sh : Sh} {xs : List AV} {cx : Value} (e : Els g w sz sh xs cx) : (Builtin.lenOf cx).run P w = .ok xs.length w := by
  obtain ⟨a, c, rfl, _⟩ := e.some
  rfl
structure Src (P : Program) (g : Gh) (w : World) (s : Nat) (sh : Sh) (ys : List AV) (cy : Value) : Prop where
  len : ∀ w', (Builtin.lenOf cy).run P w' = .ok ys.length w'
  cells : ∃ vs, VL g (flat ys) vs ∧ ∀ w', (∀ b o v, w.cell? ⟨b, o, none⟩ = some v → w'.cell? ⟨b, o, none⟩ = some v) → (Builtin.firstCells s ys.length cy).run P w' = .ok (Array.mk vs) w'
  el : ∀ x ∈ ys, reshape sh x = x ∧ (Cx.cells x).length = s ∧ (Cx.cells x).all oneCell
theorem els_src {sz : Nat} {sh : Sh} {xs : List AV} {cx : Value} (e : Els g w sz sh xs cx) : Src P g w sz sh xs cx := by
  obtain ⟨a, c, hcx, hlc, h0, h1⟩ := e.some
  refine ⟨fun w' => by rw [hcx]; rfl, ?_, e.el⟩
  cases a with
  | none =>
    obtain ⟨rfl, rfl⟩ := h0 rfl
    exact ⟨[], VL.nil g, fun w' _ => by rw [hcx]; rfl⟩
  | some a =>
    rcases h1 a rfl with rfl | ⟨b, o, vs, rfl, hv, hl⟩
    · exact ⟨[], VL.nil g, fun w' _ => by rw [hcx]; simp [Builtin.firstCells, loadCells, loadCellsFrom]⟩
    refine ⟨vs, hv, fun w' hw => ?_⟩
    have hlen : xs.length * sz = vs.length := by rw [← hv.1, flat_len e.width]
    rw [hcx]
    simp only [Builtin.firstCells, hlen]
    exact load_lies (fun i v hi => hw _ _ _ (hl i v hi))
theorem str_src (s : List UInt8) : Src P g w 1 (.int .u8) (s.map byte) (.string ⟨⟨s⟩⟩) := by
  refine ⟨fun w' => by simp [Builtin.lenOf]; rfl, ⟨_, by rw [flat_bytes]; exact VL_bytes g s, fun w' _ => ?_⟩, fun x hx => ?_⟩
  · have e1 : (⟨⟨s⟩⟩ : ByteArray).extract 0 s.length = ⟨⟨s⟩⟩ := by
      apply ByteArray.ext
      simp [ByteArray.data_extract]
    simp only [Builtin.firstCells, List.length_map, e1]
    simp
  · simp at hx; obtain ⟨b, _, rfl⟩ := hx; exact byte_fit b
theorem srcA_sound (h : R g w hp) {x : AV} {K : Option (Nat × Sh) → List AV → Cls → Option (AV × List Ob × Cls)} {r : AV × List Ob × Cls} (hs : srcA none hp x K = some r) {cx : Value} (hx : V g x cx) :
    ∃ how ys c, K how ys c = some r ∧ ((how = none ∧ ys = [] ∧ cx = .slice none 0 0) ∨ ∃ s sh, how = some (s, sh) ∧ Src P g w s sh ys cx) := by
  unfold srcA at hs
  split at hs
  · obtain ⟨rfl, _⟩ := str_inv hx
    exact ⟨_, _, _, hs, .inr ⟨1, _, rfl, str_src _⟩⟩
  · cases hx; exact ⟨_, _, _, hs, .inl ⟨rfl, rfl, rfl⟩⟩
  · obtain ⟨sz, sh, xs, cl, he, hk⟩ := elems_cps hs
    exact ⟨_, _, _, hk, .inr ⟨sz, sh, rfl, els_src (elems_sound h he hx)⟩⟩
theorem nil_src (s : Nat) (sh : Sh) : Src P g w s sh [] (.slice none 0 0) :=
  ⟨fun w' => rfl, ⟨[], VL.nil g, fun w' _ => rfl⟩, fun x hx => by simp at hx⟩
def noInt (P : Program) (tx : TypeId) : Prop := ∃ d, P.underlying tx = some d ∧ ∀ k, d ≠ .int k
theorem append_room {t tx ty e : TypeId} (ht : P.underlying t = some (.slice e)) (htx : noInt P tx) (he : (P.info? e).isSome) {b len cap : Nat} {s : Nat} {sh : Sh} {ys : List AV} {cy : Value} (hs : s = sizeA P e) (hy : Src P g w s sh ys cy)
    (hroom : len + ys.length ≤ cap) {vs : Array Value} {ty' : TypeId} {fz : Nat × Nat} (hb : w.heap[b]? = some (.cells vs ty' fz)) (hf : ∀ o, o < vs.size → w.frozen? ⟨b, o, none⟩ = false) (hcap : cap * s ≤ vs.size) :
    ∃ new, VL g (flat ys) new ∧ (Builtin.append_ #[t, tx] ty #[.slice (some ⟨b, 0, none⟩) len cap, cy]).run P w = .ok (.slice (some ⟨b, 0, none⟩) (len + ys.length) cap) (w.setCells b (len * s) new) := by
  obtain ⟨d, hd, hni⟩ := htx
  obtain ⟨i, hi⟩ := Option.isSome_iff_exists.1 he
  obtain ⟨new, hv, hc⟩ := hy.cells
  refine ⟨new, hv, ?_⟩
  have h1 : ∀ v ∈ new, v.oneCell' = true := one_vals (by
    simp only [flat, List.all_flatMap, List.all_eq_true]
    intro x hx c hc
    exact List.all_eq_true.1 (hy.el x hx).2.2 c hc) hv
  have hlen : new.length = ys.length * s := by rw [← hv.1, flat_len (fun x hx => (hy.el x hx).2.1)]
  have hfit : len * s + new.length ≤ vs.size := by
    rw [hlen, ← Nat.add_mul]
    exact Nat.le_trans (Nat.mul_le_mul_right _ hroom) hcap
  have hst := store_own (P := P) b (len * s) hb hf new hfit h1
  have hw := hc w (fun _ _ _ h => h)
  subst hs
  simp only [Builtin.append_]
  simp only [List.getElem?_toArray, List.getElem?_cons_zero, List.getElem?_cons_succ, Sem.run_bind, run_underlying ht, Result.andThen_ok, run_sizeOf hi, run_underlying hd, Sem.run_pure]
  have hz : (match d with | .int k => true | x => false) = false := by
    cases d with
    | int k => exact absurd rfl (hni k)
    | _ => rfl
  simp only [hz, Bool.false_eq_true, if_false, hy.len w, Result.andThen_ok, if_pos hroom, Bool.not_false, if_true, Sem.run_bind, hw, add_none, Nat.zero_add, hst, Sem.run_pure]
theorem append_grow {t tx ty e : TypeId} (ht : P.underlying t = some (.slice e)) (htx : noInt P tx) {i : TypeInfo} (hi : P.info? e = some i) {z : Value} (hz : i.zero = some z) {base : Option Addr} {len cap : Nat} {s : Nat} {sh : Sh} {ys : List AV} {cy : Value} (hs : s = sizeA P e) (hy : Src P g w s sh ys cy)
    {olds : List Value} (hold : ∀ w', (∀ b o v, w.cell? ⟨b, o, none⟩ = some v → w'.cell? ⟨b, o, none⟩ = some v) → (Builtin.firstCells s len (.slice base len cap)).run P w' = .ok (Array.mk olds) w')
    (hroom : cap < len + ys.length) (hfit : (len + ys.length) * bytesA P e ≤ 140737488355328) (hlim : len + ys.length ≤ 9223372036854775807) :
    ∃ new c, VL g (flat ys) new ∧ len + ys.length ≤ c ∧ (Builtin.append_ #[t, tx] ty #[.slice base len cap, cy]).run P w = .ok (.slice (some ⟨w.heap.size, 0, none⟩) (len + ys.length) c)
      (w.drew.alloc (.cells (Array.mk olds ++ Array.mk new ++ Builtin.zeroCells z.cells (c - (len + ys.length))) e)) := by
  obtain ⟨d, hd, hni⟩ := htx
  obtain ⟨new, hv, hc⟩ := hy.cells
  refine ⟨new, grownCap w (len + ys.length) cap e, hv, grownCap_ge w _ _ _, ?_⟩
  have hb : bytesA P e = i.bytes := by simp [bytesA, infoF_eq, hi]
  rw [hb] at hfit
  have h48 := growslice_fits hroom hfit
  have hw := hc w.drew (fun _ _ _ h => h)
  have ho := hold w.drew (fun _ _ _ h => h)
  subst hs
  simp only [Builtin.append_]
  simp only [List.getElem?_toArray, List.getElem?_cons_zero, List.getElem?_cons_succ, Sem.run_bind, run_underlying ht, Result.andThen_ok, run_sizeOf hi, run_underlying hd, Sem.run_pure]
  have hz' : (match d with | .int k => true | x => false) = false := by
    cases d with
    | int k => exact absurd rfl (hni k)
    | _ => rfl
  have n1 : ¬ (len + ys.length ≤ cap) := by omega
  have n2 : ¬ (((len + ys.length : Nat) : Int) > IntKind.i64.max) := by simp [IntKind.max, IntKind.signed, IntKind.bits]; omega
  have n3 : ¬ (Builtin.nextslicecap (len + ys.length) cap * i.bytes > 2 ^ 48) := by omega
  have ti : (typeInfo e).run P w = .ok i w := run_typeInfo' hi w
  have ti' : (typeInfo e).run P w.drew = .ok i w.drew := run_typeInfo' hi w.drew
  have zi : (zeroValue e).run P w.drew = .ok z w.drew := by simp [zeroValue, typeInfo, hi, hz]
  simp only [hz', Bool.false_eq_true, if_false, hy.len w, Result.andThen_ok, if_neg n1, false_or, ti, if_neg n3, n2, false_and, Bool.not_false, if_true, run_choose, Question.forced, Sem.run_bind, World.drew_eq, ti', run_askRoom, ho, hw, zi, newRow, run_newObj, Sem.run_pure, World.alloc_eq, World.size_drew]
  rfl
theorem newGrow_inv {e : TypeId} {sz : Nat} {sh : Sh} {xs : List AV} {v : AV} {hp' : List Ob} {c : Cls} (h : newGrow none P e sz sh xs hp (fun v h c => some (v, h, c)) = some (v, hp', c)) :
    ∃ z, zeroA P e = some z ∧ (cells z).length = sz ∧ 0 < sz ∧ xs.length * (bytesA P e + 1) < LIM ∧ v = .oslice hp.length 0 xs.length ∧ hp' = hp ++ [.grow e 0 sz sh xs] ∧ c = .write := by
  unfold newGrow at h
  split at h
  · rename_i z hz
    split at h
    · rename_i hc
      obtain ⟨h1, h⟩ := ask_some h
      simp only [decide_eq_true_eq] at h1
      simp only [Option.some.injEq, Prod.mk.injEq] at h
      exact ⟨z, hz, hc.1, hc.2, h1, h.1.symm, h.2.1.symm, h.2.2.symm⟩
    · simp at h
  · simp at h
theorem cells_size {z : AV} {cz : Value} (h : V g z cz) (ho : ofConst cz = z) : cz.cells.size = (cells z).length := by
  subst ho
  cases cz with
  | agg cs => simp [ofConst, cells, Value.cells]
  | string s =>
    simp only [ofConst, ofCell, Value.cells]
    split <;> rfl
  | pointer a => cases a <;> rfl
  | slice a n c =>
    cases a with
    | none => cases n with
      | zero => cases c <;> rfl
      | succ n => rfl
    | some a => rfl
  | _ => rfl
theorem zero_info {t : TypeId} {z : AV} (hz : zeroA P t = some z) : ∃ i cz, P.info? t = some i ∧ i.zero = some cz ∧ cz.cells.size = (cells z).length := by
  unfold zeroA at hz; rw [infoF_eq] at hz
  split at hz
  · rename_i i hi
    simp only [Option.map_eq_some_iff] at hz
    obtain ⟨cz, h1, h2⟩ := hz
    exact ⟨i, cz, hi, h1, cells_size (g := ⟨0, default, fun _ => false, fun _ _ => none, fun _ => none, fun _ => none⟩) (h2 ▸ ofConst_V _ cz) h2⟩
  · simp at hz
theorem size_zeroCells' (z : Array Value) (n : Nat) : (Builtin.zeroCells z n).size = n * z.size := by simp [Builtin.zeroCells]
theorem grow_new (h : R g w hp) {w' : World} (hbel : Below w.heap.size w w') {vs : Array Value} {ty : TypeId} (hb : w'.heap[w.heap.size]? = some (.cells vs ty (0, 0))) {c sz : Nat} {sh : Sh} {xs : List AV}
    (hsz : vs.size = c * sz) (h0 : 0 < sz) (hle : xs.length ≤ c) (hcs : VL g (flat xs) (vs.toList.take (xs.length * sz))) (hel : ∀ x ∈ xs, reshape sh x = x ∧ (cells x).length = sz ∧ (cells x).all oneCell) (hlim : xs.length < LIM) :
    ∃ g', g.le g' ∧ R g' w' (hp ++ [.grow ty 0 sz sh xs]) ∧ V g' (.oslice hp.length 0 xs.length) (.slice (some ⟨w.heap.size, 0, none⟩) xs.length c) := by
  obtain ⟨f1, f2⟩ := h.fresh
  obtain ⟨g', hg, hcur, hR⟩ := (h.grow hbel).addGrow hb h.newFree f1 f2 hsz h0 hle hcs hel (LIM_TOP hlim) (fun o _ => frozen_new hb)
  exact ⟨g', hg, hR, .oslice _ _ _ _ _ _ hcur (Hdr.refl _ _ _ _)⟩
theorem grow_case (h : R g w hp) {t tx ty e : TypeId} (ht : P.underlying t = some (.slice e)) (htx : noInt P tx) {s : Nat} {sh : Sh} {xs ys : List AV} {cy : Value} (hs : s = sizeA P e) (hs0 : 0 < s) (hy : Src P g w s sh ys cy)
    {z : AV} (hz : zeroA P e = some z) (hzl : (cells z).length = s) (hlim : (xs ++ ys).length * (bytesA P e + 1) < LIM)
    {base : Option Addr} {cap : Nat} (hel : ∀ x ∈ xs, reshape sh x = x ∧ (cells x).length = s ∧ (cells x).all oneCell) {olds : List Value} (hov : VL g (flat xs) olds)
    (hold : ∀ w', (∀ b o v, w.cell? ⟨b, o, none⟩ = some v → w'.cell? ⟨b, o, none⟩ = some v) → (Builtin.firstCells s xs.length (.slice base xs.length cap)).run P w' = .ok (Array.mk olds) w')
    (hroom : cap < xs.length + ys.length) :
    ∃ w' g' c, (Builtin.append_ #[t, tx] ty #[.slice base xs.length cap, cy]).run P w = .ok (.slice (some ⟨w.heap.size, 0, none⟩) (xs.length + ys.length) c) w' ∧ Below w.heap.size w w' ∧
      ∃ vs, w'.heap[w.heap.size]? = some (.cells vs e (0, 0)) ∧ vs.size = c * s ∧ xs.length + ys.length ≤ c ∧ VL g (flat (xs ++ ys)) (vs.toList.take ((xs ++ ys).length * s)) ∧
        (∀ x ∈ xs ++ ys, reshape sh x = x ∧ (cells x).length = s ∧ (cells x).all oneCell) ∧ (xs ++ ys).length < LIM ∧ g' = g := by
  obtain ⟨i, cz, hi, hcz, hcs⟩ := zero_info hz
  have hlen : (xs ++ ys).length = xs.length + ys.length := by simp
  rw [hlen] at hlim
  have hm : xs.length + ys.length ≤ (xs.length + ys.length) * (bytesA P e + 1) := Nat.le_mul_of_pos_right _ (by omega)
  have hm2 : (xs.length + ys.length) * bytesA P e ≤ (xs.length + ys.length) * (bytesA P e + 1) := Nat.mul_le_mul_left _ (by omega)
  unfold LIM at hlim
  obtain ⟨new, c, hv, hc, hrun⟩ := append_grow (ty := ty) ht htx hi hcz hs hy hold hroom (by omega) (by omega)
  have hw1 : ∀ x ∈ xs, (cells x).length = s := fun x hx => (hel x hx).2.1
  have hw2 : ∀ x ∈ ys, (cells x).length = s := fun x hx => (hy.el x hx).2.1
  have l1 : olds.length = xs.length * s := by rw [← hov.1, flat_len hw1]
  have l2 : new.length = ys.length * s := by rw [← hv.1, flat_len hw2]
  refine ⟨_, g, c, hrun, (Below.refl _ _).drew.alloc (Nat.le_refl _) _, _, heap_new w.drew _, ?_, hc, ?_, ?_, by rw [hlen]; unfold LIM; omega, rfl⟩
  · simp only [Array.size_append, size_zeroCells', hcs, hzl]
    show olds.length + new.length + _ = _
    rw [l1, l2, ← Nat.add_mul, ← Nat.add_mul]; congr 1; omega
  · have : ((Array.mk olds ++ Array.mk new ++ Builtin.zeroCells cz.cells (c - (xs.length + ys.length))).toList.take ((xs ++ ys).length * s)) = olds ++ new := by
      simp only [Array.toList_append]
      rw [List.take_append_of_le_length (by simp [l1, l2, Nat.add_mul])]
      rw [List.take_of_length_le (by simp [l1, l2, Nat.add_mul])]
    rw [this, flat_append]
    exact hov.append hv
  · intro x hx
    simp at hx
    rcases hx with hx | hx
    · exact hel x hx
    · exact hy.el x hx
end
end Go.Cx
