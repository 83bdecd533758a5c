/- Single operations: append. -/
import Derived.Test.YtcnalhganahiiaaGreatDoorCxK
import Derived.Lib.AppendZerosOnto
section
namespace Go.Cx
set_option linter.unusedVariables false
open Go.RowKit (Below)
set_option linter.unusedSimpArgs false
section
variable {P : Program} {g : Gh} {w : World} {hp : List Ob}
theorem lenOf_els {sz : Nat} {sh : Sh} {xs : List AV} {cx : Value} (e : Els g w sz sh xs cx) : (Builtin.lenOf cx).run P w = .ok xs.length w := by
  obtain ⟨a, c, rfl, _⟩ := e.some
  rfl
structure Src (P : Program) (g : Gh) (w : World) (s : Nat) (sh : Sh) (ys : List AV) (cy : Value) : Prop where
  len : ∀ w', (Builtin.lenOf cy).run P w' = .ok ys.length w'
  cells : ∃ vs, VL g (flat ys) vs ∧ ∀ w', (∀ b o v, w.cell? ⟨b, o, none⟩ = some v → w'.cell? ⟨b, o, none⟩ = some v) → (Builtin.firstCells s ys.length cy).run P w' = .ok (Array.mk vs) w'
  el : ∀ x ∈ ys, reshape sh x = x ∧ (Cx.cells x).length = s ∧ (Cx.cells x).all oneCell
theorem els_src {sz : Nat} {sh : Sh} {xs : List AV} {cx : Value} (e : Els g w sz sh xs cx) : Src P g w sz sh xs cx := by
  obtain ⟨a, c, hcx, hlc, h0, h1⟩ := e.some
  refine ⟨fun w' => by rw [hcx]; rfl, ?_, e.el⟩
  cases a with
  | none =>
    obtain ⟨rfl, rfl⟩ := h0 rfl
    exact ⟨[], VL.nil g, fun w' _ => by rw [hcx]; rfl⟩
  | some a =>
    rcases h1 a rfl with rfl | ⟨b, o, vs, rfl, hv, hl⟩
    · exact ⟨[], VL.nil g, fun w' _ => by rw [hcx]; simp [Builtin.firstCells, loadCells, loadCellsFrom]⟩
    refine ⟨vs, hv, fun w' hw => ?_⟩
    have hlen : xs.length * sz = vs.length := by rw [← hv.1, flat_len e.width]
    rw [hcx]
    simp only [Builtin.firstCells, hlen]
    exact load_lies (fun i v hi => hw _ _ _ (hl i v hi))
theorem str_src (s : List UInt8) : Src P g w 1 (.int .u8) (s.map byte) (.string ⟨⟨s⟩⟩) := by
  refine ⟨fun w' => by simp [Builtin.lenOf]; rfl, ⟨_, by rw [flat_bytes]; exact VL_bytes g s, fun w' _ => ?_⟩, fun x hx => ?_⟩
  · have e1 : (⟨⟨s⟩⟩ : ByteArray).extract 0 s.length = ⟨⟨s⟩⟩ := by
      apply ByteArray.ext
      simp [ByteArray.data_extract]
    simp only [Builtin.firstCells, List.length_map, e1]
    simp
  · simp at hx; obtain ⟨b, _, rfl⟩ := hx; exact byte_fit b
theorem srcA_sound (h : R g w hp) {x : AV} {K : Option (Nat × Sh) → List AV → Cls → Option (AV × List Ob × Cls)} {r : AV × List Ob × Cls} (hs : srcA none hp x K = some r) {cx : Value} (hx : V g x cx) :
    ∃ how ys c, K how ys c = some r ∧ ((how = none ∧ ys = [] ∧ cx = .slice none 0 0) ∨ ∃ s sh, how = some (s, sh) ∧ Src P g w s sh ys cx) := by
  unfold srcA at hs
  split at hs
  · obtain ⟨rfl, _⟩ := str_inv hx
    exact ⟨_, _, _, hs, .inr ⟨1, _, rfl, str_src _⟩⟩
  · cases hx; exact ⟨_, _, _, hs, .inl ⟨rfl, rfl, rfl⟩⟩
  · obtain ⟨sz, sh, xs, cl, he, hk⟩ := elems_cps hs
    exact ⟨_, _, _, hk, .inr ⟨sz, sh, rfl, els_src (elems_sound h he hx)⟩⟩
theorem nil_src (s : Nat) (sh : Sh) : Src P g w s sh [] (.slice none 0 0) :=
  ⟨fun w' => rfl, ⟨[], VL.nil g, fun w' _ => rfl⟩, fun x hx => by simp at hx⟩
def noInt (P : Program) (tx : TypeId) : Prop := ∃ d, P.underlying tx = some d ∧ ∀ k, d ≠ .int k
theorem append_room {t tx ty e : TypeId} (ht : P.underlying t = some (.slice e)) (htx : noInt P tx) (he : (P.info? e).isSome) {b len cap : Nat} {s : Nat} {sh : Sh} {ys : List AV} {cy : Value} (hs : s = sizeA P e) (hy : Src P g w s sh ys cy)
    (hroom : len + ys.length ≤ cap) {vs : Array Value} {ty' : TypeId} {fz : Nat × Nat} (hb : w.heap[b]? = some (.cells vs ty' fz)) (hf : ∀ o, o < vs.size → w.frozen? ⟨b, o, none⟩ = false) (hcap : cap * s ≤ vs.size) :
    ∃ new, VL g (flat ys) new ∧ (Builtin.append_ #[t, tx] ty #[.slice (some ⟨b, 0, none⟩) len cap, cy]).run P w = .ok (.slice (some ⟨b, 0, none⟩) (len + ys.length) cap) (w.setCells b (len * s) new) := by
  obtain ⟨d, hd, hni⟩ := htx
  obtain ⟨i, hi⟩ := Option.isSome_iff_exists.1 he
  obtain ⟨new, hv, hc⟩ := hy.cells
  refine ⟨new, hv, ?_⟩
  have h1 : ∀ v ∈ new, v.oneCell' = true := one_vals (by
    simp only [flat, List.all_flatMap, List.all_eq_true]
    intro x hx c hc
    exact List.all_eq_true.1 (hy.el x hx).2.2 c hc) hv
  have hlen : new.length = ys.length * s := by rw [← hv.1, flat_len (fun x hx => (hy.el x hx).2.1)]
  have hfit : len * s + new.length ≤ vs.size := by
    rw [hlen, ← Nat.add_mul]
    exact Nat.le_trans (Nat.mul_le_mul_right _ hroom) hcap
  have hst := store_own (P := P) b (len * s) hb hf new hfit h1
  have hw := hc w (fun _ _ _ h => h)
  subst hs
  simp only [Builtin.append_]
  simp only [List.getElem?_toArray, List.getElem?_cons_zero, List.getElem?_cons_succ, Sem.run_bind, run_underlying ht, Result.andThen_ok, run_sizeOf hi, run_underlying hd, Sem.run_pure]
  have hz : (match d with | .int k => true | x => false) = false := by
    cases d with
    | int k => exact absurd rfl (hni k)
    | _ => rfl
  simp only [hz, Bool.false_eq_true, if_false, hy.len w, Result.andThen_ok, if_pos hroom, Bool.not_false, if_true, Sem.run_bind, hw, add_none, Nat.zero_add, hst, Sem.run_pure]
theorem append_grow {t tx ty e : TypeId} (ht : P.underlying t = some (.slice e)) (htx : noInt P tx) {i : TypeInfo} (hi : P.info? e = some i) {z : Value} (hz : i.zero = some z) {base : Option Addr} {len cap : Nat} {s : Nat} {sh : Sh} {ys : List AV} {cy : Value} (hs : s = sizeA P e) (hy : Src P g w s sh ys cy)
    {olds : List Value} (hold : ∀ w', (∀ b o v, w.cell? ⟨b, o, none⟩ = some v → w'.cell? ⟨b, o, none⟩ = some v) → (Builtin.firstCells s len (.slice base len cap)).run P w' = .ok (Array.mk olds) w')
    (hroom : cap < len + ys.length) (hfit : (len + ys.length) * bytesA P e ≤ 140737488355328) (hlim : len + ys.length ≤ 9223372036854775807) :
    ∃ new c, VL g (flat ys) new ∧ len + ys.length ≤ c ∧ (Builtin.append_ #[t, tx] ty #[.slice base len cap, cy]).run P w = .ok (.slice (some ⟨w.heap.size, 0, none⟩) (len + ys.length) c)
      (w.drew.alloc (.cells (Array.mk olds ++ Array.mk new ++ Builtin.zeroCells z.cells (c - (len + ys.length))) e)) := by
  obtain ⟨d, hd, hni⟩ := htx
  obtain ⟨new, hv, hc⟩ := hy.cells
  refine ⟨new, grownCap w (len + ys.length) cap e, hv, grownCap_ge w _ _ _, ?_⟩
  have hb : bytesA P e = i.bytes := by simp [bytesA, infoF_eq, hi]
  rw [hb] at hfit
  have h48 := growslice_fits hroom hfit
  have hw := hc w.drew (fun _ _ _ h => h)
  have ho := hold w.drew (fun _ _ _ h => h)
  subst hs
  simp only [Builtin.append_]
  simp only [List.getElem?_toArray, List.getElem?_cons_zero, List.getElem?_cons_succ, Sem.run_bind, run_underlying ht, Result.andThen_ok, run_sizeOf hi, run_underlying hd, Sem.run_pure]
  have hz' : (match d with | .int k => true | x => false) = false := by
    cases d with
    | int k => exact absurd rfl (hni k)
    | _ => rfl
  have n1 : ¬ (len + ys.length ≤ cap) := by omega
  have n2 : ¬ (((len + ys.length : Nat) : Int) > IntKind.i64.max) := by simp [IntKind.max, IntKind.signed, IntKind.bits]; omega
  have n3 : ¬ (Builtin.nextslicecap (len + ys.length) cap * i.bytes > 2 ^ 48) := by omega
  have ti : (typeInfo e).run P w = .ok i w := run_typeInfo' hi w
  have ti' : (typeInfo e).run P w.drew = .ok i w.drew := run_typeInfo' hi w.drew
  have zi : (zeroValue e).run P w.drew = .ok z w.drew := by simp [zeroValue, typeInfo, hi, hz]
  simp only [hz', Bool.false_eq_true, if_false, hy.len w, Result.andThen_ok, if_neg n1, false_or, ti, if_neg n3, n2, false_and, Bool.not_false, if_true, run_choose, Question.forced, Sem.run_bind, World.drew_eq, ti', run_askRoom, ho, hw, zi, newRow, run_newObj, Sem.run_pure, World.alloc_eq, World.size_drew]
  rfl
theorem newGrow_inv {e : TypeId} {sz : Nat} {sh : Sh} {xs : List AV} {v : AV} {hp' : List Ob} {c : Cls} (h : newGrow none P e sz sh xs hp (fun v h c => some (v, h, c)) = some (v, hp', c)) :
    ∃ z, zeroA P e = some z ∧ (cells z).length = sz ∧ 0 < sz ∧ xs.length * (bytesA P e + 1) < LIM ∧ v = .oslice hp.length 0 xs.length ∧ hp' = hp ++ [.grow e 0 sz sh xs] ∧ c = .write := by
  unfold newGrow at h
  split at h
  · rename_i z hz
    split at h
    · rename_i hc
      obtain ⟨h1, h⟩ := ask_some h
      simp only [decide_eq_true_eq] at h1
      simp only [Option.some.injEq, Prod.mk.injEq] at h
      exact ⟨z, hz, hc.1, hc.2, h1, h.1.symm, h.2.1.symm, h.2.2.symm⟩
    · simp at h
  · simp at h
theorem cells_size {z : AV} {cz : Value} (h : V g z cz) (ho : ofConst cz = z) : cz.cells.size = (cells z).length := by
  subst ho
  cases cz with
  | agg cs => simp [ofConst, cells, Value.cells]
  | string s =>
    simp only [ofConst, ofCell, Value.cells]
    split <;> rfl
  | pointer a => cases a <;> rfl
  | slice a n c =>
    cases a with
    | none => cases n with
      | zero => cases c <;> rfl
      | succ n => rfl
    | some a => rfl
  | _ => rfl
theorem zero_info {t : TypeId} {z : AV} (hz : zeroA P t = some z) : ∃ i cz, P.info? t = some i ∧ i.zero = some cz ∧ cz.cells.size = (cells z).length := by
  unfold zeroA at hz; rw [infoF_eq] at hz
  split at hz
  · rename_i i hi
    simp only [Option.map_eq_some_iff] at hz
    obtain ⟨cz, h1, h2⟩ := hz
    exact ⟨i, cz, hi, h1, cells_size (g := ⟨0, default, fun _ => false, fun _ _ => none, fun _ => none, fun _ => none⟩) (h2 ▸ ofConst_V _ cz) h2⟩
  · simp at hz
theorem size_zeroCells' (z : Array Value) (n : Nat) : (Builtin.zeroCells z n).size = n * z.size := by simp [Builtin.zeroCells]
theorem grow_new (h : R g w hp) {w' : World} (hbel : Below w.heap.size w w') {vs : Array Value} {ty : TypeId} (hb : w'.heap[w.heap.size]? = some (.cells vs ty (0, 0))) {c sz : Nat} {sh : Sh} {xs : List AV}
    (hsz : vs.size = c * sz) (h0 : 0 < sz) (hle : xs.length ≤ c) (hcs : VL g (flat xs) (vs.toList.take (xs.length * sz))) (hel : ∀ x ∈ xs, reshape sh x = x ∧ (cells x).length = sz ∧ (cells x).all oneCell) (hlim : xs.length < LIM) :
    ∃ g', g.le g' ∧ R g' w' (hp ++ [.grow ty 0 sz sh xs]) ∧ V g' (.oslice hp.length 0 xs.length) (.slice (some ⟨w.heap.size, 0, none⟩) xs.length c) := by
  obtain ⟨f1, f2⟩ := h.fresh
  obtain ⟨g', hg, hcur, hR⟩ := (h.grow hbel).addGrow hb h.newFree f1 f2 hsz h0 hle hcs hel (LIM_TOP hlim) (fun o _ => frozen_new hb) (.inl rfl)
  exact ⟨g', hg, hR, .oslice _ _ _ _ _ _ hcur (Hdr.refl _ _ _ _)⟩
theorem grow_case (h : R g w hp) {t tx ty e : TypeId} (ht : P.underlying t = some (.slice e)) (htx : noInt P tx) {s : Nat} {sh : Sh} {xs ys : List AV} {cy : Value} (hs : s = sizeA P e) (hs0 : 0 < s) (hy : Src P g w s sh ys cy)
    {z : AV} (hz : zeroA P e = some z) (hzl : (cells z).length = s) (hlim : (xs ++ ys).length * (bytesA P e + 1) < LIM)
    {base : Option Addr} {cap : Nat} (hel : ∀ x ∈ xs, reshape sh x = x ∧ (cells x).length = s ∧ (cells x).all oneCell) {olds : List Value} (hov : VL g (flat xs) olds)
    (hold : ∀ w', (∀ b o v, w.cell? ⟨b, o, none⟩ = some v → w'.cell? ⟨b, o, none⟩ = some v) → (Builtin.firstCells s xs.length (.slice base xs.length cap)).run P w' = .ok (Array.mk olds) w')
    (hroom : cap < xs.length + ys.length) :
    ∃ w' g' c, (Builtin.append_ #[t, tx] ty #[.slice base xs.length cap, cy]).run P w = .ok (.slice (some ⟨w.heap.size, 0, none⟩) (xs.length + ys.length) c) w' ∧ Below w.heap.size w w' ∧
      ∃ vs, w'.heap[w.heap.size]? = some (.cells vs e (0, 0)) ∧ vs.size = c * s ∧ xs.length + ys.length ≤ c ∧ VL g (flat (xs ++ ys)) (vs.toList.take ((xs ++ ys).length * s)) ∧
        (∀ x ∈ xs ++ ys, reshape sh x = x ∧ (cells x).length = s ∧ (cells x).all oneCell) ∧ (xs ++ ys).length < LIM ∧ g' = g := by
  obtain ⟨i, cz, hi, hcz, hcs⟩ := zero_info hz
  have hlen : (xs ++ ys).length = xs.length + ys.length := by simp
  rw [hlen] at hlim
  have hm : xs.length + ys.length ≤ (xs.length + ys.length) * (bytesA P e + 1) := Nat.le_mul_of_pos_right _ (by omega)
  have hm2 : (xs.length + ys.length) * bytesA P e ≤ (xs.length + ys.length) * (bytesA P e + 1) := Nat.mul_le_mul_left _ (by omega)
  unfold LIM at hlim
  obtain ⟨new, c, hv, hc, hrun⟩ := append_grow (ty := ty) ht htx hi hcz hs hy hold hroom (by omega) (by omega)
  have hw1 : ∀ x ∈ xs, (cells x).length = s := fun x hx => (hel x hx).2.1
  have hw2 : ∀ x ∈ ys, (cells x).length = s := fun x hx => (hy.el x hx).2.1
  have l1 : olds.length = xs.length * s := by rw [← hov.1, flat_len hw1]
  have l2 : new.length = ys.length * s := by rw [← hv.1, flat_len hw2]
  refine ⟨_, g, c, hrun, (Below.refl _ _).drew.alloc (Nat.le_refl _) _, _, heap_new w.drew _, ?_, hc, ?_, ?_, by rw [hlen]; unfold LIM; omega, rfl⟩
  · simp only [Array.size_append, size_zeroCells', hcs, hzl]
    show olds.length + new.length + _ = _
    rw [l1, l2, ← Nat.add_mul, ← Nat.add_mul]; congr 1; omega
  · have : ((Array.mk olds ++ Array.mk new ++ Builtin.zeroCells cz.cells (c - (xs.length + ys.length))).toList.take ((xs ++ ys).length * s)) = olds ++ new := by
      simp only [Array.toList_append]
      rw [List.take_append_of_le_length (by simp [l1, l2, Nat.add_mul])]
      rw [List.take_of_length_le (by simp [l1, l2, Nat.add_mul])]
    rw [this, flat_append]
    exact hov.append hv
  · intro x hx
    simp at hx
    rcases hx with hx | hx
    · exact hel x hx
    · exact hy.el x hx
end
end Go.Cx

end

section
namespace Go.Cx
open Go.RowKit (Below)
set_option linter.unusedSimpArgs false
section
variable {P : Program} {g : Gh} {w : World} {hp : List Ob}
theorem append_zero {t tx ty e : TypeId} (ht : P.underlying t = some (.slice e)) (htx : noInt P tx) (he : (P.info? e).isSome) {s : Nat} {sh : Sh} {ys : List AV} {cy : Value} (hs : s = sizeA P e) (hy : Src P g w s sh ys cy) (h0 : ys.length = 0)
    {base : Option Addr} {len cap : Nat} (hle : len ≤ cap) : (Builtin.append_ #[t, tx] ty #[.slice base len cap, cy]).run P w = .ok (.slice base len cap) w := by
  obtain ⟨d, hd, hni⟩ := htx
  obtain ⟨i, hi⟩ := Option.isSome_iff_exists.1 he
  obtain ⟨new, hv, hc⟩ := hy.cells
  have hyn : ys = [] := List.eq_nil_of_length_eq_zero h0
  subst hyn
  have hn : new = [] := hv.nil_inv
  subst hn
  have hw := hc w (fun _ _ _ h => h)
  have hl := hy.len w
  simp only [List.length_nil] at hw hl
  subst hs
  simp only [Builtin.append_]
  simp only [List.getElem?_toArray, List.getElem?_cons_zero, List.getElem?_cons_succ, Sem.run_bind, run_underlying ht, Result.andThen_ok, run_sizeOf hi, run_underlying hd, Sem.run_pure]
  have hz : (match d with | .int k => true | x => false) = false := by
    cases d with
    | int k => exact absurd rfl (hni k)
    | _ => rfl
  have n1 : len + 0 ≤ cap := by omega
  simp only [hz, Bool.false_eq_true, if_false, hl, Result.andThen_ok, if_pos n1, Bool.not_false, if_true, Sem.run_bind, hw]
  cases base with
  | none => rfl
  | some a => simp only [storeCells, Sem.run_pure, Sem.run_bind, Result.andThen_ok]; rfl
theorem noInt_of {tx : TypeId} (h : badSrc P tx = false) : noInt P tx := by
  unfold badSrc at h
  cases hk : tk P tx with
  | slice e => exact ⟨_, tk_slice hk, fun k => by simp⟩
  | str => exact ⟨_, tk_str hk, fun k => by simp⟩
  | _ => rw [hk] at h; simp at h
theorem oslice_append (h : R g w hp) {t tx ty e : TypeId} (ht : P.underlying t = some (.slice e)) (htx : noInt P tx) {s : Nat} {sh : Sh} {xs ys : List AV} {cy : Value} (hs : s = sizeA P e) (hs0 : 0 < s) (hy : Src P g w s sh ys cy)
    {z : AV} (hz : zeroA P e = some z) (hzl : (cells z).length = s) (hlim : (xs ++ ys).length * (bytesA P e + 1) < LIM) {id ver : Nat} (he : hp[id]? = some (.grow e ver s sh xs)) {cx : Value} (hx : V g (.oslice id ver xs.length) cx) :
    Does P g w (Builtin.append_ #[t, tx] ty #[cx, cy]) (.oslice id ver (xs ++ ys).length) (hp.set id (.grow e ver s sh (xs ++ ys))) := by
  have hlen0 : (xs ++ ys).length = xs.length + ys.length := by simp
  rcases h.growOK he with k | ⟨b, cc, vs, fz, k⟩
  · have := k.nil; subst this
    have := k.slice hx; subst this
    rw [List.nil_append]
    by_cases h0 : ys.length = 0
    · have : ys = [] := List.eq_nil_of_length_eq_zero h0
      subst this
      refine ⟨_, w, g, append_zero ht htx (by obtain ⟨i, cz, hi, _⟩ := zero_info hz; rw [hi]; rfl) hs hy rfl (Nat.le_refl _), Gh.le.refl g, ?_, hx⟩
      have : hp.set id (.grow e ver s sh []) = hp := by
        apply List.ext_getElem?
        intro i
        rw [List.getElem?_set]
        split
        · rename_i e; subst e
          rw [he]; simp [length_of_get he]
        · rfl
      rw [this]; exact h
    · obtain ⟨w', _, c', hrun, hbel, vs', hb', hsz', hc', hvl', hel', hlim', _⟩ := grow_case (ty := ty) h ht htx hs hs0 hy hz hzl (xs := []) (by simpa using hlim) (base := none) (cap := 0) (fun x hx => by simp at hx) (VL.nil g)
        (fun w' _ => rfl) (by simp; omega)
      simp only [List.nil_append, List.length_nil, Nat.zero_add] at hrun hc' hvl' hel' hlim'
      let nb := w.heap.size
      let g' : Gh := { g with cur := fun i => if i = id then some (ver, ys.length, some nb, c') else g.cur i }
      have hcur : g'.cur id = some (ver, ys.length, some nb, c') := by show (if id = id then _ else _) = _; rw [if_pos rfl]
      have hle : g.le g' := ⟨rfl, rfl, rfl, fun _ _ _ => rfl, fun _ _ _ e => e, fun _ _ e => e, fun i v' l' b' c'' e => by
        show ∃ x, (if i = id then some (ver, ys.length, some nb, c') else g.cur i) = some x ∧ _
        split
        · rename_i e1; subst e1; rw [k.cur] at e; cases e; exact ⟨_, rfl, .inr ⟨rfl, by omega, fun e => by omega⟩⟩
        · exact ⟨_, e, Hdr.refl _ _ _ _⟩⟩
      obtain ⟨f1, f2⟩ := h.fresh
      refine ⟨_, w', g', hrun, hle, ?_, .oslice _ _ _ nb c' _ hcur (Hdr.refl _ _ _ _)⟩
      refine h.turnV hle (length_of_get he) (fun i hi => by show (if i = id then _ else _) = _; rw [if_neg hi]) (fun _ _ => rfl) rfl hbel ?_ (fun _ b' ho => ?_)
      · exact ⟨k.blk, .inr ⟨nb, c', vs', (0, 0), hcur, h.newFree, hb', hsz', k.pos, hc', hvl'.mono hle, hel', LIM_TOP hlim', f2, fun o _ => frozen_new hb', .inl rfl⟩⟩
      · rcases ho with ho | ⟨_, _, _, ho⟩
        · rw [show g'.blk id = g.blk id from rfl, k.blk] at ho; simp at ho
        · rw [hcur] at ho; cases ho; exact Nat.le_refl _
  rw [k.slice hx, hlen0]
  obtain ⟨i, cz, hi, hcz, hcs⟩ := zero_info hz
  have hlen : (xs ++ ys).length = xs.length + ys.length := by simp
  have hw1 : ∀ x ∈ xs, (cells x).length = s := fun x hx => (k.sh x hx).2.1
  have hw2 : ∀ x ∈ ys, (cells x).length = s := fun x hx => (hy.el x hx).2.1
  have hel : ∀ x ∈ xs ++ ys, reshape sh x = x ∧ (cells x).length = s ∧ (cells x).all oneCell := by
    intro x hx; simp at hx; rcases hx with hx | hx
    · exact k.sh x hx
    · exact hy.el x hx
  have hroom0 : xs.length * s ≤ vs.size := by rw [k.size]; exact Nat.mul_le_mul_right _ k.le
  have lim' : (xs ++ ys).length < LIM := Nat.lt_of_le_of_lt (Nat.le_mul_of_pos_right _ (by omega)) hlim
  by_cases hroom : xs.length + ys.length ≤ cc
  · obtain ⟨new, hv, hrun⟩ := append_room (ty := ty) (P := P) ht htx (by rw [hi]; rfl) hs hy (b := b) (len := xs.length) (cap := cc) hroom k.heap k.froz (by rw [k.size]; exact Nat.le_refl _)
    have l2 : new.length = ys.length * s := by rw [← hv.1, flat_len hw2]
    have hfit : xs.length * s + new.length ≤ vs.size := by rw [l2, ← Nat.add_mul, k.size]; exact Nat.mul_le_mul_right _ hroom
    let g' : Gh := { g with cur := fun i => if i = id then some (ver, xs.length + ys.length, some b, cc) else g.cur i }
    have hcur : g'.cur id = some (ver, xs.length + ys.length, some b, cc) := by show (if id = id then _ else _) = _; rw [if_pos rfl]
    have hle : g.le g' := ⟨rfl, rfl, rfl, fun _ _ _ => rfl, fun _ _ _ e => e, fun _ _ e => e, fun i v' l' b' c' e => by
      show ∃ x, (if i = id then some (ver, xs.length + ys.length, some b, cc) else g.cur i) = some x ∧ _
      split
      · rename_i e1; subst e1; rw [k.cur] at e; cases e; exact ⟨_, rfl, .inr ⟨rfl, by omega, fun _ => ⟨rfl, rfl⟩⟩⟩
      · exact ⟨_, e, Hdr.refl _ _ _ _⟩⟩
    obtain ⟨r1, r2, r3, r4⟩ := rest_setCells b new (xs.length * s) w
    refine ⟨_, _, g', hrun, hle, ?_, .oslice _ _ _ b cc _ hcur (Hdr.refl _ _ _ _)⟩
    refine h.turn (b := b) hle (length_of_get he) (by rw [he]; simp) (.inr ⟨_, _, _, k.cur⟩) (fun i hi => by show (if i = id then _ else _) = _; rw [if_neg hi]) (fun _ _ => rfl) (fun _ _ _ e => .inl e) (fun _ _ _ e => e) r1 r2 r3 (by omega)
      (fun k _ hk => heap_setCells_other b _ _ w k hk) ?_ (fun _ b' ho => ?_)
    · refine ⟨k.blk, .inr ?_⟩
      refine ⟨b, cc, _, fz, by rw [hlen]; exact hcur, k.base, heap_setCells b new _ w vs _ fz k.heap, by rw [size_putR]; exact k.size, k.pos, by rw [hlen]; exact hroom, ?_, hel, LIM_TOP lim', k.imm, fun o ho => ?_, by rw [size_putR]; exact k.soft⟩
      · rw [hlen, putR_list _ _ _ hfit, flat_append]
        have e : List.take ((xs.length + ys.length) * s) (List.take (xs.length * s) vs.toList ++ new ++ List.drop (xs.length * s + new.length) vs.toList) = List.take (xs.length * s) vs.toList ++ new := by
          have l0 : (List.take (xs.length * s) vs.toList).length = xs.length * s := by simp; omega
          rw [List.take_append_of_le_length (by rw [List.length_append, l0, l2, Nat.add_mul]; exact Nat.le_refl _)]
          rw [List.take_of_length_le (by rw [List.length_append, l0, l2, Nat.add_mul]; exact Nat.le_refl _)]
        rw [e]
        exact ((k.vl).append hv).mono hle
      · rw [World.frozen?_setCells]
        exact k.froz o (by simpa using ho)
    · left
      rcases ho with ho | ⟨_, _, _, ho⟩
      · rw [show g'.blk id = g.blk id from rfl, k.blk] at ho; simp at ho
      · rw [hcur] at ho; cases ho; rfl
  · have hold : ∀ w', (∀ b o v, w.cell? ⟨b, o, none⟩ = some v → w'.cell? ⟨b, o, none⟩ = some v) → (Builtin.firstCells s xs.length (.slice (some ⟨b, 0, none⟩) xs.length cc)).run P w' = .ok (Array.mk (vs.toList.take (xs.length * s))) w' := by
      intro w' hw'
      have hll : xs.length * s = (vs.toList.take (xs.length * s)).length := by simp; omega
      simp only [Builtin.firstCells]
      conv => lhs; rw [hll]
      exact load_lies (fun i v hi => hw' _ _ _ (k.lies i v hi))
    obtain ⟨w', _, c', hrun, hbel, vs', hb', hsz', hc', hvl', hel', hlim', _⟩ := grow_case (ty := ty) h ht htx hs hs0 hy hz hzl hlim k.sh k.vl hold (by omega)
    let nb := w.heap.size
    let g' : Gh := { g with cur := fun i => if i = id then some (ver, xs.length + ys.length, some nb, c') else g.cur i }
    have hcur : g'.cur id = some (ver, xs.length + ys.length, some nb, c') := by show (if id = id then _ else _) = _; rw [if_pos rfl]
    have hpos : 0 < ys.length := by have := k.le; omega
    have hle : g.le g' := ⟨rfl, rfl, rfl, fun _ _ _ => rfl, fun _ _ _ e => e, fun _ _ e => e, fun i v' l' b' c'' e => by
      show ∃ x, (if i = id then some (ver, xs.length + ys.length, some nb, c') else g.cur i) = some x ∧ _
      split
      · rename_i e1; subst e1; rw [k.cur] at e; cases e; exact ⟨_, rfl, .inr ⟨rfl, by omega, fun e => by omega⟩⟩
      · exact ⟨_, e, Hdr.refl _ _ _ _⟩⟩
    obtain ⟨f1, f2⟩ := h.fresh
    refine ⟨_, w', g', hrun, hle, ?_, .oslice _ _ _ nb c' _ hcur (Hdr.refl _ _ _ _)⟩
    refine h.turn (b := b) hle (length_of_get he) (by rw [he]; simp) (.inr ⟨_, _, _, k.cur⟩) (fun i hi => by show (if i = id then _ else _) = _; rw [if_neg hi]) (fun _ _ => rfl) (fun _ _ _ e => .inl e) (fun _ _ _ e => e) hbel.os hbel.tape hbel.output hbel.size
      (fun k hk _ => hbel.block k hk) ?_ (fun _ b' ho => ?_)
    · refine ⟨k.blk, .inr ?_⟩
      exact ⟨nb, c', vs', (0, 0), by rw [hlen]; exact hcur, h.newFree, hb', hsz', k.pos, by rw [hlen]; exact hc', hvl'.mono hle, hel', LIM_TOP hlim', f2, fun o _ => frozen_new hb', .inl rfl⟩
    · rcases ho with ho | ⟨_, _, _, ho⟩
      · rw [show g'.blk id = g.blk id from rfl, k.blk] at ho; simp at ho
      · rw [hcur] at ho; cases ho; right; exact Nat.le_refl _
theorem virt_append (h : R g w hp) {t tx ty e : TypeId} (ht : P.underlying t = some (.slice e)) (htx : noInt P tx) (hie : (P.info? e).isSome) {s : Nat} {sh : Sh} {ys : List AV} {cy : Value} (hs : s = sizeA P e) (hs0 : 0 < s) (hy : Src P g w s sh ys cy)
    {z : AV} (hz : zeroA P e = some z) (hzl : (cells z).length = s) (hlim : ys.length * (bytesA P e + 1) < LIM) (h0 : 0 < s) :
    Does P g w (Builtin.append_ #[t, tx] ty #[.slice none 0 0, cy]) (.oslice hp.length 0 ys.length) (hp ++ [.grow e 0 s sh ys]) := by
  by_cases hn : ys.length = 0
  · have : ys = [] := List.eq_nil_of_length_eq_zero hn
    subst this
    obtain ⟨g', hle, hcur, hR⟩ := h.addVirt e h0 sh
    exact ⟨_, w, g', append_zero ht htx hie hs hy rfl (Nat.le_refl _), hle, hR, .oslice0 _ _ _ hcur (Hdr.refl _ _ _ _)⟩
  · obtain ⟨w', _, c', hrun, hbel, vs', hb', hsz', hc', hvl', hel', hlim', _⟩ := grow_case (ty := ty) h ht htx hs hs0 hy hz hzl (xs := []) (by simpa using hlim) (base := none) (cap := 0) (fun x hx => by simp at hx) (VL.nil g) (fun w' _ => rfl) (by simp; omega)
    simp only [List.nil_append, List.length_nil, Nat.zero_add] at hrun hc' hvl' hel' hlim'
    obtain ⟨g', hle, hR, hV⟩ := grow_new h hbel hb' hsz' h0 hc' hvl' hel' hlim'
    exact ⟨_, w', g', hrun, hle, hR, hV⟩
theorem appendB_sound (h : R g w hp) {t tx ty : TypeId} {s x v : AV} {hp' : List Ob} {c : Cls} (hc : appendB none P t tx s x hp (fun v h c => some (v, h, c)) = some (v, hp', c)) {cs cx : Value} (hs : V g s cs) (hx : V g x cx) :
    Does P g w (Builtin.append_ #[t, tx] ty #[cs, cx]) v hp' := by
  unfold appendB at hc
  split at hc
  · rename_i e htk
    have ht := tk_slice htk
    simp only at hc
    split at hc
    · simp at hc
    · rename_i hcond
      simp only [not_or, Bool.not_eq_true] at hcond
      obtain ⟨hsz, hno⟩ := hcond
      have htx := noInt_of hno
      have he : (P.info? e).isSome := by
        cases hi : P.info? e with
        | none => simp [sizeA, infoF_eq, hi] at hsz
        | some i => rfl
      obtain ⟨how, ys, cl, hk, hsrc⟩ := srcA_sound (P := P) h hc hx
      clear hc
      split at hk
      · rename_i hhow
        have hy : Src P g w (sizeA P e) (shA P 8 e) ys cx := by
          rcases hsrc with ⟨rfl, rfl, rfl⟩ | ⟨s', sh', rfl, hs'⟩
          · exact nil_src _ _
          · simp only [okHow, Bool.and_eq_true, beq_iff_eq] at hhow
            obtain ⟨rfl, hb⟩ := hhow
            rw [← Sh.beq_eq _ _ hb]; exact hs'
        have hpos : 0 < sizeA P e := by omega
        split at hk
        · cases hs
          replace hk := newGrow_inv hk
          obtain ⟨z, hz, hzl, h0, hlim, rfl, rfl, rfl⟩ := hk
          exact virt_append h ht htx he rfl hpos hy hz hzl hlim h0
        · rename_i sz' sh' xs zs
          split at hk
          · rename_i hm
            simp only [Bool.and_eq_true, beq_iff_eq] at hm
            obtain ⟨rfl, hb⟩ := hm
            have := Sh.beq_eq _ _ hb; subst this
            obtain ⟨a, ca, hcs⟩ : ∃ a ca, cs = .slice a xs.length ca := by cases hs; exact ⟨_, _, rfl⟩
            have hcap : cs = .slice a xs.length (xs ++ zs).length := by cases hs; cases hcs; rfl
            subst hcap
            cases hb : (ys.length == 0) with
            | true =>
              rw [hb] at hk
              simp at hk hb; obtain ⟨rfl, rfl, rfl⟩ := hk
              exact Does.pure h (append_zero ht htx he rfl hy (by simp [hb]) (by simp)) hs
            | false =>
              rw [hb] at hk
              simp only [cond_false] at hk
              cases hd : decide (zs.length < ys.length) with
              | false => rw [hd] at hk; simp at hk
              | true =>
                rw [hd] at hk
                simp only [cond_true] at hk
                replace hk := newGrow_inv hk
                obtain ⟨z, hz, hzl, h0, hlim, rfl, rfl, rfl⟩ := hk
                have e' := els_src (P := P) (slice_els h (fslice_weak hs))
                obtain ⟨olds, hov, hold⟩ := e'.cells
                obtain ⟨w', _, c', hrun, hbel, vs', hb', hsz', hc', hvl', hel', hlim', _⟩ := grow_case (ty := ty) h ht htx rfl hpos hy hz hzl hlim e'.el hov hold (by simp at hd; simp; omega)
                have hlen : (xs ++ ys).length = xs.length + ys.length := by simp
                obtain ⟨g', hle, hR, hV⟩ := grow_new h hbel hb' hsz' h0 (by rw [hlen]; exact hc') hvl' hel' hlim'
                rw [← hlen] at hrun
                exact ⟨_, w', g', hrun, hle, hR, hV⟩
          · simp at hk
        · rename_i sz' sh' xs kk
          split at hk
          · rename_i hm
            cases hb : (ys.length == 0) with
            | true =>
              rw [hb] at hk
              simp at hk hb; obtain ⟨rfl, rfl, rfl⟩ := hk
              obtain ⟨a, ca, rfl, hle, _⟩ := (slice_els h hs).some
              exact Does.pure h (append_zero ht htx he rfl hy (by simp [hb]) hle) hs
            | false => rw [hb] at hk; simp at hk
          · simp at hk
        · rename_i id ver len
          obtain ⟨tyo, sz', sh', xs, hg, rfl, hk'⟩ := grown_inv hk
          clear hk
          split at hk'
          · rename_i hm
            simp only [Bool.and_eq_true, beq_iff_eq] at hm
            obtain ⟨⟨rfl, rfl⟩, hb⟩ := hm
            have := Sh.beq_eq _ _ hb; subst this
            split at hk'
            · rename_i z hz
              split at hk'
              · rename_i hzl
                obtain ⟨hlim, hk2⟩ := ask_some hk'
                simp only [decide_eq_true_eq] at hlim
                simp only [Option.some.injEq, Prod.mk.injEq] at hk2; obtain ⟨rfl, rfl, rfl⟩ := hk2
                exact oslice_append h ht htx rfl hpos hy hz hzl hlim hg hs
              · simp at hk'
            · simp at hk'
          · simp at hk'
        · simp at hk
      · simp at hk
  · simp at hc
end
end Go.Cx

end

section
namespace Go.Cx
set_option linter.unusedVariables false
open Go.RowKit (Below)
set_option linter.unusedSimpArgs false
section
variable {P : Program} {g : Gh} {w : World} {hp : List Ob}
theorem foldl_put (off : Nat) : ∀ (l : List Value) (j : Nat) (cs : Array Value), (l.zipIdx j).foldl (fun cs (p : Value × Nat) => cs.setIfInBounds (off + p.2) p.1) cs = putR cs (off + j) l
  | [], j, cs => rfl
  | v :: l, j, cs => by
    rw [List.zipIdx_cons, List.foldl_cons, foldl_put off l (j + 1)]
    rfl
theorem fill_sound {pl : Nat → Option (Nat × Nat)} : ∀ {parts : List (Nat × AV)} {cparts : List (Nat × Value)} {cs cs' : List AV} {cur : Array Value}, fillA pl cs parts = some cs' → parts.length = cparts.length →
    (∀ (i : Nat) (p : Nat × AV) (q : Nat × Value), parts[i]? = some p → cparts[i]? = some q → p.1 = q.1 ∧ V g p.2 q.2) → VL g cs cur.toList →
    ∃ cur', Instr.fill pl cur cparts = some cur' ∧ VL g cs' cur'.toList ∧ cs'.length = cs.length ∧ (cs.all oneCell → cs'.all oneCell)
  | [], [], cs, cs', cur, h, _, _, hv => by simp [fillA] at h; subst h; exact ⟨cur, rfl, hv, rfl, fun h => h⟩
  | [], _ :: _, _, _, _, _, hl, _, _ => by simp at hl
  | _ :: _, [], _, _, _, _, hl, _, _ => by simp at hl
  | (i, v) :: rest, (j, cv) :: crest, cs, cs', cur, h, hl, hp, hv => by
    obtain ⟨e1, hV⟩ := hp 0 _ _ rfl rfl
    simp only at e1 hV; subst e1
    simp only [fillA] at h
    split at h
    · rename_i off size hpl
      split at h
      · rename_i hc
        obtain ⟨h1, h2, h3⟩ := hc
        obtain ⟨k1, k2⟩ := cells_V hV h2
        have hsz : cv.cells.size = size := by rw [← h1]; have := k1.1; simpa using this.symm
        have hcl : cs.length = cur.size := by have := hv.1; simpa using this
        have hv' := setRange_VL (off := off) k1 hv
        have hlen : (setRange cs off (cells v)).length = cs.length := by
          have a := hv'.1
          have b : (putR cur off cv.cells.toList).toList.length = cur.size := by rw [Array.length_toList, size_putR]
          omega
        obtain ⟨cur', c1, c2, c3, c4⟩ := fill_sound h (by simpa using hl) (fun i p q a b => hp (i + 1) p q (by simpa using a) (by simpa using b)) hv'
        refine ⟨cur', ?_, c2, by rw [c3, hlen], fun ho => c4 ?_⟩
        · simp only [Instr.fill, hpl]
          have n1 : ¬ ((decide (cv.cells.size ≠ size) || decide (off + cv.cells.size > cur.size)) = true) := by simp; omega
          rw [if_neg n1]
          rw [← c1]
          congr 1
          rw [← Array.foldl_toList, Array.toList_zipIdx]
          exact foldl_put off cv.cells.toList 0 cur
        · rw [List.all_eq_true]
          exact setRange_one (fun c hc => List.all_eq_true.1 h2 c hc) (fun c hc => List.all_eq_true.1 ho c hc)
      · simp at h
    · simp at h
theorem ofConst_VL (cz : Value) : VL g (cells (ofConst cz)) cz.cells.toList := by
  have one : ∀ v : Value, cells (ofCell v) = [ofCell v] := by
    intro v
    cases v with
    | string s => simp only [ofCell]; split <;> rfl
    | pointer a => cases a <;> rfl
    | slice a n c =>
      cases a with
      | none => cases n with
        | zero => cases c <;> rfl
        | succ n => rfl
      | some a => rfl
    | _ => rfl
  cases cz with
  | agg cs =>
    have := ofConst_V g (.agg cs)
    simp only [ofConst] at this ⊢
    cases this with
    | agg _ _ h1 h2 => exact ⟨by simp [cells, Value.cells], by simpa [cells, Value.cells] using h2⟩
  | _ => simp only [ofConst, one]; exact VL.cons (ofCell_V g _) (VL.nil g)
theorem zero_cells {t : TypeId} {z : AV} (hz : zeroA P t = some z) : ∃ cz, VL g (cells z) cz.cells.toList ∧ (zeroValue t).run P w = .ok cz w := by
  unfold zeroA at hz; rw [infoF_eq] at hz
  split at hz
  · rename_i i hi
    simp only [Option.map_eq_some_iff] at hz
    obtain ⟨cz, h1, rfl⟩ := hz
    exact ⟨cz, ofConst_VL cz, by simp [zeroValue, typeInfo, hi, h1]⟩
  · simp at hz
theorem parts_ok {fr : List AV} {a : Act} (hfr : VL g fr a.tmps.toList) (parts : Array (Nat × Operand)) :
    (parts.toList.map fun p => (p.1, evalA fr p.2)).length = ((parts.map fun p => (p.1, a.eval p.2)).toList).length ∧
    ∀ (i : Nat) (p : Nat × AV) (q : Nat × Value), (parts.toList.map fun p => (p.1, evalA fr p.2))[i]? = some p → ((parts.map fun p => (p.1, a.eval p.2)).toList)[i]? = some q → p.1 = q.1 ∧ V g p.2 q.2 := by
  refine ⟨by simp, fun i p q h1 h2 => ?_⟩
  simp only [Array.toList_map, List.getElem?_map] at h1 h2
  cases hx : parts.toList[i]? with
  | none => rw [hx] at h1; simp at h1
  | some x => rw [hx] at h1 h2; simp at h1 h2; subst h1 h2; exact ⟨rfl, eval_V hfr x.2⟩
theorem hasT_size {t : TypeId} (h : hasT P t = true) : (sizeOf t).run P w = .ok (sizeA P t) w := by
  obtain ⟨i, hi⟩ := Option.isSome_iff_exists.1 (show (P.info? t).isSome = true by rw [← infoF_eq]; exact h)
  exact run_sizeOf hi w
theorem mapM_places : ∀ (fs : List Field), (fs.all fun f => hasT P f.type) = true →
    (fs.mapM fun f => do pure (f.offset, ← sizeOf f.type) : Sem (List (Nat × Nat))).run P w = .ok (fs.map fun f => (f.offset, sizeA P f.type)) w
  | [], _ => by simp
  | f :: fs, h => by
    simp only [List.all_cons, Bool.and_eq_true] at h
    have ih := mapM_places fs h.2
    simp only [List.mapM_cons, Sem.run_bind, hasT_size h.1, Result.andThen_ok, Sem.run_pure, List.map_cons] at ih ⊢
    rw [ih]; rfl
theorem build_sound (h : R g w hp) {t : TypeId} {parts : Array (Nat × Operand)} {fr : List AV} {a : Act} (hfr : VL g fr a.tmps.toList) {z : AV} (hz : zeroA P t = some z) {cs : List AV}
    (hb : (∃ l, tk P t = .struct l ∧ l.all (fun p => hasT P p.2) = true ∧ fillA (fun i => (l[i]?).map fun p => (p.1, sizeA P p.2)) (cells z) (parts.toList.map fun p => (p.1, evalA fr p.2)) = some cs) ∨
      (∃ n e, tk P t = .array n e ∧ hasT P e = true ∧ fillA (fun i => some (i * sizeA P e, sizeA P e)) (cells z) (parts.toList.map fun p => (p.1, evalA fr p.2)) = some cs)) :
    Does P g w (Instr.build t (parts.map fun p => (p.1, a.eval p.2))) (.agg cs) hp := by
  obtain ⟨cz, hzv, hrun⟩ := zero_cells (g := g) (w := w) hz
  obtain ⟨p1, p2⟩ := parts_ok hfr parts
  rcases hb with ⟨l, ht, hT, hf⟩ | ⟨n, e, ht, hT, hf⟩
  · obtain ⟨fs, hu, rfl⟩ := tk_struct ht
    have hvl : VL g (cells z) cz.cells.toList := hzv
    obtain ⟨cur', c1, c2, c3, c4⟩ := fill_sound hf p1 p2 hvl
    have hT' : (fs.toList.all fun f => hasT P f.type) = true := by simpa [List.all_map] using hT
    have hm := mapM_places (w := w) fs.toList hT'
    have hpl : (fun (i : Nat) => ((fs.toList.map fun f => (f.offset, sizeA P f.type)).toArray)[i]?) = (fun (i : Nat) => ((fs.toList.map fun f => (f.offset, f.type))[i]?).map fun (p : Nat × TypeId) => (p.1, sizeA P p.2)) := by
      funext i; simp [Function.comp_def]
    refine ⟨_, w, g, ?_, Gh.le.refl g, h, c2.aggV⟩
    simp only [Instr.build, Sem.run_bind, hrun, Result.andThen_ok, run_underlying hu, Array.mapM_eq_mapM_toList, Sem.run_map, hm]
    rw [show (fun x => (List.map (fun f => (f.offset, sizeA P f.type)) fs.toList).toArray[x]?) = _ from hpl, c1]
    simp
  · have hvl : VL g (cells z) cz.cells.toList := hzv
    obtain ⟨cur', c1, c2, c3, c4⟩ := fill_sound hf p1 p2 hvl
    refine ⟨_, w, g, ?_, Gh.le.refl g, h, c2.aggV⟩
    simp only [Instr.build, Sem.run_bind, hrun, Result.andThen_ok, run_underlying (tk_array ht), hasT_size hT, c1]
    simp
theorem made_flat (z : Array Value) : ∀ n, (List.range (n * z.size)).map (fun i => z[i % z.size]!) = (List.replicate n z.toList).flatten
  | 0 => by simp
  | n + 1 => by
    rw [Nat.succ_mul, Nat.add_comm, List.range_add, List.map_append, List.map_map, List.replicate_succ, List.flatten_cons, ← made_flat z n]
    congr 1
    · apply List.ext_getElem?
      intro i
      simp only [List.getElem?_map, List.getElem?_range']
      by_cases hi : i < z.size
      · rw [List.getElem?_range hi]
        simp [Nat.mod_eq_of_lt hi, hi]
      · rw [List.getElem?_eq_none (by simp; omega)]
        simp [Array.getElem?_eq_none (Nat.le_of_not_lt hi)]
    · apply List.map_congr_left
      intro i _
      simp [Nat.add_mod_left]
theorem VL_reps {x : AV} {vs : List Value} (h : VL g (cells x) vs) : ∀ n, VL g (flat (List.replicate n x)) (List.replicate n vs).flatten
  | 0 => VL.nil g
  | n + 1 => by
    rw [List.replicate_succ, List.replicate_succ, List.flatten_cons, flat_cons]
    exact h.append (VL_reps h n)
theorem zeros_made {z z' : AV} {sh : Sh} {cz : Value} (hv : VL g (cells z) cz.cells.toList) (hf : fit sh z = some z') (n : Nat) (hsz : (cells z').length = cz.cells.size) :
    VL g (flat (List.replicate n z')) ((Array.range (n * cz.cells.size)).map (cz.cells[· % cz.cells.size]!)).toList := by
  have : ((Array.range (n * cz.cells.size)).map (cz.cells[· % cz.cells.size]!)).toList = (List.range (n * cz.cells.size)).map (fun i => cz.cells[i % cz.cells.size]!) := by simp
  rw [this, made_flat]
  exact VL_reps (fit_cells hf hv) n
theorem chunks_flat {e : TypeId} {sz : Nat} (h1 : (aggT P e || sz == 1) = true) (h0 : 0 < sz) : ∀ (n : Nat) (cs : List AV), cs.length = n * sz → cs.all oneCell = true →
    flat (chunks P e sz n cs) = cs ∧ (chunks P e sz n cs).length = n ∧ ∀ x ∈ chunks P e sz n cs, (cells x).length = sz
  | 0, cs, hl, _ => by
    have : cs = [] := by apply List.eq_nil_of_length_eq_zero; simpa using hl
    subst this
    exact ⟨rfl, rfl, fun x hx => by simp [chunks] at hx⟩
  | n + 1, cs, hl, ho => by
    rw [Nat.succ_mul] at hl
    obtain ⟨k1, k2, k3⟩ := chunks_flat h1 h0 n (cs.drop sz) (by simp; omega) (by
      rw [List.all_eq_true] at ho ⊢
      exact fun x hx => ho x (List.mem_of_mem_drop hx))
    simp only [chunks]
    cases ha : aggT P e with
    | true =>
      refine ⟨?_, by simp [k2], fun x hx => ?_⟩
      · simp only [if_true, flat_cons, k1, cells, List.take_append_drop]
      · simp at hx
        rcases hx with rfl | hx
        · simp [cells]; omega
        · exact k3 x hx
    | false =>
      rw [ha] at h1
      simp at h1; subst h1
      cases cs with
      | nil => simp at hl
      | cons c cs =>
        simp only [List.all_cons, Bool.and_eq_true] at ho
        have hc : cells c = [c] := by cases c <;> first | rfl | simp [oneCell] at ho
        refine ⟨?_, by simpa using k2, fun x hx => ?_⟩
        · simp only [Bool.false_eq_true, if_false, List.headD_cons, flat_cons, k1, hc]; rfl
        · simp at hx
          rcases hx with rfl | hx
          · simp [hc]
          · exact k3 x hx
theorem zerosA_inv {e : TypeId} {n : Nat} {zs : List AV} (h : zerosA P e n = some zs) : ∃ z z', zeroA P e = some z ∧ fit (shA P 8 e) z = some z' ∧ (cells z').length = sizeA P e ∧ zs = List.replicate n z' := by
  unfold zerosA at h
  split at h
  · rename_i z hz
    split at h
    · rename_i z' hz'
      split at h
      · rename_i hl
        simp at h; exact ⟨z, z', hz, hz', hl, h.symm⟩
      · simp at h
    · simp at h
  · simp at h
def PO (g : Gh) (ps : List (Nat × AV)) (cps : List (Nat × Value)) : Prop :=
  ps.length = cps.length ∧ ∀ (i : Nat) (p : Nat × AV) (q : Nat × Value), ps[i]? = some p → cps[i]? = some q → p.1 = q.1 ∧ V g p.2 q.2
theorem buildSlice_sound (h : R g w hp) {t e : TypeId} (ht : tk P t = .slice e) {len : Nat} {parts : Array (Nat × Operand)} {a : Act} {ps : List (Nat × AV)} (hps : PO g ps (parts.map fun p => (p.1, a.eval p.2)).toList) {zs cs xs : List AV} (hz : zerosA P e len = some zs)
    (hf : fillA (fun i => some (i * sizeA P e, sizeA P e)) (flat zs) ps = some cs) (hx : fitAll (shA P 8 e) (chunks P e (sizeA P e) len cs) = some xs)
    (hc : len * sizeA P e ≤ 16777216 ∧ 0 < sizeA P e ∧ cs.all oneCell ∧ (aggT P e || sizeA P e == 1) = true) :
    ∃ w' vs, (Instr.buildSlice t len (parts.map fun p => (p.1, a.eval p.2))).run P w = .ok (.slice (some ⟨w.heap.size, 0, none⟩) len len) w' ∧ Below w.heap.size w w' ∧ w'.heap[w.heap.size]? = some (.cells vs e (0, 0)) ∧
      VL g (flat xs) vs.toList ∧ xs.length = len ∧ vs.size = len * sizeA P e ∧ (∀ x ∈ xs, reshape (shA P 8 e) x = x ∧ (cells x).length = sizeA P e ∧ (cells x).all oneCell) := by
  obtain ⟨c1, c2, c3, c4⟩ := hc
  obtain ⟨z, z', hz1, hz2, hz3, rfl⟩ := zerosA_inv hz
  obtain ⟨cz, hzv, hzr⟩ := zero_cells (g := g) (w := w) hz1
  have hcz : cz.cells.size = sizeA P e := by
    have := (fit_cells hz2 hzv).1
    rw [hz3] at this; simpa using this.symm
  have hvl := zeros_made hzv hz2 len (by rw [hz3, hcz])
  obtain ⟨p1, p2⟩ := hps
  obtain ⟨cur', f1, f2, f3, f4⟩ := fill_sound hf p1 p2 hvl
  have hw : ∀ x ∈ List.replicate len z', (cells x).length = sizeA P e := fun x hx => by rw [(List.mem_replicate.1 hx).2, hz3]
  have hcl : cs.length = len * sizeA P e := by rw [f3, flat_len hw]; simp
  obtain ⟨k1, k2, k3⟩ := chunks_flat c4 c2 len cs hcl c3
  obtain ⟨x1, x2, x3, x4⟩ := fitAll_sound _ _ _ hx
  rw [← k1] at f2
  have hsz : cur'.size = len * sizeA P e := by
    have := f2.1; rw [k1, hcl] at this; simpa using this.symm
  have hu := tk_slice ht
  refine ⟨w.alloc (.cells cur' e), cur', ?_, (Below.refl _ _).alloc (Nat.le_refl _) _, heap_new _ _, x2 g _ f2, by rw [x3, k2], hsz, fun x hx => ⟨(x1 x hx).1, x4 _ k3 x hx, (x1 x hx).2⟩⟩
  have n1 : ¬ (len * sizeA P e > 2 ^ 24) := by omega
  have hso : (sizeOf e).run P w = .ok (sizeA P e) w := run_sizeOf_ne (by omega)
  by_cases hn : len * sizeA P e = 0
  · have hlen : len = 0 := by
      rcases Nat.mul_eq_zero.1 hn with h | h
      · exact h
      · omega
    subst hlen
    have e0 : ∀ f : Nat → Value, Array.map f (Array.range 0) = #[] := fun f => by apply Array.ext'; simp
    simp only [Nat.zero_mul, e0] at f1
    simp only [Instr.buildSlice, Sem.run_bind, run_underlying hu, Result.andThen_ok, hso, Nat.zero_mul, if_true, Sem.run_pure, e0]
    rw [if_neg (by omega)]
    simp only [Array.toList_map] at f1 ⊢
    simp [f1, newRow]
  · simp only [Instr.buildSlice, Sem.run_bind, run_underlying hu, Result.andThen_ok, hso, if_neg n1, if_neg hn, hzr, Sem.run_pure]
    rw [hcz] at f1
    simp only [hcz, Array.toList_map] at f1 ⊢
    simp [f1, newRow]
theorem makeSlice_sound (h : R g w hp) {t e : TypeId} (ht : tk P t = .slice e) {k k' : IntKind} {n : Int} (h0 : 0 ≤ n) {z z' : AV} (hz : zeroA P e = some z) (hz' : fit (shA P 8 e) z = some z') (hl : (cells z').length = sizeA P e) (hs : 0 < sizeA P e)
    (hlim : n.toNat * (bytesA P e + 1) < LIM) :
    Does P g w (Instr.makeSlice t (.int k n) (.int k' n)) (.oslice hp.length 0 n.toNat) (hp ++ [.grow e 0 (sizeA P e) (shA P 8 e) (List.replicate n.toNat z')]) := by
  obtain ⟨i, cz, hi, hcz, hcs⟩ := zero_info hz
  obtain ⟨cz', hzv, _⟩ := zero_cells (P := P) (g := g) (w := w) hz
  have hzv : VL g (cells z) cz.cells.toList := by
    unfold zeroA at hz; rw [infoF_eq] at hz
    rw [hi] at hz
    simp only [hcz, Option.map_some, Option.some.injEq] at hz
    subst hz
    exact ofConst_VL cz
  have hsi : i.size = sizeA P e := by simp [sizeA, infoF_eq, hi]
  have hbi : i.bytes = bytesA P e := by simp [bytesA, infoF_eq, hi]
  have hcsz : cz.cells.size = sizeA P e := by
    have := (fit_cells hz' hzv).1
    rw [hl] at this; simpa using this.symm
  have b1 : n.toNat ≤ n.toNat * (bytesA P e + 1) := Nat.le_mul_of_pos_right _ (by omega)
  have b2 : n.toNat * bytesA P e ≤ n.toNat * (bytesA P e + 1) := Nat.mul_le_mul_left _ (by omega)
  have hN : (bytesA P e : Int) * n = ((n.toNat * bytesA P e : Nat) : Int) := by
    rw [Int.natCast_mul, Int.mul_comm]; congr 1; omega
  unfold LIM at hlim
  have hrun := run_make (P := P) w t e i cz (tk_slice ht) hi hcz k k' n n h0 (Int.le_refl _) (by rw [hbi, hN]; omega) (by omega)
  rw [hsi] at hrun
  have hlen : (List.replicate n.toNat z').length = n.toNat := by simp
  have hvl := zeros_made hzv hz' n.toNat (by rw [hl, hcsz])
  obtain ⟨f1, _, f3, f4⟩ := fit_sound _ _ _ hz'
  have hmade : madeCells cz.cells (n.toNat * sizeA P e) = (Array.range (n.toNat * cz.cells.size)).map (cz.cells[· % cz.cells.size]!) := by unfold madeCells; rw [hcsz]
  obtain ⟨g', hle, hR, hV⟩ := grow_new (w' := w.alloc (.cells (madeCells cz.cells (n.toNat * sizeA P e)) e)) h ((Below.refl _ _).alloc (Nat.le_refl _) _) (heap_new _ _) (c := n.toNat) (sz := sizeA P e) (sh := shA P 8 e) (xs := List.replicate n.toNat z')
    (by rw [size_madeCells]) hs (by rw [hlen]; exact Nat.le_refl _) (by
      rw [hmade, List.take_of_length_le (by simp; rw [hcsz]; exact Nat.le_refl _)]
      exact hvl) (fun x hx => by rw [(List.mem_replicate.1 hx).2]; exact ⟨f1, hl, f4⟩) (by rw [hlen]; unfold LIM; omega)
  rw [hlen] at hV
  exact ⟨_, _, g', hrun, hle, hR, hV⟩
theorem zeroCells_made (z : Array Value) (n : Nat) : Builtin.zeroCells z n = (Array.range (n * z.size)).map (z[· % z.size]!) := rfl
theorem appendZ_sound (h : R g w hp) {t tx ty : TypeId} (htx : isIntT P tx = true) {s x v : AV} {hp' : List Ob} {c : Cls} (hc : appendZ none P t s x hp (fun v h c => some (v, h, c)) = some (v, hp', c)) {cs cx : Value} (hs : V g s cs) (hx : V g x cx) :
    Does P g w (Builtin.append_ #[t, tx] ty #[cs, cx]) v hp' := by
  obtain ⟨kn, htn⟩ : ∃ k, P.underlying tx = some (.int k) := by
    unfold isIntT at htx
    split at htx
    · rename_i k hk; exact ⟨k, tk_int hk⟩
    · simp at htx
  unfold appendZ at hc
  split at hc
  · rename_i e k n ht
    split at hc
    · rename_i z hz
      split at hc
      · rename_i z' hz'
        split at hc
        · rename_i hl
          obtain ⟨h0, hc⟩ := ask_some hc
          simp only [decide_eq_true_eq] at h0
          replace hc := newGrow_inv hc
          obtain ⟨z2, _, _, _, hlim, rfl, rfl, rfl⟩ := hc
          cases hs
          have e1 := int_inv hx
          subst e1
          obtain ⟨i, cz, hi, hcz, hcs⟩ := zero_info hz
          have hzv : VL g (Cx.cells z) cz.cells.toList := by
            unfold zeroA at hz; rw [infoF_eq] at hz
            rw [hi] at hz
            simp only [hcz, Option.map_some, Option.some.injEq] at hz
            subst hz
            exact ofConst_VL cz
          have hsi : i.size = sizeA P e := by simp [sizeA, infoF_eq, hi]
          have hbi : i.bytes = bytesA P e := by simp [bytesA, infoF_eq, hi]
          have hcsz : cz.cells.size = sizeA P e := by
            have := (fit_cells hz' hzv).1
            rw [hl.1] at this; simpa using this.symm
          obtain ⟨m, rfl⟩ : ∃ m : Nat, n = (m : Int) := ⟨n.toNat, by omega⟩
          have hm : 0 < m := by omega
          simp only [Int.toNat_natCast, List.length_replicate] at hlim ⊢
          have b1 : m ≤ m * (bytesA P e + 1) := Nat.le_mul_of_pos_right _ (by omega)
          have b2 : m * bytesA P e ≤ m * (bytesA P e + 1) := Nat.mul_le_mul_left _ (by omega)
          unfold LIM at hlim
          have h48 := growslice_fits (need := m) (old := 0) (bytes := i.bytes) hm (by rw [hbi]; omega)
          have hrun := Lib.run_append_grow_zeros (P := P) w t tx ty e i cz k kn (tk_slice ht) htn hi hcz none 0 0 [] rfl m hm (by rw [hsi]; exact hl.2) (by omega) (by omega) (by rw [hbi]; omega) (by simpa using h48)
          simp only [Nat.zero_add] at hrun
          have hge := grownCap_ge w m 0 e
          obtain ⟨f1, _, f3, f4⟩ := fit_sound _ _ _ hz'
          have hvl := zeros_made hzv hz' m (by rw [hl.1, hcsz])
          rw [← zeroCells_made] at hvl
          have hzsz : (Builtin.zeroCells cz.cells m).size = m * sizeA P e := by rw [size_zeroCells', hcsz]
          have hlen : (List.replicate m z').length = m := by simp
          obtain ⟨g', hle, hR, hV⟩ := grow_new (w' := w.drew.alloc (.cells (([] : List Value).toArray ++ Builtin.zeroCells cz.cells m ++ Builtin.zeroCells cz.cells (grownCap w m 0 e - m)) e)) h ((Below.refl _ _).drew.alloc (Nat.le_refl _) _)
            (heap_new w.drew _) (c := grownCap w m 0 e) (sz := sizeA P e) (sh := shA P 8 e) (xs := List.replicate m z')
            (by simp only [Array.size_append, size_zeroCells', hcsz, List.size_toArray, List.length_nil, Nat.zero_add, ← Nat.add_mul]; congr 1; omega) hl.2 (by rw [hlen]; exact hge) (by
              rw [hlen]
              have e2 : (([] : List Value).toArray ++ Builtin.zeroCells cz.cells m ++ Builtin.zeroCells cz.cells (grownCap w m 0 e - m)).toList.take (m * sizeA P e) = (Builtin.zeroCells cz.cells m).toList := by
                simp only [Array.toList_append, List.nil_append]
                rw [List.take_append_of_le_length (by rw [Array.length_toList, hzsz]; exact Nat.le_refl _), List.take_of_length_le (by rw [Array.length_toList, hzsz]; exact Nat.le_refl _)]
              rw [e2]; exact hvl) (fun x hx => by rw [(List.mem_replicate.1 hx).2]; exact ⟨f1, hl.1, f4⟩) (by rw [hlen]; unfold LIM; omega)
          rw [hlen] at hV
          exact ⟨_, _, g', hrun, hle, hR, hV⟩
        · simp at hc
      · simp at hc
    · simp at hc
  · simp at hc
theorem appendA_sound (h : R g w hp) {t tx ty : TypeId} {s x v : AV} {hp' : List Ob} {c : Cls} (hc : appendA none P t tx s x hp (fun v h c => some (v, h, c)) = some (v, hp', c)) {cs cx : Value} (hs : V g s cs) (hx : V g x cx) :
    Does P g w (Builtin.append_ #[t, tx] ty #[cs, cx]) v hp' := by
  unfold appendA at hc
  split at hc
  · rename_i hi; exact appendZ_sound h hi hc hs hx
  · exact appendB_sound h hc hs hx
theorem giveUp_sound0 (h : R g w hp) {β : Type} {x : AV} {K : AV → List Ob → Cls → Option β} {r : β} (hc : giveUpA none x hp K = some r) {cx : Value} (hx : V g x cx) :
    ∃ g' y hp' c, g.le g' ∧ R g' w hp' ∧ V g' y cx ∧ K y hp' c = some r := by
  unfold giveUpA at hc
  split at hc
  · rename_i id ver len
    split at hc
    · rename_i hfz
      obtain ⟨sz, sh, xs, he, rfl, hk⟩ := grownR_inv hc
      have he : hp[id]? = some (.froz ver sz sh xs) := by
        rcases he with ⟨ty, he⟩ | he
        · simp [isFroz, he] at hfz
        · exact he
      exact ⟨g, _, hp, _, Gh.le.refl g, h, h.frozV he hx, hk⟩
    obtain ⟨tyo, sz', sh', xs, hg, rfl, hk⟩ := grown_inv hc
    obtain ⟨g', j1, j2, j3, j4⟩ := h.give hg
    exact ⟨g', _, _, _, j1, j2, j3 _ _ rfl hx, hk⟩
  · exact ⟨g, _, hp, _, Gh.le.refl g, h, hx, hc⟩
mutual
theorem frzVA_sound {β : Type} {w : World} : ∀ (x : AV) {g : Gh} {hp : List Ob} {cv : Value} {r : β} {K : AV → List Ob → Option β}, frzVA none x hp K = some r → R g w hp → V g x cv →
    ∃ g' y hp', g.le g' ∧ R g' w hp' ∧ V g' y cv ∧ K y hp' = some r
  | .oslice id ver len, g, hp, cv, r, K, h, hR, hV => by
    unfold frzVA at h
    obtain ⟨g', y, hp', c, h1, h2, h3, h4⟩ := giveUp_sound0 hR h hV
    exact ⟨g', y, hp', h1, h2, h3, h4⟩
  | .agg cs, g, hp, cv, r, K, h, hR, hV => by
    unfold frzVA at h
    cases hV with
    | agg _ vs hl hv =>
      obtain ⟨g', ys, hp', h1, h2, h3, h4⟩ := frzVL_sound cs (vs := vs.toList) h hR ⟨by simpa using hl, fun i c v e1 e2 => hv i c v e1 (by simpa using e2)⟩
      exact ⟨g', _, hp', h1, h2, .agg ys vs (by simpa using h3.1) (fun i c v e1 e2 => h3.2 i c v e1 (by simpa using e2)), h4⟩
  | .tuple .., g, hp, cv, r, K, h, hR, hV
  | .int .., g, hp, cv, r, K, h, hR, hV | .bool .., g, hp, cv, r, K, h, hR, hV | .str .., g, hp, cv, r, K, h, hR, hV | .ptr .., g, hp, cv, r, K, h, hR, hV | .nilptr, g, hp, cv, r, K, h, hR, hV
  | .rptr .., g, hp, cv, r, K, h, hR, hV | .nilsl, g, hp, cv, r, K, h, hR, hV | .slice .., g, hp, cv, r, K, h, hR, hV | .fslice .., g, hp, cv, r, K, h, hR, hV | .optr .., g, hp, cv, r, K, h, hR, hV
  | .func .., g, hp, cv, r, K, h, hR, hV | .nilfunc, g, hp, cv, r, K, h, hR, hV | .nilIface, g, hp, cv, r, K, h, hR, hV | .junk, g, hp, cv, r, K, h, hR, hV => ⟨g, _, hp, Gh.le.refl g, hR, hV, by simpa [frzVA] using h⟩
theorem frzVL_sound {β : Type} {w : World} : ∀ (l : List AV) {g : Gh} {hp : List Ob} {vs : List Value} {r : β} {K : List AV → List Ob → Option β}, frzVL none l hp K = some r → R g w hp → VL g l vs →
    ∃ g' ys hp', g.le g' ∧ R g' w hp' ∧ VL g' ys vs ∧ K ys hp' = some r
  | [], g, hp, vs, r, K, h, hR, hV => ⟨g, [], hp, Gh.le.refl g, hR, hV, by simpa [frzVL] using h⟩
  | x :: l, g, hp, vs, r, K, h, hR, hV => by
    unfold frzVL at h
    obtain ⟨v, vs, rfl, h1, h2⟩ := hV.cons_inv
    obtain ⟨g1, y, hp1, i1, i2, i3, i4⟩ := frzVA_sound x h hR h1
    obtain ⟨g2, ys, hp2, j1, j2, j3, j4⟩ := frzVL_sound l i4 i2 (h2.mono i1)
    exact ⟨g2, y :: ys, hp2, i1.trans j1, j2, VL.cons (i3.mono j1) j3, j4⟩
end
theorem PO.mono {g g' : Gh} (h : g.le g') {ps : List (Nat × AV)} {cps : List (Nat × Value)} (k : PO g ps cps) : PO g' ps cps := ⟨k.1, fun i p q a b => ⟨(k.2 i p q a b).1, (k.2 i p q a b).2.mono h⟩⟩
theorem frzPs_sound {β : Type} {w : World} : ∀ (l : List (Nat × AV)) {g : Gh} {hp : List Ob} {cps : List (Nat × Value)} {r : β} {K : List (Nat × AV) → List Ob → Option β}, frzPs none l hp K = some r → R g w hp → PO g l cps →
    ∃ g' ys hp', g.le g' ∧ R g' w hp' ∧ PO g' ys cps ∧ K ys hp' = some r
  | [], g, hp, cps, r, K, h, hR, hV => ⟨g, [], hp, Gh.le.refl g, hR, hV, by simpa [frzPs] using h⟩
  | (i, x) :: l, g, hp, cps, r, K, h, hR, hV => by
    unfold frzPs at h
    cases cps with
    | nil => have := hV.1; simp at this
    | cons q cps =>
      obtain ⟨e0, h1⟩ := hV.2 0 _ _ rfl rfl
      have h2 : PO g l cps := ⟨by have := hV.1; simpa using this, fun i p q a b => hV.2 (i + 1) p q (by simpa using a) (by simpa using b)⟩
      obtain ⟨g1, y, hp1, i1, i2, i3, i4⟩ := frzVA_sound x h hR h1
      obtain ⟨g2, ys, hp2, j1, j2, j3, j4⟩ := frzPs_sound l i4 i2 (h2.mono i1)
      refine ⟨g2, (i, y) :: ys, hp2, i1.trans j1, j2, ⟨by simp [j3.1], fun k p q' a b => ?_⟩, j4⟩
      cases k with
      | zero => simp at a b; subst a b; exact ⟨e0, i3.mono j1⟩
      | succ k => exact j3.2 k p q' (by simpa using a) (by simpa using b)
theorem giveUp_sound (h : R g w hp) {x v : AV} {hp' : List Ob} {c : Cls} (hc : giveUpA none x hp (fun v h c => some (v, h, c)) = some (v, hp', c)) {cx : Value} (hx : V g x cx) {s : Sem Value} (hs : s.run P w = .ok cx w) : Does P g w s v hp' := by
  unfold giveUpA at hc
  split at hc
  · rename_i id ver len
    split at hc
    · rename_i hfz
      obtain ⟨sz, sh, xs, he, rfl, hk⟩ := grownR_inv hc
      have he : hp[id]? = some (.froz ver sz sh xs) := by
        rcases he with ⟨ty, he⟩ | he
        · simp [isFroz, he] at hfz
        · exact he
      simp only [Option.some.injEq, Prod.mk.injEq] at hk; obtain ⟨rfl, rfl, rfl⟩ := hk
      exact ⟨cx, w, g, hs, Gh.le.refl g, h, h.frozV he hx⟩
    obtain ⟨tyo, sz', sh', xs, hg, rfl, hk⟩ := grown_inv hc
    simp only [Option.some.injEq, Prod.mk.injEq] at hk; obtain ⟨rfl, rfl, rfl⟩ := hk
    obtain ⟨g', j1, j2, j3, j4⟩ := h.give hg
    exact ⟨cx, w, g', hs, j1, j2, j3 _ _ rfl hx⟩
  · simp only [Option.some.injEq, Prod.mk.injEq] at hc; obtain ⟨rfl, rfl, rfl⟩ := hc
    exact ⟨cx, w, g, hs, Gh.le.refl g, h, hx⟩
end
end Go.Cx

end
