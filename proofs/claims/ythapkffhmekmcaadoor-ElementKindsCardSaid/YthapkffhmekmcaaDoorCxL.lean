/- Single operations: places, conversions. -/
import Derived.Test.YthapkffhmekmcaaDoorCxH
import Derived.Lib.Builder
import Derived.Laws.BytesString
import Derived.Laws.AppendOwn
section
namespace Go.Cx
open Go.RowKit (Below)
set_option linter.unusedSimpArgs false

section
variable {P : Program} {g : Gh} {w : World} {hp : List Ob}

theorem pickIx_inv {β : Type} {i : Int} {K : Nat → Option β} {r : β} : ∀ {n : Nat}, pickIx none i K n = some r → ∃ m, m < n ∧ i = m ∧ K m = some r
  | 0, h => by simp [pickIx] at h
  | n + 1, h => by
    unfold pickIx at h
    cases hd : decide (i = n) with
    | true => rw [hd] at h; simp at hd; exact ⟨n, by omega, hd, h⟩
    | false => rw [hd] at h; obtain ⟨m, h1, h2, h3⟩ := pickIx_inv h; exact ⟨m, by omega, h2, h3⟩

theorem run_sizeOf_ne {e : TypeId} (h : sizeA P e ≠ 0) : (sizeOf e).run P w = .ok (sizeA P e) w := by
  cases hi : P.info? e with
  | none => simp [sizeA, infoF_eq, hi] at h
  | some i => exact run_sizeOf hi w

theorem els_rptr {sz : Nat} {sh : Sh} {xs : List AV} {vs : List Value} {b o : Nat} (hvl : VL g (flat xs) vs) (hat : At g b o vs) (hel : ∀ x ∈ xs, reshape sh x = x ∧ (cells x).length = sz ∧ (cells x).all oneCell) {i : Nat} (hi : i < xs.length) :
    V g (.rptr (cells (elemAt sh xs i))) (.pointer (some ⟨b, o + i * sz, none⟩)) := by
  have hx : xs[i]? = some xs[i] := by simp [hi]
  have hw : ∀ x ∈ xs, (cells x).length = sz := fun x hx => (hel x hx).2.1
  rw [elemAt_eq (fun x hx => (hel x hx).1) hx]
  have hv := (hvl.drop (i * sz)).take sz
  rw [flat_seg hw hx] at hv
  refine .rptr _ _ b _ hv.1 hv.2 fun j v hj => ?_
  rw [List.getElem?_take, List.getElem?_drop] at hj
  split at hj
  · have := hat _ v hj; rwa [Nat.add_assoc]
  · simp at hj

theorem add_at (b o n : Nat) : (⟨b, o, none⟩ : Addr).add n = ⟨b, o + n, none⟩ := add_none b o n

theorem indexAddrA_sound {t : TypeId} {x i v : AV} (hi : indexAddrA none P t x i some = some v) {cx ci : Value} (hx : V g x cx) (hci : V g i ci) :
    ∃ cv, (Instr.indexAt t cx ci).run P w = .ok cv w ∧ V g v cv := by
  unfold indexAddrA at hi
  split at hi
  · rename_i k n
    cases int_inv hci
    split at hi
    · rename_i len e id off ht
      split at hi
      · simp at hi
      rename_i hs0
      replace hi := pickIx_inv hi
      obtain ⟨m, hm, rfl, hi⟩ := hi
      simp at hi; subst hi
      have hu := tk_array ht
      cases hx with
      | ptr _ _ b hb =>
        refine ⟨_, ?_, .ptr _ _ b hb⟩
        have hsz : (sizeOf e).run P w = .ok (sizeA P e) w := run_sizeOf_ne hs0
        simp [Instr.indexAt, asIntOf, run_underlying hu, Instr.sureAddr, hm, hsz, add_at]
    · rename_i len e cs ht
      split at hi
      · simp at hi
      rename_i hs0
      replace hi := pickIx_inv hi
      obtain ⟨m, hm, rfl, hi⟩ := hi
      simp at hi; subst hi
      have hu := tk_array ht
      cases hx with
      | rptr _ vs b o v1 v2 v3 =>
        have hv := (show VL g _ vs from ⟨v1, v2⟩).drop (m * sizeA P e)
        have hsz : (sizeOf e).run P w = .ok (sizeA P e) w := run_sizeOf_ne hs0
        exact ⟨_, by simp [Instr.indexAt, asIntOf, run_underlying hu, Instr.sureAddr, hm, hsz, add_at]; rfl, .rptr _ _ b _ hv.1 hv.2 fun j v hj => by
          rw [List.getElem?_drop] at hj
          have := v3 _ v hj; rwa [Nat.add_assoc]⟩
    · rename_i e sz sh xs kk ht
      split at hi
      · rename_i hs
        obtain ⟨hs, hs0⟩ := hs; subst hs
        replace hi := ask_some2 hi
        obtain ⟨h1, h2, hi⟩ := hi
        simp only [decide_eq_true_eq] at h1 h2
        simp at hi; subst hi
        have hu := tk_slice ht
        cases hx with
        | slice _ _ _ _ vs b o c v1 v2 v3 v4 v5 v6 =>
          refine ⟨_, ?_, els_rptr ⟨v1, v2⟩ v3 v4 (i := n.toNat) (by omega)⟩
          have hsz : (sizeOf e).run P w = .ok (sizeA P e) w := run_sizeOf_ne hs0
          simp [Instr.indexAt, asIntOf, run_underlying hu, h1, h2, hsz, add_at]
        | slice0 => simp at h2; omega
        | slice1 => simp at h2; omega
      · simp at hi
    · rename_i e sz sh xs ys ht
      split at hi
      · rename_i hs
        obtain ⟨hs, hs0⟩ := hs; subst hs
        replace hi := ask_some2 hi
        obtain ⟨h1, h2, hi⟩ := hi
        simp only [decide_eq_true_eq] at h1 h2
        simp at hi; subst hi
        have hu := tk_slice ht
        have hx' := fslice_weak hx
        cases hx with
        | fslice _ _ _ _ vs b o v1 v2 v3 v4 v5 =>
          cases hx' with
          | slice _ _ _ _ vs' _ _ c u1 u2 u3 u4 u5 u6 =>
            refine ⟨_, ?_, els_rptr ⟨u1, u2⟩ u3 u4 (i := n.toNat) (by omega)⟩
            have hsz : (sizeOf e).run P w = .ok (sizeA P e) w := run_sizeOf_ne hs0
            simp [Instr.indexAt, asIntOf, run_underlying hu, h1, h2, hsz, add_at]
          | slice1 => simp at h2; omega
      · simp at hi
    · rename_i e id ver len ht
      split at hi
      · rename_i hs0
        replace hi := ask_some2 hi
        obtain ⟨h1, h2, hi⟩ := hi
        simp only [decide_eq_true_eq] at h1 h2
        simp at hi; subst hi
        have hu := tk_slice ht
        cases hx with
        | oslice _ _ _ b c x e1 e2 =>
          refine ⟨_, ?_, .optr _ _ _ _ _ _ b c x e1 e2⟩
          have hsz : (sizeOf e).run P w = .ok (sizeA P e) w := run_sizeOf_ne hs0
          simp [Instr.indexAt, asIntOf, run_underlying hu, h1, h2, hsz, add_at]
        | oslice0 => simp at h2; omega
      · simp at hi
    · simp at hi
  · simp at hi

theorem indexA_sound {t : TypeId} {x i v : AV} (hi : indexA none P t x i some = some v) {cx ci : Value} (hx : V g x cx) (hci : V g i ci) :
    ∃ cv, (Instr.index t cx ci).run P w = .ok cv w ∧ V g v cv := by
  unfold indexA at hi
  split at hi
  · rename_i k n
    cases int_inv hci
    split at hi
    · rename_i s ht
      replace hi := ask_some2 hi
      obtain ⟨h1, h2, hi⟩ := hi
      simp only [decide_eq_true_eq] at h1 h2
      simp at hi; subst hi
      obtain ⟨rfl, _⟩ := str_inv hx
      refine ⟨_, ?_, .int _ _⟩
      have hlt : n.toNat < s.length := by omega
      have hget : (⟨⟨s⟩⟩ : ByteArray)[n.toNat]? = some (s.getD n.toNat 0) := by
        have e1 : (⟨⟨s⟩⟩ : ByteArray).size = s.length := rfl
        rw [getElem?_pos (⟨⟨s⟩⟩ : ByteArray) n.toNat (by rw [e1]; exact hlt)]
        congr 1
        rw [List.getD_eq_getElem?_getD, List.getElem?_eq_getElem hlt]
        rfl
      simp [Instr.index, asIntOf, run_underlying (tk_str ht), h1, hget]
    · rename_i len e cs ht
      split at hi
      · simp at hi
      rename_i hs0
      replace hi := pickIx_inv hi
      obtain ⟨m, hm, rfl, hi⟩ := hi
      cases hx with
      | agg _ vs v1 v2 =>
        obtain ⟨cv, hr, hV⟩ := (fromCells_sound (w := w) hi (vs := vs.toList) ⟨by simpa using v1, by simpa using v2⟩).2
        refine ⟨cv, ?_, hV⟩
        have hsz : (sizeOf e).run P w = .ok (sizeA P e) w := run_sizeOf_ne hs0
        simp only [Array.toArray_toList] at hr
        simp [Instr.index, asIntOf, run_underlying (tk_array ht), hm, hsz, hr]
    · simp at hi
  · simp at hi

theorem fieldAddrA_sound {t : TypeId} {x v : AV} {f : Nat} (hf : fieldAddrA none P t x f some = some v) {cx : Value} (hx : V g x cx) :
    ∃ cv, (Instr.fieldAt t cx f).run P w = .ok cv w ∧ V g v cv := by
  unfold fieldAddrA at hf
  split at hf
  · rename_i l ht
    obtain ⟨fs, hu, rfl⟩ := tk_struct ht
    split at hf
    · rename_i off u hl
      simp only [List.getElem?_map, Option.map_eq_some_iff] at hl
      obtain ⟨fl, hfl, he⟩ := hl
      simp only [Prod.mk.injEq] at he
      obtain ⟨rfl, rfl⟩ := he
      have hfl' : fs[f]? = some fl := by simpa using hfl
      split at hf
      · simp at hf
      · rename_i hsz
        have hso : ∃ i, P.info? fl.type = some i := by
          cases hi : P.info? fl.type with
          | none => simp [sizeA, infoF_eq, hi] at hsz
          | some i => exact ⟨i, rfl⟩
        obtain ⟨i, hi⟩ := hso
        have key : ∀ a : Addr, (Instr.fieldAt t (.pointer (some a)) f).run P w = .ok (.pointer (some (a.add fl.offset))) w := by
          intro a
          simp [Instr.fieldAt, run_underlying hu, hfl', Instr.sureAddr, fieldPlace, run_sizeOf hi, hsz]
        split at hf
        · simp at hf; subst hf
          cases hx with
          | ptr _ _ b hb => exact ⟨_, by rw [key, add_at], .ptr _ _ b hb⟩
        · simp at hf; subst hf
          cases hx with
          | rptr _ vs b o v1 v2 v3 =>
            have hv := (show VL g _ vs from ⟨v1, v2⟩).drop fl.offset
            exact ⟨_, by rw [key, add_at], .rptr _ _ b _ hv.1 hv.2 fun j v hj => by
              rw [List.getElem?_drop] at hj
              have := v3 _ v hj; rwa [Nat.add_assoc]⟩
        · simp at hf; subst hf
          cases hx with
          | optr _ _ _ _ _ _ b c x e1 e2 => exact ⟨_, by rw [key, add_at, Nat.add_assoc], .optr _ _ _ _ _ _ b c x e1 e2⟩
        · simp at hf
    · simp at hf
  · simp at hf

theorem fieldA_sound {t : TypeId} {x v : AV} {f : Nat} (hf : fieldA none P t x f some = some v) {cx : Value} (hx : V g x cx) :
    ∃ cv, (Instr.field t cx f).run P w = .ok cv w ∧ V g v cv := by
  unfold fieldA at hf
  split at hf
  · rename_i l ht
    obtain ⟨fs, hu, rfl⟩ := tk_struct ht
    split at hf
    · rename_i off u cs hl
      simp only [List.getElem?_map, Option.map_eq_some_iff] at hl
      obtain ⟨fl, hfl, he⟩ := hl
      simp only [Prod.mk.injEq] at he
      obtain ⟨rfl, rfl⟩ := he
      have hfl' : fs[f]? = some fl := by simpa using hfl
      cases hx with
      | agg _ vs v1 v2 =>
        obtain ⟨cv, hr, hV⟩ := (fromCells_sound (w := w) hf (vs := vs.toList) ⟨by simpa using v1, by simpa using v2⟩).2
        refine ⟨cv, ?_, hV⟩
        simp only [Array.toArray_toList] at hr
        simp [Instr.field, run_underlying hu, hfl', asAgg, hr]
    · simp at hf
  · simp at hf

theorem lenA_sound {t ty : TypeId} {x v : AV} (hl : lenA none P t x some = some v) {cx : Value} (hx : V g x cx) (args : Array Value) (h0 : args[0]? = some cx) (ts : Array TypeId) (hts : ts[0]? = some t) :
    ∃ cv, (Builtin.len_ ts ty args).run P w = .ok cv w ∧ V g v cv := by
  unfold lenA at hl
  split at hl
  · rename_i s ht
    obtain ⟨rfl, _⟩ := str_inv hx
    simp at hl; subst hl
    exact ⟨_, by simp only [Builtin.len_, hts, h0, Sem.run_bind, run_underlying (tk_str ht), Result.andThen_ok]; rfl, .int _ _⟩
  · rename_i n e ht
    simp at hl; subst hl
    exact ⟨_, by simp only [Builtin.len_, hts, h0]; simp [run_underlying (tk_array ht), goInt], .int _ _⟩
  · rename_i e ht
    cases hx
    simp at hl; subst hl
    exact ⟨_, by simp only [Builtin.len_, hts, h0]; simp [run_underlying (tk_slice ht), goInt], .int _ _⟩
  · rename_i e sz sh xs k ht
    simp at hl; subst hl
    cases hx <;> exact ⟨_, by simp only [Builtin.len_, hts, h0]; simp [run_underlying (tk_slice ht), goInt], .int _ _⟩
  · rename_i e sz sh xs ys ht
    simp at hl; subst hl
    cases hx; exact ⟨_, by simp only [Builtin.len_, hts, h0]; simp [run_underlying (tk_slice ht), goInt], .int _ _⟩
  · rename_i e id ver n ht
    simp at hl; subst hl
    cases hx <;> exact ⟨_, by simp only [Builtin.len_, hts, h0]; simp [run_underlying (tk_slice ht), goInt], .int _ _⟩
  · simp at hl

theorem capA_sound {t ty : TypeId} {x v : AV} (hl : capA none P t x some = some v) {cx : Value} (hx : V g x cx) (args : Array Value) (h0 : args[0]? = some cx) (ts : Array TypeId) (hts : ts[0]? = some t) :
    ∃ cv, (Builtin.cap_ ts ty args).run P w = .ok cv w ∧ V g v cv := by
  unfold capA at hl
  split at hl
  · rename_i e ht
    cases hx
    simp at hl; subst hl
    exact ⟨_, by simp only [Builtin.cap_, hts, h0]; simp [run_underlying (tk_slice ht), goInt], .int _ _⟩
  · rename_i e sz sh xs ys ht
    simp at hl; subst hl
    cases hx; exact ⟨_, by simp only [Builtin.cap_, hts, h0]; simp [run_underlying (tk_slice ht), goInt], .int _ _⟩
  · simp at hl
end

end Go.Cx

end

section
namespace Go.Cx
open Go.RowKit (Below)
set_option linter.unusedSimpArgs false

section
variable {P : Program} {g : Gh} {w : World} {hp : List Ob}

theorem heap_new (w : World) (o : Obj) : (w.alloc o).heap[w.heap.size]? = some o := by
  show (w.heap.push o)[w.heap.size]? = _
  simp
theorem frozen_new {w : World} {b o : Nat} {vs : Array Value} {ty : TypeId} (h : w.heap[b]? = some (.cells vs ty (0, 0))) : w.frozen? ⟨b, o, none⟩ = false := by
  simp only [World.frozen?, h]; simp

theorem R.fresh (h : R g w hp) : (∀ i, own g i w.heap.size → gone hp[i]? = true) ∧ (∀ o, g.imm w.heap.size o = none) := by
  refine ⟨fun i ho => ?_, fun o => ?_⟩
  · cases hd : gone hp[i]? with
    | true => rfl
    | false => have := (h.own_lt hd ho).2.1; omega
  · cases hi : g.imm w.heap.size o with
    | none => rfl
    | some v => have := cell_lt (h.imm _ _ _ hi); omega

/-- A new block's cells stay as they are for good. -/
theorem R.addImm {w' : World} (h : R g w hp) (hb' : Below w.heap.size w w') {vs : Array Value} {ty : TypeId} {fz : Nat × Nat} (hb : w'.heap[w.heap.size]? = some (.cells vs ty fz)) :
    ∃ g', g.le g' ∧ R g' w' hp ∧ At g' w.heap.size 0 vs.toList := by
  obtain ⟨f1, f2⟩ := h.fresh
  have h' := h.grow hb'
  let g' : Gh := { g with imm := fun b o => if b = w.heap.size then vs[o]? else g.imm b o }
  have hle : g.le g' := ⟨rfl, rfl, rfl, fun b o hn => if_neg (fun (e : b = w.heap.size) => hn (by rw [e]; exact h.newFree)), fun b o v e => by
    show (if b = w.heap.size then vs[o]? else g.imm b o) = some v
    split
    · rename_i e1; subst e1; rw [f2 o] at e; simp at e
    · exact e, fun _ _ e => e, fun _ _ _ _ _ e => ⟨_, e, Hdr.refl _ _ _ _⟩⟩
  refine ⟨g', hle, ⟨h'.below, h'.base, h'.frz, fun b o v e => ?_, fun i => (h'.objs i).keep rfl rfl rfl hle (fun _ _ _ => rfl) (fun b o' ho hd e => ?_), h'.inj⟩, fun i v e => ?_⟩
  · have e2 : (if b = w.heap.size then vs[o]? else g.imm b o) = some v := e
    clear e
    split at e2
    · rename_i e1; subst e1
      simp only [World.cell?, hb]; simpa using e2
    · exact h'.imm b o v e2
  · show (if b = w.heap.size then vs[o']? else g.imm b o') = none
    have := (h.own_lt hd ho).2.1
    rw [if_neg (by omega)]; exact e
  · show (if w.heap.size = w.heap.size then vs[0 + i]? else _) = some v
    rw [if_pos rfl, Nat.zero_add]; simpa using e

theorem zero_run {t : TypeId} {z : AV} (hz : zeroA P t = some z) : ∃ i cz, P.info? t = some i ∧ i.zero = some cz ∧ V g z cz ∧ (zeroValue t).run P w = .ok cz w := by
  unfold zeroA at hz; rw [infoF_eq] at hz
  split at hz
  · rename_i i hi
    simp only [Option.map_eq_some_iff] at hz
    obtain ⟨cz, h1, rfl⟩ := hz
    exact ⟨i, cz, hi, h1, ofConst_V g cz, by simp [zeroValue, typeInfo, hi, h1]⟩
  · simp at hz

theorem newVar_run (t : TypeId) (v : Value) : (newVar t v).run P w = .ok ⟨w.heap.size, 0, none⟩ (w.alloc (.cells v.cells t)) := by
  simp [newVar, newRow]

/-- A new variable. -/
theorem box_sound (h : R g w hp) {x : AV} {cx : Value} (hx : V g x cx) (h1 : (cells x).all oneCell = true) (t : TypeId) :
    ∃ g', g.le g' ∧ R g' (w.alloc (.cells cx.cells t)) (hp ++ [.fix t (cells x)]) ∧ V g' (.ptr hp.length 0) (.pointer (some ⟨w.heap.size, 0, none⟩)) := by
  obtain ⟨hv, _⟩ := cells_V hx h1
  obtain ⟨f1, f2⟩ := h.fresh
  have hb : (w.alloc (.cells cx.cells t)).heap[w.heap.size]? = some (.cells cx.cells t (0, 0)) := heap_new _ _
  obtain ⟨g', hle, hblk, hR⟩ := (h.alloc (.cells cx.cells t)).addFix hb h.newFree f1 f2 hv (fun c hc => List.all_eq_true.1 h1 c hc) (fun o ho => frozen_new hb)
  exact ⟨g', hle, hR, .ptr _ _ _ hblk⟩

theorem bytes_ints : ∀ {xs : List AV} {vs : List Value}, (∀ x ∈ xs, reshape (.int .u8) x = x) → VL g xs vs → vs = (xs.map getI).map (Value.int .u8)
  | [], vs, _, h => by rw [h.nil_inv]; rfl
  | x :: xs, vs, hs, h => by
    obtain ⟨v, vs', rfl, h1, h2⟩ := h.cons_inv
    have e := hs x (by simp)
    simp only [reshape] at e
    rw [← e] at h1
    cases int_inv h1
    rw [bytes_ints (fun y hy => hs y (by simp [hy])) h2]
    rfl

theorem foldl_push (l : List UInt8) (b : ByteArray) : l.foldl (fun r x => r.push x) b = b ++ ⟨⟨l⟩⟩ := by
  induction l generalizing b with
  | nil => apply ByteArray.ext; simp
  | cons x l ih =>
    rw [List.foldl_cons, ih]
    apply ByteArray.ext
    obtain ⟨⟨d⟩⟩ := b
    simp [ByteArray.push]

theorem flat_one {xs : List AV} (h : ∀ x ∈ xs, (cells x).length = 1 ∧ reshape (.int .u8) x = x) : flat xs = xs := by
  induction xs with
  | nil => rfl
  | cons x xs ih =>
    rw [flat_cons, ih (fun y hy => h y (by simp [hy]))]
    have e := (h x (by simp)).2
    simp only [reshape] at e
    rw [← e]; rfl

theorem byte_fit (b : UInt8) : reshape (.int .u8) (byte b) = byte b ∧ (cells (byte b)).length = 1 ∧ (cells (byte b)).all oneCell = true := ⟨rfl, rfl, rfl⟩
theorem flat_bytes (l : List UInt8) : flat (l.map byte) = l.map byte := by
  apply flat_one
  intro x hx
  simp at hx
  obtain ⟨b, _, rfl⟩ := hx
  exact ⟨rfl, rfl⟩
theorem VL_bytes (g : Gh) (l : List UInt8) : VL g (l.map byte) (l.map fun b => .int .u8 b.toNat) := by
  refine ⟨by simp, fun i c v h1 h2 => ?_⟩
  simp only [List.getElem?_map] at h1 h2
  cases hl : l[i]? with
  | none => rw [hl] at h1; simp at h1
  | some b => rw [hl] at h1 h2; simp at h1 h2; subst h1 h2; exact .int _ _

theorem strBytes_run (e : TypeId) (l : List UInt8) :
    ∃ c w', l.length ≤ c ∧ (Conv.stringToBytes e ⟨⟨l⟩⟩).run P w = .ok (.slice (some ⟨w.heap.size, 0, none⟩) l.length c) w' ∧ Below w.heap.size w w' ∧
      (∃ fz, w'.heap[w.heap.size]? = some (.cells ((l.map fun b => Value.int .u8 b.toNat).toArray ++ Array.replicate (c - l.length) (.int .u8 0)) e fz) ∧ (∀ o, o < c → w'.frozen? ⟨w.heap.size, o, none⟩ = false) ∧ soft c fz) := by
  have e1 : (⟨⟨l⟩⟩ : ByteArray).size = l.length := rfl
  let c := (Question.appendCap l.length 0 e).cut (w.tape w.drawn (.appendCap l.length 0 e))
  have hc : l.length ≤ c := by simp only [c, Question.cut]; omega
  let cs := (l.map fun b => Value.int .u8 b.toNat).toArray ++ Array.replicate (c - l.length) (.int .u8 0)
  have hcs : cs.size = c := by simp [cs]; omega
  let w1 := w.drew.alloc (.cells cs e)
  have hb1 : w1.heap[w.heap.size]? = some (.cells cs e (0, 0)) := heap_new w.drew _
  refine ⟨c, w1.freeze ⟨w.heap.size, c, none⟩ 1, hc, ?_, ?_, (c, c + 1), ?_, ?_, .inr (Nat.le_refl _)⟩
  · have hsh : w1.shape? w.heap.size = some (e, c) := by simp [World.shape?, hb1, hcs]
    simp only [Conv.stringToBytes, Sem.run_bind, run_choose, e1, Question.forced, Bool.false_eq_true, if_false, Result.andThen_ok, newRow, run_newObj, Sem.run_pure, World.drew_eq, World.alloc_eq, markStringish, run_shape]
    simp only [World.size_drew, List.map_toArray]
    have : (w.drew.alloc (.cells ((l.map fun b => Value.int .u8 b.toNat).toArray ++ Array.replicate (c - l.length) (.int .u8 0)) e)).shape? w.heap.size = some (e, c) := hsh
    simp only [c] at this ⊢
    simp only [this]
    simp [w1, cs, c]
  · refine (show Below w.heap.size w w1 from (Below.refl _ _).drew.alloc (Nat.le_refl _) _).trans ⟨rfl, rfl, rfl, by simp [World.freeze, w1], fun k hk => ?_⟩
    simp only [World.freeze, Nat.one_ne_zero, if_false, Array.getElem?_modify]
    rw [if_neg (by omega)]
  · simp only [World.freeze, Nat.one_ne_zero, if_false, Array.getElem?_modify, if_true, hb1]
    simp [cs]
  · intro o ho
    simp only [World.frozen?, World.freeze, Nat.one_ne_zero, if_false, Array.getElem?_modify, if_true, hb1]
    simp
    omega

theorem beq_int8 {sh : Sh} (h : sh.beq (.int .u8) = true) : sh = .int .u8 := Sh.beq_eq _ _ h

theorem slice_str {sz : Nat} {sh : Sh} {xs : List AV} {cx : Value} (e : Els g w sz sh xs cx) (hsz : sz = 1 ∨ xs = []) (hsh : sh = .int .u8 ∨ xs = []) :
    (Conv.bytesToString cx).run P w = .ok (.string ⟨⟨bytesOf xs⟩⟩) w := by
  have h8 : ∀ x ∈ xs, (cells x).length = 1 ∧ reshape (.int .u8) x = x := by
    intro x hx
    have h1 := e.el x hx
    rcases hsz with rfl | rfl
    · rcases hsh with rfl | rfl
      · exact ⟨h1.2.1, h1.1⟩
      · simp at hx
    · simp at hx
  obtain ⟨a, c, hc, _, h0, h1⟩ := e.some
  subst hc
  cases a with
  | none => obtain ⟨rfl, rfl⟩ := h0 rfl; rfl
  | some a =>
    rcases h1 a rfl with rfl | ⟨b, o, vs, rfl, hv, hl⟩
    · rfl
    rw [flat_one h8] at hv
    have hvs := bytes_ints (fun x hx => (h8 x hx).2) hv
    have hlen : (xs.map getI).length = xs.length := by simp
    have hload : (loadCells ⟨b, o, none⟩ xs.length).run P w = .ok ((xs.map getI).map (Value.int .u8)).toArray w := by
      have := load_lies (P := P) hl
      rwa [hvs, List.length_map, List.length_map] at this
    rw [run_bytesToString w _ _ _ _ hload]
    congr 2
    have : ∀ (l : List Int) (r : ByteArray), l.foldl (fun r n => r.push (UInt8.ofNat n.toNat)) r = (l.map fun n => UInt8.ofNat n.toNat).foldl (fun r x => r.push x) r := by
      intro l
      induction l with
      | nil => intro r; rfl
      | cons n l ih => intro r; exact ih _
    rw [this, foldl_push]
    apply ByteArray.ext
    simp [bytesOf, toB, Function.comp_def]

theorem elems_cps {β : Type} {x : AV} {K : Nat → Sh → List AV → Cls → Option β} {r : β} (h : elems none hp x K = some r) :
    ∃ sz sh xs cl, elems none hp x (fun a b c d => some (a, b, c, d)) = some (sz, sh, xs, cl) ∧ K sz sh xs cl = some r := by
  unfold elems at h ⊢
  split at h
  · exact ⟨_, _, _, _, rfl, h⟩
  · exact ⟨_, _, _, _, rfl, h⟩
  · exact ⟨_, _, _, _, rfl, h⟩
  · replace h := grownR_inv h
    obtain ⟨sz, sh, xs, he, rfl, h⟩ := h
    refine ⟨sz, sh, xs, .read, ?_, h⟩
    rcases he with ⟨ty, he⟩ | he <;> simp [grownR, he, ask]
  · simp at h

theorem freeze_other {w : World} {a : Addr} {n k : Nat} (hk : k ≠ a.block) : (w.freeze a n).heap[k]? = w.heap[k]? := by
  unfold World.freeze
  split
  · rfl
  · simp only [Array.getElem?_modify]
    rw [if_neg (Ne.symm hk)]

theorem freeze_cell {w : World} {a : Addr} {n b o : Nat} : (w.freeze a n).cell? ⟨b, o, none⟩ = w.cell? ⟨b, o, none⟩ := by
  by_cases hb : b = a.block
  · subst hb
    unfold World.freeze
    split
    · rfl
    · unfold World.cell?
      simp only [Array.getElem?_modify, if_true]
      cases w.heap[a.block]? with
      | none => rfl
      | some o => cases o <;> rfl
  · exact cell_congr (freeze_other hb)

/-- An array is given up and marked as a text's. -/
theorem R.giveMark (h : R g w hp) {ty : TypeId} {id ver sz : Nat} {sh : Sh} {xs : List AV} (he : hp[id]? = some (.grow ty ver sz sh xs)) (hne : xs ≠ []) {cx : Value} (hx : V g (.oslice id ver xs.length) cx) :
    ∃ b c n e, cx = .slice (some ⟨b, 0, none⟩) xs.length c ∧ w.shape? b = some (e, n) ∧ ∃ g', g.le g' ∧ R g' (w.freeze ⟨b, n, none⟩ 1) (hp.set id .dead) ∧ V g' (.slice sz sh xs .ro) cx := by
  rcases h.growOK he with k | ⟨b, c, vs, fz, k⟩
  · exact absurd k.nil hne
  have hc := k.cur
  let seg := vs.toList.take (xs.length * sz)
  let g' : Gh := { g with imm := fun b' o => if b' = b then seg[o]? else g.imm b' o }
  have hle : g.le g' := ⟨rfl, rfl, rfl, fun b' o hn => if_neg (fun (e : b' = b) => hn (by rw [e]; exact k.base)), fun b' o v e => by
    show (if b' = b then seg[o]? else g.imm b' o) = some v
    split
    · rename_i e1; subst e1; rw [k.imm o] at e; simp at e
    · exact e, fun _ _ e => e, fun i _ _ _ _ e => ⟨_, e, Hdr.refl _ _ _ _⟩⟩
  have hs : V g' (.slice sz sh xs .ro) (.slice (some ⟨b, 0, none⟩) xs.length c) := by
    have hv := k.vl.mono hle
    exact .slice _ _ _ _ seg b 0 c hv.1 hv.2 (fun i v e => by show (if b = b then seg[0 + i]? else g.imm b (0 + i)) = some v; rw [if_pos rfl, Nat.zero_add]; exact e) k.sh k.le k.lim
  have hcx : cx = .slice (some ⟨b, 0, none⟩) xs.length c := by
    generalize hn : xs.length = n at hx hc hs ⊢
    cases hx with
    | oslice _ _ _ b' c' x hx hh =>
      rw [hc] at hx; cases hx
      rcases hh with hh | ⟨_, _, hh⟩
      · omega
      · have := hh rfl; simp at this; obtain ⟨rfl, rfl⟩ := this; rfl
    | oslice0 _ _ x hx hh =>
      rw [hc] at hx; cases hx
      rcases hh with hh | ⟨_, _, hh⟩
      · omega
      · have := (hh rfl).1; simp at this
  refine ⟨b, c, vs.size, ty, hcx, by simp [World.shape?, k.heap], g', hle, ?_, by rw [hcx]; exact hs⟩
  refine h.turn (b := b) hle (length_of_get he) (by rw [he]; simp) (.inr ⟨_, _, _, k.cur⟩) (fun _ _ => rfl) (fun _ _ => rfl) (fun b' o' v e => ?_) (fun b' o' hne e => ?_) (by simp [World.freeze]) (by simp [World.freeze]) (by simp [World.freeze]) (by simp [World.freeze]) (fun k _ hk => freeze_other hk) ⟨k.blk, trivial⟩ (fun e => by simp at e)
  · have e2 : (if b' = b then seg[o']? else g.imm b' o') = some v := e
    clear e
    split at e2
    · rename_i e1; subst e1
      right; exact ⟨rfl, by rw [freeze_cell]; have := k.lies o' v e2; rwa [Nat.zero_add] at this⟩
    · left; exact e2
  · show (if b' = b then seg[o']? else g.imm b' o') = none
    rw [if_neg hne]; exact e

/-- An array of one's own is marked as a text's, behind its last cell. -/
theorem R.mark (h : R g w hp) {ty : TypeId} {id ver sz : Nat} {sh : Sh} {xs : List AV} (he : hp[id]? = some (.grow ty ver sz sh xs)) (hne : xs ≠ []) {cx : Value} (hx : V g (.oslice id ver xs.length) cx) :
    ∃ b c n e, cx = .slice (some ⟨b, 0, none⟩) xs.length c ∧ w.shape? b = some (e, n) ∧ R g (w.freeze ⟨b, n, none⟩ 1) hp := by
  rcases h.growOK he with k | ⟨b, c, vs, fz, k⟩
  · exact absurd k.nil hne
  have hc := k.cur
  have hpos : 0 < xs.length := List.length_pos_iff.2 hne
  have hcx : cx = .slice (some ⟨b, 0, none⟩) xs.length c := by
    generalize hn : xs.length = n at hx hc hpos ⊢
    cases hx with
    | oslice _ _ _ b' c' x hx hh =>
      rw [hc] at hx; cases hx
      rcases hh with hh | ⟨_, _, hh⟩
      · omega
      · have := hh rfl; simp at this; obtain ⟨rfl, rfl⟩ := this; rfl
    | oslice0 _ _ x hx hh =>
      rw [hc] at hx; cases hx
      rcases hh with hh | ⟨_, _, hh⟩
      · omega
      · have := (hh rfl).1; simp at this
  refine ⟨b, c, vs.size, ty, hcx, by simp [World.shape?, k.heap], ?_⟩
  have hs : hp.set id (.grow ty ver sz sh xs) = hp := by
    apply List.ext_getElem?
    intro i
    rw [List.getElem?_set]
    split
    · rename_i e; subst e; rw [he, if_pos (length_of_get he)]
    · rfl
  have hb : (w.freeze ⟨b, vs.size, none⟩ 1).heap[b]? = some (.cells vs ty (if fz.1 == fz.2 then (vs.size, vs.size + 1) else (min fz.1 vs.size, max fz.2 (vs.size + 1)))) := by
    obtain ⟨lo, hi⟩ := fz
    simp only [World.freeze, Nat.one_ne_zero, if_false, Array.getElem?_modify, if_true, k.heap]
    rfl
  have hsoft : soft vs.size (if fz.1 == fz.2 then (vs.size, vs.size + 1) else (min fz.1 vs.size, max fz.2 (vs.size + 1))) := by
    right
    split
    · exact Nat.le_refl _
    · rename_i hlt
      rcases k.soft with e | e
      · exact absurd (by simpa using e) hlt
      · show vs.size ≤ min fz.1 vs.size; omega
  generalize (if fz.1 == fz.2 then (vs.size, vs.size + 1) else (min fz.1 vs.size, max fz.2 (vs.size + 1))) = fz2 at hb hsoft
  have hfr : ∀ o, o < vs.size → (w.freeze ⟨b, vs.size, none⟩ 1).frozen? ⟨b, o, none⟩ = false := by
    intro o ho
    obtain ⟨lo, hi⟩ := fz2
    simp only [World.frozen?, hb]
    rcases hsoft with e | e
    · simp only at e; subst e; simp only [Bool.and_eq_false_iff, decide_eq_false_iff_not]; omega
    · simp only at e; simp only [Bool.and_eq_false_iff, decide_eq_false_iff_not]; omega
  have := h.turn (g' := g) (w' := w.freeze ⟨b, vs.size, none⟩ 1) (b := b) (o := .grow ty ver sz sh xs) (Gh.le.refl g) (length_of_get he) (by rw [he]; simp) (.inr ⟨_, _, _, k.cur⟩) (fun _ _ => rfl) (fun _ _ => rfl) (fun _ _ _ e => .inl e) (fun _ _ _ e => e) (by simp [World.freeze]) (by simp [World.freeze]) (by simp [World.freeze]) (by simp [World.freeze]) (fun k _ hk => freeze_other hk)
    ⟨k.blk, .inr ⟨b, c, vs, fz2, k.cur, k.base, hb, k.size, k.pos, k.le, k.vl, k.sh, k.lim, k.imm, hfr, hsoft⟩⟩ (fun _ b' ho => by
      left
      rcases ho with ho | ⟨_, _, _, ho⟩
      · rw [k.blk] at ho; simp at ho
      · rw [k.cur] at ho; cases ho; rfl)
  rwa [hs] at this

theorem convA_sound (h : R g w hp) {own : Bool} {src dst : TypeId} {x v : AV} {hp' : List Ob} {c : Cls} (hc : convA none P own src dst x hp (fun v h c => some (v, h, c)) = some (v, hp', c)) {cx : Value} (hx : V g x cx) :
    Does P g w (convert src dst cx) v hp' := by
  unfold convA at hc
  split at hc
  · rename_i k0 k k1 n h1 h2
    simp at hc; obtain ⟨rfl, rfl, rfl⟩ := hc
    cases int_inv hx
    exact Does.pure h (by simp [convert, run_underlying (tk_int h1), run_underlying (tk_int h2), Conv.intToInt]) (.int _ _)
  · rename_i s h1 h2
    simp at hc; obtain ⟨rfl, rfl, rfl⟩ := hc
    obtain ⟨rfl, hl⟩ := str_inv hx
    exact Does.pure h (by simp [convert, run_underlying (tk_str h1), run_underlying (tk_str h2)]) hx
  · rename_i t id off h1 h2
    split at hc
    · rename_i ty cs he
      split at hc
      · rename_i hcond
        simp only [Option.some.injEq, Prod.mk.injEq] at hc; obtain ⟨rfl, rfl, rfl⟩ := hc
        have k := h.objs id
        rw [he] at k
        obtain ⟨k1, b, vs, fz, k2, k3, k4, k5, k6, k7, k8⟩ := k
        cases hx with
        | ptr _ _ b' hb =>
          rw [k2] at hb; cases hb
          obtain ⟨j, hj⟩ : ∃ j, P.info? t = some j := by
            cases hi : P.info? t with
            | none => simp [sizeA, infoF_eq, hi] at hcond
            | some j => exact ⟨j, rfl⟩
          have hsz : j.size ≠ 0 := by have := hcond.1; simpa [sizeA, infoF_eq, hj] using this
          have hlen : cs.length = vs.size := by have := k5.1; simpa using this
          exact Does.pure h (Lib.run_to_unsafe w ⟨b, off, none⟩ (tk_pointer h1) (tk_unsafe h2) hj hsz (e := ty) (cells := vs.size) (by simp [World.shape?, k4]) (by simp; omega)) (.ptr _ _ b k2)
      · simp at hc
    · simp at hc
  · rename_i u id off h1 h2
    split at hc
    · rename_i ty cs he
      split at hc
      · rename_i hcond
        simp only [Option.some.injEq, Prod.mk.injEq] at hc; obtain ⟨rfl, rfl, rfl⟩ := hc
        have k := h.objs id
        rw [he] at k
        obtain ⟨k1, b, vs, fz, k2, k3, k4, k5, k6, k7, k8⟩ := k
        cases hx with
        | ptr _ _ b' hb =>
          rw [k2] at hb; cases hb
          obtain ⟨j, hj⟩ := Option.isSome_iff_exists.1 (show (P.info? u).isSome = true by rw [← infoF_eq]; exact hcond.1)
          have hlen : cs.length = vs.size := by have := k5.1; simpa using this
          have hl := hcond.2
          rw [hlen] at hl
          exact Does.pure h (Lib.run_from_unsafe w ⟨b, off, none⟩ (tk_unsafe h1) (tk_pointer h2) hj (e := ty) (cells := vs.size) (by simp [World.shape?, k4]) hl) (.ptr _ _ b k2)
      · simp at hc
    · simp at hc
  · rename_i e s h1 h2
    split at hc
    · rename_i he
      obtain ⟨rfl, hl⟩ := str_inv hx
      obtain ⟨cc, w', hcc, hrun, hbel, ⟨fz, hblk, hfr, hsoft⟩⟩ := strBytes_run (P := P) (w := w) e s
      have hrun' : (convert src dst (.string ⟨⟨s⟩⟩)).run P w = .ok (.slice (some ⟨w.heap.size, 0, none⟩) s.length cc) w' := by
        simp only [convert, Sem.run_bind, run_underlying (tk_str h1), run_underlying (tk_slice h2), run_underlying (tk_int he), Result.andThen_ok]
        exact hrun
      have hel : ∀ x ∈ s.map byte, reshape (.int .u8) x = x ∧ (cells x).length = 1 ∧ (cells x).all oneCell := by
        intro x hx; simp at hx; obtain ⟨b, _, rfl⟩ := hx; exact byte_fit b
      have hlen : (s.map byte).length = s.length := by simp
      split at hc
      · simp at hc; obtain ⟨rfl, rfl, rfl⟩ := hc
        obtain ⟨f1, f2⟩ := h.fresh
        have hse : (((s.map fun b => Value.int .u8 b.toNat).toArray ++ Array.replicate (cc - s.length) (.int .u8 0)) : Array Value).size = cc := by simp; omega
        obtain ⟨g', hle, hcur, hR⟩ := (h.grow hbel).addGrow (sz := 1) (c := cc) (sh := .int .u8) (xs := s.map byte) hblk h.newFree f1 f2 (by simp; omega) (by omega) (by simpa using hcc)
          (by
            rw [flat_bytes, hlen, Nat.mul_one]
            have := VL_bytes g s
            simpa using this) hel (by simpa using hl) (fun o ho => hfr o (by simp at ho; omega)) (by rw [hse]; exact hsoft)
        rw [hlen] at hcur
        exact ⟨_, w', g', hrun', hle, hR, .oslice _ _ _ _ _ _ hcur (Hdr.refl _ _ _ _)⟩
      · simp at hc; obtain ⟨rfl, rfl, rfl⟩ := hc
        obtain ⟨g', hle, hR, hat⟩ := h.addImm hbel hblk
        refine ⟨_, w', g', hrun', hle, hR, ?_⟩
        have hv := VL_bytes g' s
        rw [← hlen]
        refine .slice _ _ _ _ (s.map fun b => .int .u8 b.toNat) w.heap.size 0 cc (by rw [flat_bytes]; exact hv.1) (by rw [flat_bytes]; exact hv.2) (fun i v hi => ?_) hel (by simpa using hcc) (by simpa using hl)
        refine hat i v ?_
        have := length_of_get hi
        simp only [Array.toList_append]
        rw [List.getElem?_append_left (by simpa using this)]
        simpa using hi
    · simp at hc
  · rename_i e e' id ver len h1 h2
    split at hc
    · rename_i he
      split at hc
      · rename_i hsd
        replace hc := grown_inv hc
        obtain ⟨ty, sz, sh, xs, ho, rfl, hc⟩ := hc
        split at hc
        · simp at hc
        · rename_i hemp
          split at hc
          · simp at hc; obtain ⟨rfl, rfl, rfl⟩ := hc
            have hsd' : src = dst := by simpa using hsd
            obtain ⟨b, c, n, ey, rfl, hsh, hR⟩ := h.mark ho (by simpa using hemp) hx
            refine ⟨_, _, g, ?_, Gh.le.refl g, hR, hx⟩
            subst hsd'
            simp [convert, run_underlying (tk_slice h1), run_underlying (tk_int he), markStringish, hsh]
          · simp at hc; obtain ⟨rfl, rfl, rfl⟩ := hc
            have hsd' : src = dst := by simpa using hsd
            obtain ⟨b, c, n, ey, rfl, hsh, g', hle, hR, hV⟩ := h.giveMark ho (by simpa using hemp) hx
            refine ⟨_, _, g', ?_, hle, hR, hV⟩
            subst hsd'
            simp [convert, run_underlying (tk_slice h1), run_underlying (tk_int he), markStringish, hsh]
      · simp at hc
    · simp at hc
  · rename_i e h1 h2
    split at hc
    · rename_i he
      have base : ∀ a l cc, (convert src dst (.slice a l cc)).run P w = (Conv.bytesToString (.slice a l cc)).run P w := fun a l cc => run_convert_bytes_string w src dst e a l cc (tk_slice h1) (tk_int he) (tk_str h2)
      split at hc
      · simp at hc; obtain ⟨rfl, rfl, rfl⟩ := hc
        cases hx
        exact Does.pure h (by rw [base]; rfl) (.str _ (by simp [TOP]))
      · obtain ⟨sz, sh, xs, cl, he', hc'⟩ := elems_cps hc
        have e' := elems_sound h he' hx
        split at hc'
        · rename_i hs
          simp at hc'; obtain ⟨rfl, rfl, rfl⟩ := hc'
          obtain ⟨a, cc, hcx, _⟩ := e'.some
          have hr := slice_str (P := P) e' (.inl hs.1) (.inl (beq_int8 hs.2))
          subst hcx
          exact Does.pure h (by rw [base]; exact hr) (.str _ (by simp [bytesOf]; exact e'.lim))
        · simp at hc'
    · simp at hc
  · simp at hc

end

end Go.Cx

end

section
namespace Go.Cx
set_option linter.unusedVariables false
open Go.RowKit (Below)
set_option linter.unusedSimpArgs false

section
variable {P : Program} {g : Gh} {w : World} {hp : List Ob}

theorem lenOf_els {sz : Nat} {sh : Sh} {xs : List AV} {cx : Value} (e : Els g w sz sh xs cx) : (Builtin.lenOf cx).run P w = .ok xs.length w := by
  obtain ⟨a, c, rfl, _⟩ := e.some
  rfl

/-- What may stand behind append's dots. -/
structure Src (P : Program) (g : Gh) (w : World) (s : Nat) (sh : Sh) (ys : List AV) (cy : Value) : Prop where
  len : ∀ w', (Builtin.lenOf cy).run P w' = .ok ys.length w'
  cells : ∃ vs, VL g (flat ys) vs ∧ ∀ w', (∀ b o v, w.cell? ⟨b, o, none⟩ = some v → w'.cell? ⟨b, o, none⟩ = some v) → (Builtin.firstCells s ys.length cy).run P w' = .ok (Array.mk vs) w'
  el : ∀ x ∈ ys, reshape sh x = x ∧ (Cx.cells x).length = s ∧ (Cx.cells x).all oneCell

theorem els_src {sz : Nat} {sh : Sh} {xs : List AV} {cx : Value} (e : Els g w sz sh xs cx) : Src P g w sz sh xs cx := by
  obtain ⟨a, c, hcx, hlc, h0, h1⟩ := e.some
  refine ⟨fun w' => by rw [hcx]; rfl, ?_, e.el⟩
  cases a with
  | none =>
    obtain ⟨rfl, rfl⟩ := h0 rfl
    exact ⟨[], VL.nil g, fun w' _ => by rw [hcx]; rfl⟩
  | some a =>
    rcases h1 a rfl with rfl | ⟨b, o, vs, rfl, hv, hl⟩
    · exact ⟨[], VL.nil g, fun w' _ => by rw [hcx]; simp [Builtin.firstCells, loadCells, loadCellsFrom]⟩
    refine ⟨vs, hv, fun w' hw => ?_⟩
    have hlen : xs.length * sz = vs.length := by rw [← hv.1, flat_len e.width]
    rw [hcx]
    simp only [Builtin.firstCells, hlen]
    exact load_lies (fun i v hi => hw _ _ _ (hl i v hi))

theorem str_src (s : List UInt8) : Src P g w 1 (.int .u8) (s.map byte) (.string ⟨⟨s⟩⟩) := by
  refine ⟨fun w' => by simp [Builtin.lenOf]; rfl, ⟨_, by rw [flat_bytes]; exact VL_bytes g s, fun w' _ => ?_⟩, fun x hx => ?_⟩
  · have e1 : (⟨⟨s⟩⟩ : ByteArray).extract 0 s.length = ⟨⟨s⟩⟩ := by
      apply ByteArray.ext
      simp [ByteArray.data_extract]
    simp only [Builtin.firstCells, List.length_map, e1]
    simp
  · simp at hx; obtain ⟨b, _, rfl⟩ := hx; exact byte_fit b

theorem srcA_sound (h : R g w hp) {x : AV} {K : Option (Nat × Sh) → List AV → Cls → Option (AV × List Ob × Cls)} {r : AV × List Ob × Cls} (hs : srcA none hp x K = some r) {cx : Value} (hx : V g x cx) :
    ∃ how ys c, K how ys c = some r ∧ ((how = none ∧ ys = [] ∧ cx = .slice none 0 0) ∨ ∃ s sh, how = some (s, sh) ∧ Src P g w s sh ys cx) := by
  unfold srcA at hs
  split at hs
  · obtain ⟨rfl, _⟩ := str_inv hx
    exact ⟨_, _, _, hs, .inr ⟨1, _, rfl, str_src _⟩⟩
  · cases hx; exact ⟨_, _, _, hs, .inl ⟨rfl, rfl, rfl⟩⟩
  · obtain ⟨sz, sh, xs, cl, he, hk⟩ := elems_cps hs
    exact ⟨_, _, _, hk, .inr ⟨sz, sh, rfl, els_src (elems_sound h he hx)⟩⟩

theorem nil_src (s : Nat) (sh : Sh) : Src P g w s sh [] (.slice none 0 0) :=
  ⟨fun w' => rfl, ⟨[], VL.nil g, fun w' _ => rfl⟩, fun x hx => by simp at hx⟩

def noInt (P : Program) (tx : TypeId) : Prop := ∃ d, P.underlying tx = some d ∧ ∀ k, d ≠ .int k

/-- append where there is room. -/
theorem append_room {t tx ty e : TypeId} (ht : P.underlying t = some (.slice e)) (htx : noInt P tx) (he : (P.info? e).isSome) {b len cap : Nat} {s : Nat} {sh : Sh} {ys : List AV} {cy : Value} (hs : s = sizeA P e) (hy : Src P g w s sh ys cy)
    (hroom : len + ys.length ≤ cap) {vs : Array Value} {ty' : TypeId} {fz : Nat × Nat} (hb : w.heap[b]? = some (.cells vs ty' fz)) (hf : ∀ o, o < vs.size → w.frozen? ⟨b, o, none⟩ = false) (hcap : cap * s ≤ vs.size) :
    ∃ new, VL g (flat ys) new ∧ (Builtin.append_ #[t, tx] ty #[.slice (some ⟨b, 0, none⟩) len cap, cy]).run P w = .ok (.slice (some ⟨b, 0, none⟩) (len + ys.length) cap) (w.setCells b (len * s) new) := by
  obtain ⟨d, hd, hni⟩ := htx
  obtain ⟨i, hi⟩ := Option.isSome_iff_exists.1 he
  obtain ⟨new, hv, hc⟩ := hy.cells
  refine ⟨new, hv, ?_⟩
  have h1 : ∀ v ∈ new, v.oneCell' = true := one_vals (by
    simp only [flat, List.all_flatMap, List.all_eq_true]
    intro x hx c hc
    exact List.all_eq_true.1 (hy.el x hx).2.2 c hc) hv
  have hlen : new.length = ys.length * s := by rw [← hv.1, flat_len (fun x hx => (hy.el x hx).2.1)]
  have hfit : len * s + new.length ≤ vs.size := by
    rw [hlen, ← Nat.add_mul]
    exact Nat.le_trans (Nat.mul_le_mul_right _ hroom) hcap
  have hst := store_own (P := P) b (len * s) hb hf new hfit h1
  have hw := hc w (fun _ _ _ h => h)
  subst hs
  simp only [Builtin.append_]
  simp only [List.getElem?_toArray, List.getElem?_cons_zero, List.getElem?_cons_succ, Sem.run_bind, run_underlying ht, Result.andThen_ok, run_sizeOf hi, run_underlying hd, Sem.run_pure]
  have hz : (match d with | .int k => true | x => false) = false := by
    cases d with
    | int k => exact absurd rfl (hni k)
    | _ => rfl
  simp only [hz, Bool.false_eq_true, if_false, hy.len w, Result.andThen_ok, if_pos hroom, Bool.not_false, if_true, Sem.run_bind, hw, add_none, Nat.zero_add, hst, Sem.run_pure]

/-- append where there is none: a new array. -/
theorem append_grow {t tx ty e : TypeId} (ht : P.underlying t = some (.slice e)) (htx : noInt P tx) {i : TypeInfo} (hi : P.info? e = some i) {z : Value} (hz : i.zero = some z) {base : Option Addr} {len cap : Nat} {s : Nat} {sh : Sh} {ys : List AV} {cy : Value} (hs : s = sizeA P e) (hy : Src P g w s sh ys cy)
    {olds : List Value} (hold : ∀ w', (∀ b o v, w.cell? ⟨b, o, none⟩ = some v → w'.cell? ⟨b, o, none⟩ = some v) → (Builtin.firstCells s len (.slice base len cap)).run P w' = .ok (Array.mk olds) w')
    (hroom : cap < len + ys.length) (hfit : (len + ys.length) * bytesA P e ≤ 140737488355328) (hlim : len + ys.length ≤ 9223372036854775807) :
    ∃ new c, VL g (flat ys) new ∧ len + ys.length ≤ c ∧ (Builtin.append_ #[t, tx] ty #[.slice base len cap, cy]).run P w = .ok (.slice (some ⟨w.heap.size, 0, none⟩) (len + ys.length) c)
      (w.drew.alloc (.cells (Array.mk olds ++ Array.mk new ++ Builtin.zeroCells z.cells (c - (len + ys.length))) e)) := by
  obtain ⟨d, hd, hni⟩ := htx
  obtain ⟨new, hv, hc⟩ := hy.cells
  refine ⟨new, grownCap w (len + ys.length) cap e, hv, grownCap_ge w _ _ _, ?_⟩
  have hb : bytesA P e = i.bytes := by simp [bytesA, infoF_eq, hi]
  rw [hb] at hfit
  have h48 := growslice_fits hroom hfit
  have hw := hc w.drew (fun _ _ _ h => h)
  have ho := hold w.drew (fun _ _ _ h => h)
  subst hs
  simp only [Builtin.append_]
  simp only [List.getElem?_toArray, List.getElem?_cons_zero, List.getElem?_cons_succ, Sem.run_bind, run_underlying ht, Result.andThen_ok, run_sizeOf hi, run_underlying hd, Sem.run_pure]
  have hz' : (match d with | .int k => true | x => false) = false := by
    cases d with
    | int k => exact absurd rfl (hni k)
    | _ => rfl
  have n1 : ¬ (len + ys.length ≤ cap) := by omega
  have n2 : ¬ (((len + ys.length : Nat) : Int) > IntKind.i64.max) := by simp [IntKind.max, IntKind.signed, IntKind.bits]; omega
  have n3 : ¬ (Builtin.nextslicecap (len + ys.length) cap * i.bytes > 2 ^ 48) := by omega
  have ti : (typeInfo e).run P w = .ok i w := run_typeInfo' hi w
  have ti' : (typeInfo e).run P w.drew = .ok i w.drew := run_typeInfo' hi w.drew
  have zi : (zeroValue e).run P w.drew = .ok z w.drew := by simp [zeroValue, typeInfo, hi, hz]
  simp only [hz', Bool.false_eq_true, if_false, hy.len w, Result.andThen_ok, if_neg n1, false_or, ti, if_neg n3, n2, false_and, Bool.not_false, if_true, run_choose, Question.forced, Sem.run_bind, World.drew_eq, ti', run_askRoom, ho, hw, zi, newRow, run_newObj, Sem.run_pure, World.alloc_eq, World.size_drew]
  rfl

theorem newGrow_inv {e : TypeId} {sz : Nat} {sh : Sh} {xs : List AV} {v : AV} {hp' : List Ob} {c : Cls} (h : newGrow none P e sz sh xs hp (fun v h c => some (v, h, c)) = some (v, hp', c)) :
    ∃ z, zeroA P e = some z ∧ (cells z).length = sz ∧ 0 < sz ∧ xs.length * (bytesA P e + 1) < LIM ∧ v = .oslice hp.length 0 xs.length ∧ hp' = hp ++ [.grow e 0 sz sh xs] ∧ c = .write := by
  unfold newGrow at h
  split at h
  · rename_i z hz
    split at h
    · rename_i hc
      obtain ⟨h1, h⟩ := ask_some h
      simp only [decide_eq_true_eq] at h1
      simp only [Option.some.injEq, Prod.mk.injEq] at h
      exact ⟨z, hz, hc.1, hc.2, h1, h.1.symm, h.2.1.symm, h.2.2.symm⟩
    · simp at h
  · simp at h

theorem cells_size {z : AV} {cz : Value} (h : V g z cz) (ho : ofConst cz = z) : cz.cells.size = (cells z).length := by
  subst ho
  cases cz with
  | agg cs => simp [ofConst, cells, Value.cells]
  | string s =>
    simp only [ofConst, ofCell, Value.cells]
    split <;> rfl
  | pointer a => cases a <;> rfl
  | slice a n c =>
    cases a with
    | none => cases n with
      | zero => cases c <;> rfl
      | succ n => rfl
    | some a => rfl
  | _ => rfl

theorem zero_info {t : TypeId} {z : AV} (hz : zeroA P t = some z) : ∃ i cz, P.info? t = some i ∧ i.zero = some cz ∧ cz.cells.size = (cells z).length := by
  unfold zeroA at hz; rw [infoF_eq] at hz
  split at hz
  · rename_i i hi
    simp only [Option.map_eq_some_iff] at hz
    obtain ⟨cz, h1, h2⟩ := hz
    exact ⟨i, cz, hi, h1, cells_size (g := ⟨0, default, fun _ => false, fun _ _ => none, fun _ => none, fun _ => none⟩) (h2 ▸ ofConst_V _ cz) h2⟩
  · simp at hz

theorem size_zeroCells' (z : Array Value) (n : Nat) : (Builtin.zeroCells z n).size = n * z.size := by simp [Builtin.zeroCells]

/-- A new array that may grow. -/
theorem grow_new (h : R g w hp) {w' : World} (hbel : Below w.heap.size w w') {vs : Array Value} {ty : TypeId} (hb : w'.heap[w.heap.size]? = some (.cells vs ty (0, 0))) {c sz : Nat} {sh : Sh} {xs : List AV}
    (hsz : vs.size = c * sz) (h0 : 0 < sz) (hle : xs.length ≤ c) (hcs : VL g (flat xs) (vs.toList.take (xs.length * sz))) (hel : ∀ x ∈ xs, reshape sh x = x ∧ (cells x).length = sz ∧ (cells x).all oneCell) (hlim : xs.length < LIM) :
    ∃ g', g.le g' ∧ R g' w' (hp ++ [.grow ty 0 sz sh xs]) ∧ V g' (.oslice hp.length 0 xs.length) (.slice (some ⟨w.heap.size, 0, none⟩) xs.length c) := by
  obtain ⟨f1, f2⟩ := h.fresh
  obtain ⟨g', hg, hcur, hR⟩ := (h.grow hbel).addGrow hb h.newFree f1 f2 hsz h0 hle hcs hel (LIM_TOP hlim) (fun o _ => frozen_new hb) (.inl rfl)
  exact ⟨g', hg, hR, .oslice _ _ _ _ _ _ hcur (Hdr.refl _ _ _ _)⟩

/-- append that lays a new array. -/
theorem grow_case (h : R g w hp) {t tx ty e : TypeId} (ht : P.underlying t = some (.slice e)) (htx : noInt P tx) {s : Nat} {sh : Sh} {xs ys : List AV} {cy : Value} (hs : s = sizeA P e) (hs0 : 0 < s) (hy : Src P g w s sh ys cy)
    {z : AV} (hz : zeroA P e = some z) (hzl : (cells z).length = s) (hlim : (xs ++ ys).length * (bytesA P e + 1) < LIM)
    {base : Option Addr} {cap : Nat} (hel : ∀ x ∈ xs, reshape sh x = x ∧ (cells x).length = s ∧ (cells x).all oneCell) {olds : List Value} (hov : VL g (flat xs) olds)
    (hold : ∀ w', (∀ b o v, w.cell? ⟨b, o, none⟩ = some v → w'.cell? ⟨b, o, none⟩ = some v) → (Builtin.firstCells s xs.length (.slice base xs.length cap)).run P w' = .ok (Array.mk olds) w')
    (hroom : cap < xs.length + ys.length) :
    ∃ w' g' c, (Builtin.append_ #[t, tx] ty #[.slice base xs.length cap, cy]).run P w = .ok (.slice (some ⟨w.heap.size, 0, none⟩) (xs.length + ys.length) c) w' ∧ Below w.heap.size w w' ∧
      ∃ vs, w'.heap[w.heap.size]? = some (.cells vs e (0, 0)) ∧ vs.size = c * s ∧ xs.length + ys.length ≤ c ∧ VL g (flat (xs ++ ys)) (vs.toList.take ((xs ++ ys).length * s)) ∧
        (∀ x ∈ xs ++ ys, reshape sh x = x ∧ (cells x).length = s ∧ (cells x).all oneCell) ∧ (xs ++ ys).length < LIM ∧ g' = g := by
  obtain ⟨i, cz, hi, hcz, hcs⟩ := zero_info hz
  have hlen : (xs ++ ys).length = xs.length + ys.length := by simp
  rw [hlen] at hlim
  have hm : xs.length + ys.length ≤ (xs.length + ys.length) * (bytesA P e + 1) := Nat.le_mul_of_pos_right _ (by omega)
  have hm2 : (xs.length + ys.length) * bytesA P e ≤ (xs.length + ys.length) * (bytesA P e + 1) := Nat.mul_le_mul_left _ (by omega)
  unfold LIM at hlim
  obtain ⟨new, c, hv, hc, hrun⟩ := append_grow (ty := ty) ht htx hi hcz hs hy hold hroom (by omega) (by omega)
  have hw1 : ∀ x ∈ xs, (cells x).length = s := fun x hx => (hel x hx).2.1
  have hw2 : ∀ x ∈ ys, (cells x).length = s := fun x hx => (hy.el x hx).2.1
  have l1 : olds.length = xs.length * s := by rw [← hov.1, flat_len hw1]
  have l2 : new.length = ys.length * s := by rw [← hv.1, flat_len hw2]
  refine ⟨_, g, c, hrun, (Below.refl _ _).drew.alloc (Nat.le_refl _) _, _, heap_new w.drew _, ?_, hc, ?_, ?_, by rw [hlen]; unfold LIM; omega, rfl⟩
  · simp only [Array.size_append, size_zeroCells', hcs, hzl]
    show olds.length + new.length + _ = _
    rw [l1, l2, ← Nat.add_mul, ← Nat.add_mul]; congr 1; omega
  · have : ((Array.mk olds ++ Array.mk new ++ Builtin.zeroCells cz.cells (c - (xs.length + ys.length))).toList.take ((xs ++ ys).length * s)) = olds ++ new := by
      simp only [Array.toList_append]
      rw [List.take_append_of_le_length (by simp [l1, l2, Nat.add_mul])]
      rw [List.take_of_length_le (by simp [l1, l2, Nat.add_mul])]
    rw [this, flat_append]
    exact hov.append hv
  · intro x hx
    simp at hx
    rcases hx with hx | hx
    · exact hel x hx
    · exact hy.el x hx
end

end Go.Cx

end
