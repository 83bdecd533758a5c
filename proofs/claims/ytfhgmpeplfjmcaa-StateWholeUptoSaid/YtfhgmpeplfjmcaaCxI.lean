/- Single operations: places, conversions. -/
import Derived.Test.YtfhgmpeplfjmcaaCxH
namespace Go.Cx
open Go.RowKit (Below)
set_option linter.unusedSimpArgs false
section
variable {P : Program} {g : Gh} {w : World} {hp : List Ob}
theorem pickIx_inv {β : Type} {i : Int} {K : Nat → Option β} {r : β} : ∀ {n : Nat}, pickIx none i K n = some r → ∃ m, m < n ∧ i = m ∧ K m = some r
  | 0, h => by simp [pickIx] at h
  | n + 1, h => by
    unfold pickIx at h
    cases hd : decide (i = n) with
    | true => rw [hd] at h; simp at hd; exact ⟨n, by omega, hd, h⟩
    | false => rw [hd] at h; obtain ⟨m, h1, h2, h3⟩ := pickIx_inv h; exact ⟨m, by omega, h2, h3⟩
theorem run_sizeOf_ne {e : TypeId} (h : sizeA P e ≠ 0) : (sizeOf e).run P w = .ok (sizeA P e) w := by
  cases hi : P.info? e with
  | none => simp [sizeA, infoF_eq, hi] at h
  | some i => exact run_sizeOf hi w
theorem els_rptr {sz : Nat} {sh : Sh} {xs : List AV} {vs : List Value} {b o : Nat} (hvl : VL g (flat xs) vs) (hat : At g b o vs) (hel : ∀ x ∈ xs, reshape sh x = x ∧ (cells x).length = sz ∧ (cells x).all oneCell) {i : Nat} (hi : i < xs.length) :
    V g (.rptr (cells (elemAt sh xs i))) (.pointer (some ⟨b, o + i * sz, none⟩)) := by
  have hx : xs[i]? = some xs[i] := by simp [hi]
  have hw : ∀ x ∈ xs, (cells x).length = sz := fun x hx => (hel x hx).2.1
  rw [elemAt_eq (fun x hx => (hel x hx).1) hx]
  have hv := (hvl.drop (i * sz)).take sz
  rw [flat_seg hw hx] at hv
  refine .rptr _ _ b _ hv.1 hv.2 fun j v hj => ?_
  rw [List.getElem?_take, List.getElem?_drop] at hj
  split at hj
  · have := hat _ v hj; rwa [Nat.add_assoc]
  · simp at hj
theorem add_at (b o n : Nat) : (⟨b, o, none⟩ : Addr).add n = ⟨b, o + n, none⟩ := add_none b o n
theorem indexAddrA_sound {t : TypeId} {x i v : AV} (hi : indexAddrA none P t x i some = some v) {cx ci : Value} (hx : V g x cx) (hci : V g i ci) :
    ∃ cv, (Instr.indexAt t cx ci).run P w = .ok cv w ∧ V g v cv := by
  unfold indexAddrA at hi
  split at hi
  · rename_i k n
    cases int_inv hci
    split at hi
    · rename_i len e id off ht
      split at hi
      · simp at hi
      rename_i hs0
      replace hi := pickIx_inv hi
      obtain ⟨m, hm, rfl, hi⟩ := hi
      simp at hi; subst hi
      have hu := tk_array ht
      cases hx with
      | ptr _ _ b hb =>
        refine ⟨_, ?_, .ptr _ _ b hb⟩
        have hsz : (sizeOf e).run P w = .ok (sizeA P e) w := run_sizeOf_ne hs0
        simp [Instr.indexAt, asIntOf, run_underlying hu, Instr.sureAddr, hm, hsz, add_at]
    · rename_i len e cs ht
      split at hi
      · simp at hi
      rename_i hs0
      replace hi := pickIx_inv hi
      obtain ⟨m, hm, rfl, hi⟩ := hi
      simp at hi; subst hi
      have hu := tk_array ht
      cases hx with
      | rptr _ vs b o v1 v2 v3 =>
        have hv := (show VL g _ vs from ⟨v1, v2⟩).drop (m * sizeA P e)
        have hsz : (sizeOf e).run P w = .ok (sizeA P e) w := run_sizeOf_ne hs0
        exact ⟨_, by simp [Instr.indexAt, asIntOf, run_underlying hu, Instr.sureAddr, hm, hsz, add_at]; rfl, .rptr _ _ b _ hv.1 hv.2 fun j v hj => by
          rw [List.getElem?_drop] at hj
          have := v3 _ v hj; rwa [Nat.add_assoc]⟩
    · rename_i e sz sh xs kk ht
      split at hi
      · rename_i hs
        obtain ⟨hs, hs0⟩ := hs; subst hs
        replace hi := ask_some2 hi
        obtain ⟨h1, h2, hi⟩ := hi
        simp only [decide_eq_true_eq] at h1 h2
        simp at hi; subst hi
        have hu := tk_slice ht
        cases hx with
        | slice _ _ _ _ vs b o c v1 v2 v3 v4 v5 v6 =>
          refine ⟨_, ?_, els_rptr ⟨v1, v2⟩ v3 v4 (i := n.toNat) (by omega)⟩
          have hsz : (sizeOf e).run P w = .ok (sizeA P e) w := run_sizeOf_ne hs0
          simp [Instr.indexAt, asIntOf, run_underlying hu, h1, h2, hsz, add_at]
        | slice0 => simp at h2; omega
        | slice1 => simp at h2; omega
      · simp at hi
    · rename_i e sz sh xs ys ht
      split at hi
      · rename_i hs
        obtain ⟨hs, hs0⟩ := hs; subst hs
        replace hi := ask_some2 hi
        obtain ⟨h1, h2, hi⟩ := hi
        simp only [decide_eq_true_eq] at h1 h2
        simp at hi; subst hi
        have hu := tk_slice ht
        have hx' := fslice_weak hx
        cases hx with
        | fslice _ _ _ _ vs b o v1 v2 v3 v4 v5 =>
          cases hx' with
          | slice _ _ _ _ vs' _ _ c u1 u2 u3 u4 u5 u6 =>
            refine ⟨_, ?_, els_rptr ⟨u1, u2⟩ u3 u4 (i := n.toNat) (by omega)⟩
            have hsz : (sizeOf e).run P w = .ok (sizeA P e) w := run_sizeOf_ne hs0
            simp [Instr.indexAt, asIntOf, run_underlying hu, h1, h2, hsz, add_at]
          | slice1 => simp at h2; omega
      · simp at hi
    · rename_i e id ver len ht
      split at hi
      · rename_i hs0
        replace hi := ask_some2 hi
        obtain ⟨h1, h2, hi⟩ := hi
        simp only [decide_eq_true_eq] at h1 h2
        simp at hi; subst hi
        have hu := tk_slice ht
        cases hx with
        | oslice _ _ _ b c x e1 e2 =>
          refine ⟨_, ?_, .optr _ _ _ _ _ _ b c x e1 e2⟩
          have hsz : (sizeOf e).run P w = .ok (sizeA P e) w := run_sizeOf_ne hs0
          simp [Instr.indexAt, asIntOf, run_underlying hu, h1, h2, hsz, add_at]
        | oslice0 => simp at h2; omega
      · simp at hi
    · simp at hi
  · simp at hi
theorem indexA_sound {t : TypeId} {x i v : AV} (hi : indexA none P t x i some = some v) {cx ci : Value} (hx : V g x cx) (hci : V g i ci) :
    ∃ cv, (Instr.index t cx ci).run P w = .ok cv w ∧ V g v cv := by
  unfold indexA at hi
  split at hi
  · rename_i k n
    cases int_inv hci
    split at hi
    · rename_i s ht
      replace hi := ask_some2 hi
      obtain ⟨h1, h2, hi⟩ := hi
      simp only [decide_eq_true_eq] at h1 h2
      simp at hi; subst hi
      obtain ⟨rfl, _⟩ := str_inv hx
      refine ⟨_, ?_, .int _ _⟩
      have hlt : n.toNat < s.length := by omega
      have hget : (⟨⟨s⟩⟩ : ByteArray)[n.toNat]? = some (s.getD n.toNat 0) := by
        have e1 : (⟨⟨s⟩⟩ : ByteArray).size = s.length := rfl
        rw [getElem?_pos (⟨⟨s⟩⟩ : ByteArray) n.toNat (by rw [e1]; exact hlt)]
        congr 1
        rw [List.getD_eq_getElem?_getD, List.getElem?_eq_getElem hlt]
        rfl
      simp [Instr.index, asIntOf, run_underlying (tk_str ht), h1, hget]
    · rename_i len e cs ht
      split at hi
      · simp at hi
      rename_i hs0
      replace hi := pickIx_inv hi
      obtain ⟨m, hm, rfl, hi⟩ := hi
      cases hx with
      | agg _ vs v1 v2 =>
        obtain ⟨cv, hr, hV⟩ := (fromCells_sound (w := w) hi (vs := vs.toList) ⟨by simpa using v1, by simpa using v2⟩).2
        refine ⟨cv, ?_, hV⟩
        have hsz : (sizeOf e).run P w = .ok (sizeA P e) w := run_sizeOf_ne hs0
        simp only [Array.toArray_toList] at hr
        simp [Instr.index, asIntOf, run_underlying (tk_array ht), hm, hsz, hr]
    · simp at hi
  · simp at hi
theorem fieldAddrA_sound {t : TypeId} {x v : AV} {f : Nat} (hf : fieldAddrA none P t x f some = some v) {cx : Value} (hx : V g x cx) :
    ∃ cv, (Instr.fieldAt t cx f).run P w = .ok cv w ∧ V g v cv := by
  unfold fieldAddrA at hf
  split at hf
  · rename_i l ht
    obtain ⟨fs, hu, rfl⟩ := tk_struct ht
    split at hf
    · rename_i off u hl
      simp only [List.getElem?_map, Option.map_eq_some_iff] at hl
      obtain ⟨fl, hfl, he⟩ := hl
      simp only [Prod.mk.injEq] at he
      obtain ⟨rfl, rfl⟩ := he
      have hfl' : fs[f]? = some fl := by simpa using hfl
      split at hf
      · simp at hf
      · rename_i hsz
        have hso : ∃ i, P.info? fl.type = some i := by
          cases hi : P.info? fl.type with
          | none => simp [sizeA, infoF_eq, hi] at hsz
          | some i => exact ⟨i, rfl⟩
        obtain ⟨i, hi⟩ := hso
        have key : ∀ a : Addr, (Instr.fieldAt t (.pointer (some a)) f).run P w = .ok (.pointer (some (a.add fl.offset))) w := by
          intro a
          simp [Instr.fieldAt, run_underlying hu, hfl', Instr.sureAddr, fieldPlace, run_sizeOf hi, hsz]
        split at hf
        · simp at hf; subst hf
          cases hx with
          | ptr _ _ b hb => exact ⟨_, by rw [key, add_at], .ptr _ _ b hb⟩
        · simp at hf; subst hf
          cases hx with
          | rptr _ vs b o v1 v2 v3 =>
            have hv := (show VL g _ vs from ⟨v1, v2⟩).drop fl.offset
            exact ⟨_, by rw [key, add_at], .rptr _ _ b _ hv.1 hv.2 fun j v hj => by
              rw [List.getElem?_drop] at hj
              have := v3 _ v hj; rwa [Nat.add_assoc]⟩
        · simp at hf; subst hf
          cases hx with
          | optr _ _ _ _ _ _ b c x e1 e2 => exact ⟨_, by rw [key, add_at, Nat.add_assoc], .optr _ _ _ _ _ _ b c x e1 e2⟩
        · simp at hf
    · simp at hf
  · simp at hf
theorem fieldA_sound {t : TypeId} {x v : AV} {f : Nat} (hf : fieldA none P t x f some = some v) {cx : Value} (hx : V g x cx) :
    ∃ cv, (Instr.field t cx f).run P w = .ok cv w ∧ V g v cv := by
  unfold fieldA at hf
  split at hf
  · rename_i l ht
    obtain ⟨fs, hu, rfl⟩ := tk_struct ht
    split at hf
    · rename_i off u cs hl
      simp only [List.getElem?_map, Option.map_eq_some_iff] at hl
      obtain ⟨fl, hfl, he⟩ := hl
      simp only [Prod.mk.injEq] at he
      obtain ⟨rfl, rfl⟩ := he
      have hfl' : fs[f]? = some fl := by simpa using hfl
      cases hx with
      | agg _ vs v1 v2 =>
        obtain ⟨cv, hr, hV⟩ := (fromCells_sound (w := w) hf (vs := vs.toList) ⟨by simpa using v1, by simpa using v2⟩).2
        refine ⟨cv, ?_, hV⟩
        simp only [Array.toArray_toList] at hr
        simp [Instr.field, run_underlying hu, hfl', asAgg, hr]
    · simp at hf
  · simp at hf
theorem lenA_sound {t ty : TypeId} {x v : AV} (hl : lenA none P t x some = some v) {cx : Value} (hx : V g x cx) (args : Array Value) (h0 : args[0]? = some cx) (ts : Array TypeId) (hts : ts[0]? = some t) :
    ∃ cv, (Builtin.len_ ts ty args).run P w = .ok cv w ∧ V g v cv := by
  unfold lenA at hl
  split at hl
  · rename_i s ht
    obtain ⟨rfl, _⟩ := str_inv hx
    simp at hl; subst hl
    exact ⟨_, by simp only [Builtin.len_, hts, h0, Sem.run_bind, run_underlying (tk_str ht), Result.andThen_ok]; rfl, .int _ _⟩
  · rename_i n e ht
    simp at hl; subst hl
    exact ⟨_, by simp only [Builtin.len_, hts, h0]; simp [run_underlying (tk_array ht), goInt], .int _ _⟩
  · rename_i e ht
    cases hx
    simp at hl; subst hl
    exact ⟨_, by simp only [Builtin.len_, hts, h0]; simp [run_underlying (tk_slice ht), goInt], .int _ _⟩
  · rename_i e sz sh xs k ht
    simp at hl; subst hl
    cases hx <;> exact ⟨_, by simp only [Builtin.len_, hts, h0]; simp [run_underlying (tk_slice ht), goInt], .int _ _⟩
  · rename_i e sz sh xs ys ht
    simp at hl; subst hl
    cases hx; exact ⟨_, by simp only [Builtin.len_, hts, h0]; simp [run_underlying (tk_slice ht), goInt], .int _ _⟩
  · rename_i e id ver n ht
    simp at hl; subst hl
    cases hx <;> exact ⟨_, by simp only [Builtin.len_, hts, h0]; simp [run_underlying (tk_slice ht), goInt], .int _ _⟩
  · simp at hl
theorem capA_sound {t ty : TypeId} {x v : AV} (hl : capA none P t x some = some v) {cx : Value} (hx : V g x cx) (args : Array Value) (h0 : args[0]? = some cx) (ts : Array TypeId) (hts : ts[0]? = some t) :
    ∃ cv, (Builtin.cap_ ts ty args).run P w = .ok cv w ∧ V g v cv := by
  unfold capA at hl
  split at hl
  · rename_i e ht
    cases hx
    simp at hl; subst hl
    exact ⟨_, by simp only [Builtin.cap_, hts, h0]; simp [run_underlying (tk_slice ht), goInt], .int _ _⟩
  · rename_i e sz sh xs ys ht
    simp at hl; subst hl
    cases hx; exact ⟨_, by simp only [Builtin.cap_, hts, h0]; simp [run_underlying (tk_slice ht), goInt], .int _ _⟩
  · simp at hl
end
end Go.Cx
