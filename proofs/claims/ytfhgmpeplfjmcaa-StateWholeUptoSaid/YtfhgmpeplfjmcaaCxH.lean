/- Single operations: cuts, conversions. -/
import Derived.Test.YtfhgmpeplfjmcaaCxG
namespace Go.Cx
open Go.RowKit (Below)
set_option linter.unusedSimpArgs false
section
theorem ask_some2 {α : Type} {a b : Bool} {k : Option α} {v : α} (h : ask none a (ask none b k) = some v) : a = true ∧ b = true ∧ k = some v := by
  cases a <;> cases b <;> simp_all [ask]
theorem ask_some4 {α : Type} {a b c d : Bool} {k : Option α} {v : α} (h : ask none a (ask none b (ask none c (ask none d k))) = some v) : a = true ∧ b = true ∧ c = true ∧ d = true ∧ k = some v := by
  cases a <;> cases b <;> cases c <;> cases d <;> simp_all [ask]
theorem ask_some5 {α : Type} {a b c d e : Bool} {k : Option α} {v : α} (h : ask none a (ask none b (ask none c (ask none d (ask none e k)))) = some v) : a = true ∧ b = true ∧ c = true ∧ d = true ∧ e = true ∧ k = some v := by
  cases a <;> cases b <;> cases c <;> cases d <;> cases e <;> simp_all [ask]
end
section
variable {P : Program} {g : Gh} {w : World} {hp : List Ob}
structure Els (g : Gh) (w : World) (sz : Nat) (sh : Sh) (xs : List AV) (cx : Value) : Prop where
  some : ∃ a c, cx = .slice a xs.length c ∧ xs.length ≤ c ∧ (a = none → xs = [] ∧ c = 0) ∧ (∀ x, a = some x → xs = [] ∨ ∃ b o vs, x = ⟨b, o, none⟩ ∧ VL g (flat xs) vs ∧ Lies w b o vs)
  el : ∀ x ∈ xs, reshape sh x = x ∧ (cells x).length = sz ∧ (cells x).all oneCell
  lim : xs.length < TOP
theorem slice_els (h : R g w hp) {sz : Nat} {sh : Sh} {xs : List AV} {k : SK} {cx : Value} (hx : V g (.slice sz sh xs k) cx) : Els g w sz sh xs cx := by
  cases hx with
  | slice _ _ _ _ vs b o c h1 h2 h3 h4 h5 h6 =>
    exact ⟨⟨_, c, rfl, h5, fun e => by simp at e, fun x e => .inr ⟨b, o, vs, (Option.some.inj e).symm, ⟨h1, h2⟩, lies_at h.imm h3⟩⟩, h4, h6⟩
  | slice1 _ _ _ a c => exact ⟨⟨_, c, rfl, Nat.zero_le _, fun e => by simp at e, fun x _ => .inl rfl⟩, fun x hx => by simp at hx, by simp [TOP]⟩
  | slice0 => exact ⟨⟨none, 0, rfl, Nat.le_refl _, fun _ => ⟨rfl, rfl⟩, fun x e => by simp at e⟩, fun x hx => by simp at hx, by simp [TOP]⟩
theorem GrowOK.els {id ver sz : Nat} {sh : Sh} {xs : List AV} {b c : Nat} {vs : Array Value} {ty : TypeId} {fz : Nat × Nat} (k : GrowOK g w id ver sz sh xs b c vs ty fz) :
    Els g w sz sh xs (.slice (some ⟨b, 0, none⟩) xs.length c) :=
  ⟨⟨_, c, rfl, k.le, fun e => by simp at e, fun x e => .inr ⟨b, 0, _, (Option.some.inj e).symm, k.vl, k.lies⟩⟩, k.sh, k.lim⟩
theorem elems_sound (h : R g w hp) {x : AV} {sz : Nat} {sh : Sh} {xs : List AV} {c : Cls} (he : elems none hp x (fun sz sh xs c => some (sz, sh, xs, c)) = some (sz, sh, xs, c)) {cx : Value} (hx : V g x cx) :
    Els g w sz sh xs cx := by
  unfold elems at he
  split at he
  · simp at he; obtain ⟨rfl, rfl, rfl, rfl⟩ := he
    cases hx
    exact ⟨⟨none, 0, rfl, Nat.le_refl _, fun _ => ⟨rfl, rfl⟩, fun x e => by simp at e⟩, fun x hx => by simp at hx, by simp [TOP]⟩
  · simp at he; obtain ⟨rfl, rfl, rfl, rfl⟩ := he
    exact slice_els h hx
  · simp at he; obtain ⟨rfl, rfl, rfl, rfl⟩ := he
    exact slice_els h (fslice_weak hx)
  · obtain ⟨sz', sh', xs', e, rfl, he2⟩ := grownR_inv he
    clear he
    simp at he2; obtain ⟨rfl, rfl, rfl, rfl⟩ := he2
    rcases e with ⟨tyo, e⟩ | e
    rotate_left
    · exact slice_els h (h.frozV e hx)
    rcases h.growOK e with k | ⟨b, cc, vs, fz, k⟩
    · have := k.nil; subst this
      have := k.slice hx; subst this
      exact ⟨⟨none, 0, rfl, Nat.le_refl _, fun _ => ⟨rfl, rfl⟩, fun x _ => .inl rfl⟩, fun x hx => by simp at hx, by simp [TOP]⟩
    rw [k.slice hx]
    exact k.els
  · simp at he
theorem Els.width {sz : Nat} {sh : Sh} {xs : List AV} {cx : Value} (e : Els g w sz sh xs cx) : ∀ x ∈ xs, (cells x).length = sz := fun x hx => (e.el x hx).2.1
theorem Els.one {sz : Nat} {sh : Sh} {xs : List AV} {cx : Value} (e : Els g w sz sh xs cx) : (flat xs).all oneCell = true := by
  simp only [flat, List.all_flatMap, List.all_eq_true]
  intro x hx c hc
  exact List.all_eq_true.1 (e.el x hx).2.2 c hc
theorem one_vals : ∀ {cs : List AV} {vs : List Value}, cs.all oneCell = true → VL g cs vs → ∀ v ∈ vs, v.oneCell' = true
  | [], vs, _, h, v, hv => by rw [h.nil_inv] at hv; simp at hv
  | c :: cs, vs, h1, h, v, hv => by
    obtain ⟨x, vs', rfl, k1, k2⟩ := h.cons_inv
    simp only [List.all_cons, Bool.and_eq_true] at h1
    simp at hv
    rcases hv with rfl | hv
    · exact oneCell_V h1.1 k1
    · exact one_vals h1.2 k2 v hv
theorem Els.read {sz : Nat} {sh : Sh} {xs : List AV} {cx : Value} (e : Els g w sz sh xs cx) (n : Nat) (hn : xs.length = n) (s : Nat) (hs : s = sz ∨ xs = []) : ∃ vs, (Builtin.firstCells s n cx).run P w = .ok (Array.mk vs) w ∧ VL g (flat xs) vs := by
  subst hn
  obtain ⟨a, c, rfl, _, h0, h1⟩ := e.some
  cases a with
  | none => obtain ⟨rfl, rfl⟩ := h0 rfl; exact ⟨[], rfl, VL.nil g⟩
  | some a =>
    rcases h1 a rfl with rfl | ⟨b, o, vs, rfl, hv, hl⟩
    · exact ⟨[], by simp [Builtin.firstCells, loadCells, loadCellsFrom], VL.nil g⟩
    refine ⟨vs, ?_, hv⟩
    have hlen : xs.length * s = vs.length := by
      rcases hs with rfl | rfl
      · rw [← hv.1, flat_len e.width]
      · have := hv.1; simp [flat] at this; simp [← this]
    simp only [Builtin.firstCells, hlen]
    exact load_lies hl
theorem sliceBound_run (k : IntKind) (i : Int) (y : Nat) (code : BoundsCode) (h0 : 0 ≤ i) (h1 : i ≤ y) : (Instr.sliceBound (.int k i) y code).run P w = .ok i.toNat w := by
  simp [Instr.sliceBound, asIntOf, h0, h1]
def Bd (o : Option Int) (c : Option Value) : Prop := match o with
  | none => c = none
  | some n => ∃ k, c = some (.int k n)
theorem bounds_run {lo hi : Option Int} {clo chi : Option Value} (hl : Bd lo clo) (hh : Bd hi chi) (isS : Bool) (len cap : Nat) (h1 : 0 ≤ hi.getD len) (h2 : hi.getD len ≤ cap) (h3 : 0 ≤ lo.getD 0) (h4 : lo.getD 0 ≤ hi.getD len) :
    (Instr.sliceBounds isS len cap clo chi none).run P w = .ok ((lo.getD 0).toNat, (hi.getD len).toNat, cap) w := by
  cases lo with
  | none =>
    cases hl
    cases hi with
    | none => cases hh; simp [Instr.sliceBounds]
    | some n => obtain ⟨k, rfl⟩ := hh; simp at h1 h2; simp [Instr.sliceBounds, sliceBound_run k n cap _ h1 h2]
  | some m =>
    obtain ⟨k, rfl⟩ := hl
    simp at h3 h4
    cases hi with
    | none => cases hh; simp at h4; simp [Instr.sliceBounds, sliceBound_run k m len _ h3 h4]
    | some n =>
      obtain ⟨k', rfl⟩ := hh
      simp at h1 h2 h4
      simp [Instr.sliceBounds, sliceBound_run k' n cap _ h1 h2, sliceBound_run k m n.toNat _ h3 (by omega)]
theorem slice_run {t e : TypeId} (ht : P.underlying t = some (.slice e)) (a : Option Addr) (len cap : Nat) {lo hi : Option Int} {clo chi : Option Value} (hl : Bd lo clo) (hh : Bd hi chi)
    (h1 : 0 ≤ hi.getD len) (h2 : hi.getD len ≤ cap) (h3 : 0 ≤ lo.getD 0) (h4 : lo.getD 0 ≤ hi.getD len) (he : (P.info? e).isSome) :
    (Instr.sliceAt t (.slice a len cap) clo chi none).run P w = .ok (.slice (if cap = (lo.getD 0).toNat then a else a.map (·.add ((lo.getD 0).toNat * sizeA P e))) ((hi.getD len).toNat - (lo.getD 0).toNat) (cap - (lo.getD 0).toNat)) w := by
  obtain ⟨i, hi'⟩ := Option.isSome_iff_exists.1 he
  simp only [Instr.sliceAt, Sem.run_bind, run_underlying ht, Result.andThen_ok, Instr.slice, bounds_run (P := P) (w := w) hl hh true len cap h1 h2 h3 h4, run_sizeOf hi']
  rfl
theorem str_cut {t : TypeId} (ht : P.underlying t = some .string) (s : List UInt8) {lo hi : Option Int} {clo chi : Option Value} (hl : Bd lo clo) (hh : Bd hi chi)
    (h1 : 0 ≤ hi.getD s.length) (h2 : hi.getD s.length ≤ s.length) (h3 : 0 ≤ lo.getD 0) (h4 : lo.getD 0 ≤ hi.getD s.length) :
    (Instr.sliceAt t (.string ⟨⟨s⟩⟩) clo chi none).run P w = .ok (.string ⟨⟨(s.take (hi.getD s.length).toNat).drop (lo.getD 0).toNat⟩⟩) w := by
  have e1 : (⟨⟨s⟩⟩ : ByteArray).size = s.length := rfl
  simp only [Instr.sliceAt, Sem.run_bind, run_underlying ht, Result.andThen_ok, Instr.slice, e1]
  have : (⟨⟨s⟩⟩ : ByteArray).extract (lo.getD 0).toNat (hi.getD s.length).toNat = ⟨⟨(s.take (hi.getD s.length).toNat).drop (lo.getD 0).toNat⟩⟩ := by
    apply ByteArray.ext
    simp [ByteArray.data_extract, List.extract_eq_take_drop, List.drop_take]
  have hb := bounds_run (P := P) (w := w) hl hh false s.length s.length h1 h2 h3 h4
  simp only [Option.isSome_none, Bool.false_eq_true, if_false, Sem.run_bind, hb, Result.andThen_ok, this]
  rfl
theorem mem_cut {xs : List AV} {h l : Nat} {x : AV} (hx : x ∈ (xs.take h).drop l) : x ∈ xs := List.mem_of_mem_take (List.mem_of_mem_drop hx)
theorem cut_V {sz : Nat} {sh : Sh} {xs : List AV} {k : SK} {cx : Value} (hx : V g (.slice sz sh xs k) cx) {h l : Nat} (hh : h ≤ xs.length) (hl : l ≤ h) :
    ∃ a c, cx = .slice a xs.length c ∧ xs.length ≤ c ∧ V g (.slice sz sh ((xs.take h).drop l) k) (.slice (if c = l then a else a.map (·.add (l * sz))) (h - l) (c - l)) := by
  have hlen : ((xs.take h).drop l).length = h - l := by simp; omega
  cases hx with
  | slice _ _ _ _ vs b o c h1 h2 h3 h4 h5 h6 =>
    refine ⟨_, c, rfl, h5, ?_⟩
    have hvl : VL g (flat xs) vs := ⟨h1, h2⟩
    have hw : ∀ x ∈ xs, (cells x).length = sz := fun x hx => (h4 x hx).2.1
    have hw' : ∀ x ∈ xs.take h, (cells x).length = sz := fun x hx => hw x (List.mem_of_mem_take hx)
    have hv := (hvl.take (h * sz)).drop (l * sz)
    rw [← flat_take h hw, ← flat_drop l hw'] at hv
    have hat : At g b (o + l * sz) ((vs.take (h * sz)).drop (l * sz)) := by
      intro i v hv'
      rw [List.getElem?_drop, List.getElem?_take] at hv'
      split at hv'
      · have := h3 _ v hv'; rwa [Nat.add_assoc]
      · simp at hv'
    rw [← hlen]
    split
    · rename_i e
      have : (xs.take h).drop l = [] := by apply List.eq_nil_of_length_eq_zero; omega
      rw [this] at hv ⊢
      refine .slice _ _ _ _ [] b o _ rfl (fun i c v h => by simp [flat] at h) (fun i v h => by simp at h) (fun x hx => by simp at hx) (by simp) (by simp [TOP])
    · rw [Option.map_some, add_none]
      exact .slice _ _ _ _ _ b (o + l * sz) _ hv.1 hv.2 hat (fun x hx => h4 x (mem_cut hx)) (by omega) (by omega)
  | slice1 _ _ _ a c =>
    simp at hh; subst hh
    have : l = 0 := by omega
    subst this
    exact ⟨some a, c, rfl, Nat.zero_le _, by simpa [Addr.add] using V.slice1 sz sh _ _ _⟩
  | slice0 =>
    simp at hh; subst hh
    have : l = 0 := by omega
    subst this
    exact ⟨none, 0, rfl, Nat.le_refl _, by simpa using V.slice0 sz sh⟩
theorem fcut_V {sz : Nat} {sh : Sh} {xs ys : List AV} {cx : Value} (hx : V g (.fslice sz sh xs ys) cx) {h l : Nat} (hh : h ≤ (xs ++ ys).length) (hl : l ≤ h) :
    ∃ a, cx = .slice a xs.length (xs ++ ys).length ∧ V g (.fslice sz sh (((xs ++ ys).take h).drop l) ((xs ++ ys).drop h)) (.slice (if (xs ++ ys).length = l then a else a.map (·.add (l * sz))) (h - l) ((xs ++ ys).length - l)) := by
  cases hx with
  | fslice _ _ _ _ vs b o h1 h2 h3 h4 h5 =>
    refine ⟨_, rfl, ?_⟩
    generalize hz : xs ++ ys = zs at *
    have hlen : ((zs.take h).drop l).length = h - l := by simp; omega
    have hsum : (zs.take h).drop l ++ zs.drop h = zs.drop l := by
      conv => rhs; rw [← List.take_append_drop h zs]
      rw [List.drop_append_of_le_length (by simp; omega)]
    have htot : zs.length - l = ((zs.take h).drop l ++ zs.drop h).length := by rw [hsum]; simp
    have hvl : VL g (flat zs) vs := ⟨h1, h2⟩
    have hw : ∀ x ∈ zs, (cells x).length = sz := fun x hx => (h4 x hx).2.1
    have hv := hvl.drop (l * sz)
    rw [← flat_drop l hw, ← hsum] at hv
    have hat : At g b (o + l * sz) (vs.drop (l * sz)) := by
      intro i v hv'
      rw [List.getElem?_drop] at hv'
      have := h3 _ v hv'; rwa [Nat.add_assoc]
    have hmem : ∀ x ∈ (zs.take h).drop l ++ zs.drop h, reshape sh x = x ∧ (cells x).length = sz ∧ (cells x).all oneCell := fun x hx => by
      rw [hsum] at hx; exact h4 x (List.mem_of_mem_drop hx)
    rw [← hlen, htot]
    split
    · rename_i e
      have e0 : zs.drop l = [] := by apply List.eq_nil_of_length_eq_zero; simp; omega
      rw [hsum, e0] at hv
      have hvn : vs.drop (l * sz) = [] := hv.nil_inv
      refine .fslice _ _ _ _ [] b o ?_ ?_ (fun i v h => by simp at h) hmem (by rw [hsum]; simp; omega)
      · rw [hsum, e0]; rfl
      · rw [hsum, e0]; intro i c v h; simp [flat] at h
    · rw [Option.map_some, add_none]
      exact .fslice _ _ _ _ _ b (o + l * sz) hv.1 hv.2 hat hmem (by rw [hsum]; simp; omega)
def Does (P : Program) (g : Gh) (w : World) (s : Sem Value) (v : AV) (hp' : List Ob) : Prop :=
  ∃ cv w' g', s.run P w = .ok cv w' ∧ g.le g' ∧ R g' w' hp' ∧ V g' v cv
theorem Does.pure (h : R g w hp) {s : Sem Value} {v : AV} {cv : Value} (hr : s.run P w = .ok cv w) (hv : V g v cv) : Does P g w s v hp := ⟨cv, w, g, hr, Gh.le.refl g, h, hv⟩
theorem R.give (h : R g w hp) {ty : TypeId} {id ver sz : Nat} {sh : Sh} {xs : List AV} (he : hp[id]? = some (.grow ty ver sz sh xs)) :
    ∃ g', g.le g' ∧ R g' w (hp.set id (.froz ver sz sh xs)) ∧ (∀ g2 cv, g2.cur = g.cur → V g2 (.oslice id ver xs.length) cv → V g' (.slice sz sh xs .ro) cv) ∧ g'.cur = g.cur := by
  rcases h.growOK he with k | ⟨b, c, vs, fz, k⟩
  · refine ⟨g, Gh.le.refl g, ?_, fun g2 cv e hV => ?_, rfl⟩
    · exact h.turnV (Gh.le.refl g) (length_of_get he) (fun _ _ => rfl) (fun _ _ => rfl) rfl (Below.refl _ _) ⟨k.blk, none, 0, by have := k.nil; subst this; exact k.cur, by have := k.nil; subst this; exact .slice0 _ _⟩ (fun e => by simp at e)
    · have := k.nil; subst this
      cases hV with
      | oslice _ _ _ b' c' x hx hh =>
        rw [e, k.cur] at hx; cases hx
        rcases hh with hh | ⟨_, _, hh⟩
        · omega
        · have := (hh rfl).1; simp at this
      | oslice0 _ _ x hx hh => exact .slice0 _ _
  let seg := vs.toList.take (xs.length * sz)
  let g' : Gh := { g with imm := fun b' o => if b' = b then seg[o]? else g.imm b' o }
  have hle : g.le g' := ⟨rfl, rfl, rfl, fun b' o hn => if_neg (fun (e : b' = b) => hn (by rw [e]; exact k.base)), fun b' o v e => by
    show (if b' = b then seg[o]? else g.imm b' o) = some v
    split
    · rename_i e1; subst e1; rw [k.imm o] at e; simp at e
    · exact e, fun _ _ e => e, fun i _ _ _ _ e => ⟨_, e, Hdr.refl _ _ _ _⟩⟩
  have hs : V g' (.slice sz sh xs .ro) (.slice (some ⟨b, 0, none⟩) xs.length c) := by
    have hv := k.vl.mono hle
    exact .slice _ _ _ _ seg b 0 c hv.1 hv.2 (fun i v e => by show (if b = b then seg[0 + i]? else g.imm b (0 + i)) = some v; rw [if_pos rfl, Nat.zero_add]; exact e) k.sh k.le k.lim
  refine ⟨g', hle, ?_, fun g2 cv e hV => ?_, rfl⟩
  · refine h.turn (b := b) hle (length_of_get he) (by rw [he]; simp) (.inr ⟨_, _, _, k.cur⟩) (fun _ _ => rfl) (fun _ _ => rfl) (fun b' o' v e => ?_) (fun b' o' hne e => ?_) rfl rfl rfl (Nat.le_refl _) (fun _ _ _ => rfl) ⟨k.blk, some b, c, k.cur, hs⟩ (fun e => by simp at e)
    · have e2 : (if b' = b then seg[o']? else g.imm b' o') = some v := e
      clear e
      split at e2
      · rename_i e1; subst e1
        right; exact ⟨rfl, by have := k.lies o' v e2; rwa [Nat.zero_add] at this⟩
      · left; exact e2
    · show (if b' = b then seg[o']? else g.imm b' o') = none
      rw [if_neg hne]; exact e
  · have hc := k.cur
    generalize hn : xs.length = n at hV hc hs
    cases hV with
    | oslice _ _ _ b' c' x hx hh =>
      rw [e, hc] at hx; cases hx
      rcases hh with hh | ⟨_, _, hh⟩
      · omega
      · have := hh rfl; simp at this; obtain ⟨rfl, rfl⟩ := this; exact hs
    | oslice0 _ _ x hx hh =>
      rw [e, hc] at hx; cases hx
      rcases hh with hh | ⟨_, _, hh⟩
      · omega
      · have := (hh rfl).1; simp at this
theorem cutA_sound (h : R g w hp) {t : TypeId} {own : Bool} {esz : Nat} {x : AV} {lo hi : Option Int} {v : AV} {hp' : List Ob} {c : Cls}
    (hc : cutA none own esz x lo hi hp (fun v h c => some (v, h, c)) = some (v, hp', c)) {cx : Value} (hx : V g x cx) {clo chi : Option Value} (hl : Bd lo clo) (hh : Bd hi chi)
    (ht : (P.underlying t = some .string ∧ ∃ s, x = .str s) ∨ (∃ e, P.underlying t = some (.slice e) ∧ (P.info? e).isSome ∧ sizeA P e = esz ∧ ∀ s, x ≠ .str s)) :
    Does P g w (Instr.sliceAt t cx clo chi none) v hp' := by
  unfold cutA at hc
  split at hc
  · rename_i s
    replace hc := ask_some4 hc; obtain ⟨h1, h2, h3, h4, hc⟩ := hc
    simp only [decide_eq_true_eq] at h1 h2 h3 h4
    simp at hc; obtain ⟨rfl, rfl, rfl⟩ := hc
    obtain ⟨rfl, hlim⟩ := str_inv hx
    rcases ht with ⟨ht, _⟩ | ⟨e, _, _, _, hne⟩
    · exact Does.pure h (str_cut ht s hl hh h1 h2 h3 h4) (.str _ (by simp; omega))
    · exact absurd rfl (hne s)
  · obtain ⟨h1, hc⟩ := ask_some hc; obtain ⟨h2, hc⟩ := ask_some hc
    simp at h1 h2
    simp at hc; obtain ⟨rfl, rfl, rfl⟩ := hc
    rcases ht with ⟨_, s, hs⟩ | ⟨e, ht, hi', _, _⟩
    · simp at hs
    · cases hx
      have e1 : hi.getD ((0 : Nat) : Int) = 0 := by simpa using h1
      have := slice_run (P := P) (w := w) ht none 0 0 hl hh (by rw [e1]; exact Int.le_refl _) (by rw [e1]; exact Int.le_refl _) (by rw [h2]; exact Int.le_refl _) (by rw [e1, h2]; exact Int.le_refl _) hi'
      rw [e1, h2] at this
      exact Does.pure h (by simpa using this) .nilsl
  · rename_i sz sh xs k
    replace hc := ask_some5 hc; obtain ⟨h0, h1, h2, h3, h4, hc⟩ := hc
    simp only [decide_eq_true_eq] at h1 h2 h3 h4
    simp at h0; subst h0
    simp at hc; obtain ⟨rfl, rfl, rfl⟩ := hc
    rcases ht with ⟨_, s, hs⟩ | ⟨e, ht, hi', hsz, _⟩
    · simp at hs
    · obtain ⟨a, cc, rfl, hlc, hV⟩ := cut_V hx (h := (hi.getD xs.length).toNat) (l := (lo.getD 0).toNat) (by omega) (by omega)
      have := slice_run (P := P) (w := w) ht a xs.length cc hl hh h1 (by omega) h3 h4 hi'
      rw [hsz] at this
      exact Does.pure h this hV
  · rename_i sz sh xs ys
    replace hc := ask_some5 hc; obtain ⟨h0, h1, h2, h3, h4, hc⟩ := hc
    simp only [decide_eq_true_eq] at h1 h2 h3 h4
    simp at h0; subst h0
    simp only [Option.some.injEq, Prod.mk.injEq] at hc; obtain ⟨rfl, rfl, rfl⟩ := hc
    rcases ht with ⟨_, s, hs⟩ | ⟨e, ht, hi', hsz, _⟩
    · simp at hs
    · obtain ⟨a, rfl, hV⟩ := fcut_V hx (h := (hi.getD xs.length).toNat) (l := (lo.getD 0).toNat) (by omega) (by omega)
      have := slice_run (P := P) (w := w) ht a xs.length (xs ++ ys).length hl hh h1 (by omega) h3 h4 hi'
      rw [hsz] at this
      exact Does.pure h this hV
  · rename_i id ver len
    split at hc
    · replace hc := grownR_inv hc; obtain ⟨sz, sh, xs, he, rfl, hc⟩ := hc
      rename_i hfz
      have he : hp[id]? = some (.froz ver sz sh xs) := by
        rcases he with ⟨ty, he⟩ | he
        · simp [isFroz, he] at hfz
        · exact he
      replace hc := ask_some5 hc; obtain ⟨h0, h1, h2, h3, h4, hc⟩ := hc
      simp only [decide_eq_true_eq] at h1 h2 h3 h4
      simp at h0; subst h0
      simp at hc; obtain ⟨rfl, rfl, rfl⟩ := hc
      rcases ht with ⟨_, s, hs⟩ | ⟨e, ht, hi', hsz, _⟩
      · simp at hs
      · obtain ⟨a, cc, rfl, hlc, hV⟩ := cut_V (h.frozV he hx) (h := (hi.getD xs.length).toNat) (l := (lo.getD 0).toNat) (by omega) (by omega)
        have := slice_run (P := P) (w := w) ht a xs.length cc hl hh h1 (by omega) h3 h4 hi'
        rw [hsz] at this
        exact Does.pure h this hV
    replace hc := grown_inv hc; obtain ⟨tyo, sz, sh, xs, he, rfl, hc⟩ := hc
    replace hc := ask_some5 hc; obtain ⟨h0, h1, h2, h3, h4, hc⟩ := hc
    simp only [decide_eq_true_eq] at h1 h2 h3 h4
    simp at h0; subst h0
    rcases ht with ⟨_, s, hs⟩ | ⟨e, ht, hi', hsz, _⟩
    · simp at hs
    · split at hc
      · replace hc := ask_some hc; obtain ⟨h5, hc⟩ := hc
        simp only [decide_eq_true_eq] at h5
        simp only [Option.some.injEq, Prod.mk.injEq] at hc; obtain ⟨rfl, rfl, rfl⟩ := hc
        rcases h.growOK he with k | ⟨b, cc, vs, fz, k⟩
        · have := k.nil; subst this
          have := k.slice hx; subst this
          have e1 : hi.getD (([] : List AV).length : Int) = 0 := by simp at h1 h2 ⊢; omega
          have hrun := slice_run (P := P) (w := w) ht none 0 0 hl hh (by simpa using h1) (by simpa using h2) h3 (by simpa using h4) hi'
          have e2 : hi.getD ((0 : Nat) : Int) = 0 := by simpa using e1
          rw [hsz, h5, e2] at hrun
          let g' : Gh := { g with cur := fun i => if i = id then some (ver + 1, 0, none, 0) else g.cur i }
          have hle : g.le g' := ⟨rfl, rfl, rfl, fun _ _ _ => rfl, fun _ _ _ e => e, fun _ _ e => e, fun i v' l' b' c' e => by
            show ∃ x, (if i = id then some (ver + 1, 0, none, 0) else g.cur i) = some x ∧ _
            split
            · rename_i e1; subst e1; rw [k.cur] at e; cases e; exact ⟨_, rfl, .inl (by omega)⟩
            · exact ⟨_, e, Hdr.refl _ _ _ _⟩⟩
          have hcur : g'.cur id = some (ver + 1, 0, none, 0) := by show (if id = id then _ else _) = _; rw [if_pos rfl]
          have e3 : (([] : List AV).take (hi.getD (([] : List AV).length : Int)).toNat) = [] := by simp
          rw [e3]
          refine ⟨_, w, g', by simpa using hrun, hle, ?_, .oslice0 _ _ _ hcur (Hdr.refl _ _ _ _)⟩
          refine h.turnV hle (length_of_get he) (fun i hi => by show (if i = id then _ else _) = _; rw [if_neg hi]) (fun _ _ => rfl) rfl (Below.refl _ _) ⟨k.blk, .inl ⟨rfl, k.pos, hcur⟩⟩ (fun _ b' ho => ?_)
          rcases ho with ho | ⟨_, _, _, ho⟩
          · rw [show g'.blk id = g.blk id from rfl, k.blk] at ho; simp at ho
          · rw [hcur] at ho; cases ho
        rw [k.slice hx]
        have hrun := slice_run (P := P) (w := w) ht (some ⟨b, 0, none⟩) xs.length cc hl hh h1 (by have := k.le; omega) h3 h4 hi'
        rw [hsz, h5] at hrun
        have hrun' : (Instr.sliceAt t (.slice (some ⟨b, 0, none⟩) xs.length cc) clo chi none).run P w = .ok (.slice (some ⟨b, 0, none⟩) (hi.getD xs.length).toNat cc) w := by
          rw [hrun]; simp [Addr.add]
        let n := (hi.getD xs.length).toNat
        have hn : n ≤ xs.length := by omega
        let g' : Gh := { g with cur := fun i => if i = id then some (ver + 1, n, some b, cc) else g.cur i }
        have hle : g.le g' := ⟨rfl, rfl, rfl, fun _ _ _ => rfl, fun _ _ _ e => e, fun _ _ e => e, fun i v' l' b' c' e => by
          show ∃ x, (if i = id then some (ver + 1, n, some b, cc) else g.cur i) = some x ∧ _
          split
          · rename_i e1; subst e1; rw [k.cur] at e; cases e; exact ⟨_, rfl, .inl (by omega)⟩
          · exact ⟨_, e, Hdr.refl _ _ _ _⟩⟩
        have hcur : g'.cur id = some (ver + 1, n, some b, cc) := by show (if id = id then _ else _) = _; rw [if_pos rfl]
        have hlen : (xs.take n).length = n := by simp; omega
        refine ⟨_, w, g', hrun', hle, ?_, by rw [hlen]; exact .oslice _ _ _ b cc _ hcur (Hdr.refl _ _ _ _)⟩
        refine h.turn (b := b) hle (length_of_get he) (by rw [he]; simp) (.inr ⟨_, _, _, k.cur⟩) (fun i hi => by show (if i = id then _ else _) = _; rw [if_neg hi]) (fun _ _ => rfl) (fun _ _ _ e => .inl e) (fun _ _ _ e => e) rfl rfl rfl (Nat.le_refl _) (fun _ _ _ => rfl) ?_ (fun _ b' ho => ?_)
        · have hw : ∀ x ∈ xs, (cells x).length = sz := fun x hx => (k.sh x hx).2.1
          refine ⟨k.blk, .inr ?_⟩
          refine ⟨b, cc, vs, fz, by rw [hlen]; exact hcur, k.base, k.heap, k.size, k.pos, by rw [hlen]; have := k.le; omega, ?_, fun x hx => k.sh x (List.mem_of_mem_take hx), by rw [hlen]; have := k.lim; omega, k.imm, k.froz⟩
          rw [hlen, flat_take n hw]
          have := (k.vl.mono hle).take (n * sz)
          rwa [List.take_take, Nat.min_eq_left (Nat.mul_le_mul_right _ hn)] at this
        · left
          rcases ho with ho | ⟨_, _, _, ho⟩
          · rw [show g'.blk id = g.blk id from rfl, k.blk] at ho; simp at ho
          · rw [hcur] at ho; cases ho; rfl
      · simp only [Option.some.injEq, Prod.mk.injEq] at hc; obtain ⟨rfl, rfl, rfl⟩ := hc
        obtain ⟨g', hle, hR, hV, -⟩ := h.give he
        replace hV := hV g _ rfl hx
        obtain ⟨a, c2, e2, hlc, hV2⟩ := cut_V hV (h := (hi.getD xs.length).toNat) (l := (lo.getD 0).toNat) (by omega) (by omega)
        subst e2
        have hrun := slice_run (P := P) (w := w) ht a xs.length c2 hl hh h1 (by omega) h3 h4 hi'
        rw [hsz] at hrun
        exact ⟨_, w, g', hrun, hle, hR, hV2⟩
  · simp at hc
end
end Go.Cx
