/- Single operations: cuts, conversions. -/
import Derived.Test.YtcnalhganahiiaaGreatDoorCxG
import Derived.Lib.Builder
import Derived.Laws.BytesString
import Derived.Laws.AppendOwn
section
namespace Go.Cx
open Go.RowKit (Below)
set_option linter.unusedSimpArgs false
section
theorem ask_some2 {α : Type} {a b : Bool} {k : Option α} {v : α} (h : ask none a (ask none b k) = some v) : a = true ∧ b = true ∧ k = some v := by
  cases a <;> cases b <;> simp_all [ask]
theorem ask_some4 {α : Type} {a b c d : Bool} {k : Option α} {v : α} (h : ask none a (ask none b (ask none c (ask none d k))) = some v) : a = true ∧ b = true ∧ c = true ∧ d = true ∧ k = some v := by
  cases a <;> cases b <;> cases c <;> cases d <;> simp_all [ask]
theorem ask_some5 {α : Type} {a b c d e : Bool} {k : Option α} {v : α} (h : ask none a (ask none b (ask none c (ask none d (ask none e k)))) = some v) : a = true ∧ b = true ∧ c = true ∧ d = true ∧ e = true ∧ k = some v := by
  cases a <;> cases b <;> cases c <;> cases d <;> cases e <;> simp_all [ask]
end
section
variable {P : Program} {g : Gh} {w : World} {hp : List Ob}
structure Els (g : Gh) (w : World) (sz : Nat) (sh : Sh) (xs : List AV) (cx : Value) : Prop where
  some : ∃ a c, cx = .slice a xs.length c ∧ xs.length ≤ c ∧ (a = none → xs = [] ∧ c = 0) ∧ (∀ x, a = some x → xs = [] ∨ ∃ b o vs, x = ⟨b, o, none⟩ ∧ VL g (flat xs) vs ∧ Lies w b o vs)
  el : ∀ x ∈ xs, reshape sh x = x ∧ (cells x).length = sz ∧ (cells x).all oneCell
  lim : xs.length < TOP
theorem slice_els (h : R g w hp) {sz : Nat} {sh : Sh} {xs : List AV} {k : SK} {cx : Value} (hx : V g (.slice sz sh xs k) cx) : Els g w sz sh xs cx := by
  cases hx with
  | slice _ _ _ _ vs b o c h1 h2 h3 h4 h5 h6 =>
    exact ⟨⟨_, c, rfl, h5, fun e => by simp at e, fun x e => .inr ⟨b, o, vs, (Option.some.inj e).symm, ⟨h1, h2⟩, lies_at h.imm h3⟩⟩, h4, h6⟩
  | slice1 _ _ _ a c => exact ⟨⟨_, c, rfl, Nat.zero_le _, fun e => by simp at e, fun x _ => .inl rfl⟩, fun x hx => by simp at hx, by simp [TOP]⟩
  | slice0 => exact ⟨⟨none, 0, rfl, Nat.le_refl _, fun _ => ⟨rfl, rfl⟩, fun x e => by simp at e⟩, fun x hx => by simp at hx, by simp [TOP]⟩
theorem GrowOK.els {id ver sz : Nat} {sh : Sh} {xs : List AV} {b c : Nat} {vs : Array Value} {ty : TypeId} {fz : Nat × Nat} (k : GrowOK g w id ver sz sh xs b c vs ty fz) :
    Els g w sz sh xs (.slice (some ⟨b, 0, none⟩) xs.length c) :=
  ⟨⟨_, c, rfl, k.le, fun e => by simp at e, fun x e => .inr ⟨b, 0, _, (Option.some.inj e).symm, k.vl, k.lies⟩⟩, k.sh, k.lim⟩
theorem elems_sound (h : R g w hp) {x : AV} {sz : Nat} {sh : Sh} {xs : List AV} {c : Cls} (he : elems none hp x (fun sz sh xs c => some (sz, sh, xs, c)) = some (sz, sh, xs, c)) {cx : Value} (hx : V g x cx) :
    Els g w sz sh xs cx := by
  unfold elems at he
  split at he
  · simp at he; obtain ⟨rfl, rfl, rfl, rfl⟩ := he
    cases hx
    exact ⟨⟨none, 0, rfl, Nat.le_refl _, fun _ => ⟨rfl, rfl⟩, fun x e => by simp at e⟩, fun x hx => by simp at hx, by simp [TOP]⟩
  · simp at he; obtain ⟨rfl, rfl, rfl, rfl⟩ := he
    exact slice_els h hx
  · simp at he; obtain ⟨rfl, rfl, rfl, rfl⟩ := he
    exact slice_els h (fslice_weak hx)
  · obtain ⟨sz', sh', xs', e, rfl, he2⟩ := grownR_inv he
    clear he
    simp at he2; obtain ⟨rfl, rfl, rfl, rfl⟩ := he2
    rcases e with ⟨tyo, e⟩ | e
    rotate_left
    · exact slice_els h (h.frozV e hx)
    rcases h.growOK e with k | ⟨b, cc, vs, fz, k⟩
    · have := k.nil; subst this
      have := k.slice hx; subst this
      exact ⟨⟨none, 0, rfl, Nat.le_refl _, fun _ => ⟨rfl, rfl⟩, fun x _ => .inl rfl⟩, fun x hx => by simp at hx, by simp [TOP]⟩
    rw [k.slice hx]
    exact k.els
  · simp at he
theorem Els.width {sz : Nat} {sh : Sh} {xs : List AV} {cx : Value} (e : Els g w sz sh xs cx) : ∀ x ∈ xs, (cells x).length = sz := fun x hx => (e.el x hx).2.1
theorem Els.one {sz : Nat} {sh : Sh} {xs : List AV} {cx : Value} (e : Els g w sz sh xs cx) : (flat xs).all oneCell = true := by
  simp only [flat, List.all_flatMap, List.all_eq_true]
  intro x hx c hc
  exact List.all_eq_true.1 (e.el x hx).2.2 c hc
theorem one_vals : ∀ {cs : List AV} {vs : List Value}, cs.all oneCell = true → VL g cs vs → ∀ v ∈ vs, v.oneCell' = true
  | [], vs, _, h, v, hv => by rw [h.nil_inv] at hv; simp at hv
  | c :: cs, vs, h1, h, v, hv => by
    obtain ⟨x, vs', rfl, k1, k2⟩ := h.cons_inv
    simp only [List.all_cons, Bool.and_eq_true] at h1
    simp at hv
    rcases hv with rfl | hv
    · exact oneCell_V h1.1 k1
    · exact one_vals h1.2 k2 v hv
theorem Els.read {sz : Nat} {sh : Sh} {xs : List AV} {cx : Value} (e : Els g w sz sh xs cx) (n : Nat) (hn : xs.length = n) (s : Nat) (hs : s = sz ∨ xs = []) : ∃ vs, (Builtin.firstCells s n cx).run P w = .ok (Array.mk vs) w ∧ VL g (flat xs) vs := by
  subst hn
  obtain ⟨a, c, rfl, _, h0, h1⟩ := e.some
  cases a with
  | none => obtain ⟨rfl, rfl⟩ := h0 rfl; exact ⟨[], rfl, VL.nil g⟩
  | some a =>
    rcases h1 a rfl with rfl | ⟨b, o, vs, rfl, hv, hl⟩
    · exact ⟨[], by simp [Builtin.firstCells, loadCells, loadCellsFrom], VL.nil g⟩
    refine ⟨vs, ?_, hv⟩
    have hlen : xs.length * s = vs.length := by
      rcases hs with rfl | rfl
      · rw [← hv.1, flat_len e.width]
      · have := hv.1; simp [flat] at this; simp [← this]
    simp only [Builtin.firstCells, hlen]
    exact load_lies hl
theorem sliceBound_run (k : IntKind) (i : Int) (y : Nat) (code : BoundsCode) (h0 : 0 ≤ i) (h1 : i ≤ y) : (Instr.sliceBound (.int k i) y code).run P w = .ok i.toNat w := by
  simp [Instr.sliceBound, asIntOf, h0, h1]
def Bd (o : Option Int) (c : Option Value) : Prop := match o with
  | none => c = none
  | some n => ∃ k, c = some (.int k n)
theorem bounds_run {lo hi : Option Int} {clo chi : Option Value} (hl : Bd lo clo) (hh : Bd hi chi) (isS : Bool) (len cap : Nat) (h1 : 0 ≤ hi.getD len) (h2 : hi.getD len ≤ cap) (h3 : 0 ≤ lo.getD 0) (h4 : lo.getD 0 ≤ hi.getD len) :
    (Instr.sliceBounds isS len cap clo chi none).run P w = .ok ((lo.getD 0).toNat, (hi.getD len).toNat, cap) w := by
  cases lo with
  | none =>
    cases hl
    cases hi with
    | none => cases hh; simp [Instr.sliceBounds]
    | some n => obtain ⟨k, rfl⟩ := hh; simp at h1 h2; simp [Instr.sliceBounds, sliceBound_run k n cap _ h1 h2]
  | some m =>
    obtain ⟨k, rfl⟩ := hl
    simp at h3 h4
    cases hi with
    | none => cases hh; simp at h4; simp [Instr.sliceBounds, sliceBound_run k m len _ h3 h4]
    | some n =>
      obtain ⟨k', rfl⟩ := hh
      simp at h1 h2 h4
      simp [Instr.sliceBounds, sliceBound_run k' n cap _ h1 h2, sliceBound_run k m n.toNat _ h3 (by omega)]
theorem slice_run {t e : TypeId} (ht : P.underlying t = some (.slice e)) (a : Option Addr) (len cap : Nat) {lo hi : Option Int} {clo chi : Option Value} (hl : Bd lo clo) (hh : Bd hi chi)
    (h1 : 0 ≤ hi.getD len) (h2 : hi.getD len ≤ cap) (h3 : 0 ≤ lo.getD 0) (h4 : lo.getD 0 ≤ hi.getD len) (he : (P.info? e).isSome) :
    (Instr.sliceAt t (.slice a len cap) clo chi none).run P w = .ok (.slice (if cap = (lo.getD 0).toNat then a else a.map (·.add ((lo.getD 0).toNat * sizeA P e))) ((hi.getD len).toNat - (lo.getD 0).toNat) (cap - (lo.getD 0).toNat)) w := by
  obtain ⟨i, hi'⟩ := Option.isSome_iff_exists.1 he
  simp only [Instr.sliceAt, Sem.run_bind, run_underlying ht, Result.andThen_ok, Instr.slice, bounds_run (P := P) (w := w) hl hh true len cap h1 h2 h3 h4, run_sizeOf hi']
  rfl
theorem str_cut {t : TypeId} (ht : P.underlying t = some .string) (s : List UInt8) {lo hi : Option Int} {clo chi : Option Value} (hl : Bd lo clo) (hh : Bd hi chi)
    (h1 : 0 ≤ hi.getD s.length) (h2 : hi.getD s.length ≤ s.length) (h3 : 0 ≤ lo.getD 0) (h4 : lo.getD 0 ≤ hi.getD s.length) :
    (Instr.sliceAt t (.string ⟨⟨s⟩⟩) clo chi none).run P w = .ok (.string ⟨⟨(s.take (hi.getD s.length).toNat).drop (lo.getD 0).toNat⟩⟩) w := by
  have e1 : (⟨⟨s⟩⟩ : ByteArray).size = s.length := rfl
  simp only [Instr.sliceAt, Sem.run_bind, run_underlying ht, Result.andThen_ok, Instr.slice, e1]
  have : (⟨⟨s⟩⟩ : ByteArray).extract (lo.getD 0).toNat (hi.getD s.length).toNat = ⟨⟨(s.take (hi.getD s.length).toNat).drop (lo.getD 0).toNat⟩⟩ := by
    apply ByteArray.ext
    simp [ByteArray.data_extract, List.extract_eq_take_drop, List.drop_take]
  have hb := bounds_run (P := P) (w := w) hl hh false s.length s.length h1 h2 h3 h4
  simp only [Option.isSome_none, Bool.false_eq_true, if_false, Sem.run_bind, hb, Result.andThen_ok, this]
  rfl
theorem mem_cut {xs : List AV} {h l : Nat} {x : AV} (hx : x ∈ (xs.take h).drop l) : x ∈ xs := List.mem_of_mem_take (List.mem_of_mem_drop hx)
theorem cut_V {sz : Nat} {sh : Sh} {xs : List AV} {k : SK} {cx : Value} (hx : V g (.slice sz sh xs k) cx) {h l : Nat} (hh : h ≤ xs.length) (hl : l ≤ h) :
    ∃ a c, cx = .slice a xs.length c ∧ xs.length ≤ c ∧ V g (.slice sz sh ((xs.take h).drop l) k) (.slice (if c = l then a else a.map (·.add (l * sz))) (h - l) (c - l)) := by
  have hlen : ((xs.take h).drop l).length = h - l := by simp; omega
  cases hx with
  | slice _ _ _ _ vs b o c h1 h2 h3 h4 h5 h6 =>
    refine ⟨_, c, rfl, h5, ?_⟩
    have hvl : VL g (flat xs) vs := ⟨h1, h2⟩
    have hw : ∀ x ∈ xs, (cells x).length = sz := fun x hx => (h4 x hx).2.1
    have hw' : ∀ x ∈ xs.take h, (cells x).length = sz := fun x hx => hw x (List.mem_of_mem_take hx)
    have hv := (hvl.take (h * sz)).drop (l * sz)
    rw [← flat_take h hw, ← flat_drop l hw'] at hv
    have hat : At g b (o + l * sz) ((vs.take (h * sz)).drop (l * sz)) := by
      intro i v hv'
      rw [List.getElem?_drop, List.getElem?_take] at hv'
      split at hv'
      · have := h3 _ v hv'; rwa [Nat.add_assoc]
      · simp at hv'
    rw [← hlen]
    split
    · rename_i e
      have : (xs.take h).drop l = [] := by apply List.eq_nil_of_length_eq_zero; omega
      rw [this] at hv ⊢
      refine .slice _ _ _ _ [] b o _ rfl (fun i c v h => by simp [flat] at h) (fun i v h => by simp at h) (fun x hx => by simp at hx) (by simp) (by simp [TOP])
    · rw [Option.map_some, add_none]
      exact .slice _ _ _ _ _ b (o + l * sz) _ hv.1 hv.2 hat (fun x hx => h4 x (mem_cut hx)) (by omega) (by omega)
  | slice1 _ _ _ a c =>
    simp at hh; subst hh
    have : l = 0 := by omega
    subst this
    exact ⟨some a, c, rfl, Nat.zero_le _, by simpa [Addr.add] using V.slice1 sz sh _ _ _⟩
  | slice0 =>
    simp at hh; subst hh
    have : l = 0 := by omega
    subst this
    exact ⟨none, 0, rfl, Nat.le_refl _, by simpa using V.slice0 sz sh⟩
theorem fcut_V {sz : Nat} {sh : Sh} {xs ys : List AV} {cx : Value} (hx : V g (.fslice sz sh xs ys) cx) {h l : Nat} (hh : h ≤ (xs ++ ys).length) (hl : l ≤ h) :
    ∃ a, cx = .slice a xs.length (xs ++ ys).length ∧ V g (.fslice sz sh (((xs ++ ys).take h).drop l) ((xs ++ ys).drop h)) (.slice (if (xs ++ ys).length = l then a else a.map (·.add (l * sz))) (h - l) ((xs ++ ys).length - l)) := by
  cases hx with
  | fslice _ _ _ _ vs b o h1 h2 h3 h4 h5 =>
    refine ⟨_, rfl, ?_⟩
    generalize hz : xs ++ ys = zs at *
    have hlen : ((zs.take h).drop l).length = h - l := by simp; omega
    have hsum : (zs.take h).drop l ++ zs.drop h = zs.drop l := by
      conv => rhs; rw [← List.take_append_drop h zs]
      rw [List.drop_append_of_le_length (by simp; omega)]
    have htot : zs.length - l = ((zs.take h).drop l ++ zs.drop h).length := by rw [hsum]; simp
    have hvl : VL g (flat zs) vs := ⟨h1, h2⟩
    have hw : ∀ x ∈ zs, (cells x).length = sz := fun x hx => (h4 x hx).2.1
    have hv := hvl.drop (l * sz)
    rw [← flat_drop l hw, ← hsum] at hv
    have hat : At g b (o + l * sz) (vs.drop (l * sz)) := by
      intro i v hv'
      rw [List.getElem?_drop] at hv'
      have := h3 _ v hv'; rwa [Nat.add_assoc]
    have hmem : ∀ x ∈ (zs.take h).drop l ++ zs.drop h, reshape sh x = x ∧ (cells x).length = sz ∧ (cells x).all oneCell := fun x hx => by
      rw [hsum] at hx; exact h4 x (List.mem_of_mem_drop hx)
    rw [← hlen, htot]
    split
    · rename_i e
      have e0 : zs.drop l = [] := by apply List.eq_nil_of_length_eq_zero; simp; omega
      rw [hsum, e0] at hv
      have hvn : vs.drop (l * sz) = [] := hv.nil_inv
      refine .fslice _ _ _ _ [] b o ?_ ?_ (fun i v h => by simp at h) hmem (by rw [hsum]; simp; omega)
      · rw [hsum, e0]; rfl
      · rw [hsum, e0]; intro i c v h; simp [flat] at h
    · rw [Option.map_some, add_none]
      exact .fslice _ _ _ _ _ b (o + l * sz) hv.1 hv.2 hat hmem (by rw [hsum]; simp; omega)
def Does (P : Program) (g : Gh) (w : World) (s : Sem Value) (v : AV) (hp' : List Ob) : Prop :=
  ∃ cv w' g', s.run P w = .ok cv w' ∧ g.le g' ∧ R g' w' hp' ∧ V g' v cv
theorem Does.pure (h : R g w hp) {s : Sem Value} {v : AV} {cv : Value} (hr : s.run P w = .ok cv w) (hv : V g v cv) : Does P g w s v hp := ⟨cv, w, g, hr, Gh.le.refl g, h, hv⟩
theorem R.give (h : R g w hp) {ty : TypeId} {id ver sz : Nat} {sh : Sh} {xs : List AV} (he : hp[id]? = some (.grow ty ver sz sh xs)) :
    ∃ g', g.le g' ∧ R g' w (hp.set id (.froz ver sz sh xs)) ∧ (∀ g2 cv, g2.cur = g.cur → V g2 (.oslice id ver xs.length) cv → V g' (.slice sz sh xs .ro) cv) ∧ g'.cur = g.cur := by
  rcases h.growOK he with k | ⟨b, c, vs, fz, k⟩
  · refine ⟨g, Gh.le.refl g, ?_, fun g2 cv e hV => ?_, rfl⟩
    · exact h.turnV (Gh.le.refl g) (length_of_get he) (fun _ _ => rfl) (fun _ _ => rfl) rfl (Below.refl _ _) ⟨k.blk, none, 0, by have := k.nil; subst this; exact k.cur, by have := k.nil; subst this; exact .slice0 _ _⟩ (fun e => by simp at e)
    · have := k.nil; subst this
      cases hV with
      | oslice _ _ _ b' c' x hx hh =>
        rw [e, k.cur] at hx; cases hx
        rcases hh with hh | ⟨_, _, hh⟩
        · omega
        · have := (hh rfl).1; simp at this
      | oslice0 _ _ x hx hh => exact .slice0 _ _
  let seg := vs.toList.take (xs.length * sz)
  let g' : Gh := { g with imm := fun b' o => if b' = b then seg[o]? else g.imm b' o }
  have hle : g.le g' := ⟨rfl, rfl, rfl, fun b' o hn => if_neg (fun (e : b' = b) => hn (by rw [e]; exact k.base)), fun b' o v e => by
    show (if b' = b then seg[o]? else g.imm b' o) = some v
    split
    · rename_i e1; subst e1; rw [k.imm o] at e; simp at e
    · exact e, fun _ _ e => e, fun i _ _ _ _ e => ⟨_, e, Hdr.refl _ _ _ _⟩⟩
  have hs : V g' (.slice sz sh xs .ro) (.slice (some ⟨b, 0, none⟩) xs.length c) := by
    have hv := k.vl.mono hle
    exact .slice _ _ _ _ seg b 0 c hv.1 hv.2 (fun i v e => by show (if b = b then seg[0 + i]? else g.imm b (0 + i)) = some v; rw [if_pos rfl, Nat.zero_add]; exact e) k.sh k.le k.lim
  refine ⟨g', hle, ?_, fun g2 cv e hV => ?_, rfl⟩
  · refine h.turn (b := b) hle (length_of_get he) (by rw [he]; simp) (.inr ⟨_, _, _, k.cur⟩) (fun _ _ => rfl) (fun _ _ => rfl) (fun b' o' v e => ?_) (fun b' o' hne e => ?_) rfl rfl rfl (Nat.le_refl _) (fun _ _ _ => rfl) ⟨k.blk, some b, c, k.cur, hs⟩ (fun e => by simp at e)
    · have e2 : (if b' = b then seg[o']? else g.imm b' o') = some v := e
      clear e
      split at e2
      · rename_i e1; subst e1
        right; exact ⟨rfl, by have := k.lies o' v e2; rwa [Nat.zero_add] at this⟩
      · left; exact e2
    · show (if b' = b then seg[o']? else g.imm b' o') = none
      rw [if_neg hne]; exact e
  · have hc := k.cur
    generalize hn : xs.length = n at hV hc hs
    cases hV with
    | oslice _ _ _ b' c' x hx hh =>
      rw [e, hc] at hx; cases hx
      rcases hh with hh | ⟨_, _, hh⟩
      · omega
      · have := hh rfl; simp at this; obtain ⟨rfl, rfl⟩ := this; exact hs
    | oslice0 _ _ x hx hh =>
      rw [e, hc] at hx; cases hx
      rcases hh with hh | ⟨_, _, hh⟩
      · omega
      · have := (hh rfl).1; simp at this
theorem cutA_sound (h : R g w hp) {t : TypeId} {own : Bool} {esz : Nat} {x : AV} {lo hi : Option Int} {v : AV} {hp' : List Ob} {c : Cls}
    (hc : cutA none own esz x lo hi hp (fun v h c => some (v, h, c)) = some (v, hp', c)) {cx : Value} (hx : V g x cx) {clo chi : Option Value} (hl : Bd lo clo) (hh : Bd hi chi)
    (ht : (P.underlying t = some .string ∧ ∃ s, x = .str s) ∨ (∃ e, P.underlying t = some (.slice e) ∧ (P.info? e).isSome ∧ sizeA P e = esz ∧ ∀ s, x ≠ .str s)) :
    Does P g w (Instr.sliceAt t cx clo chi none) v hp' := by
  unfold cutA at hc
  split at hc
  · rename_i s
    replace hc := ask_some4 hc; obtain ⟨h1, h2, h3, h4, hc⟩ := hc
    simp only [decide_eq_true_eq] at h1 h2 h3 h4
    simp at hc; obtain ⟨rfl, rfl, rfl⟩ := hc
    obtain ⟨rfl, hlim⟩ := str_inv hx
    rcases ht with ⟨ht, _⟩ | ⟨e, _, _, _, hne⟩
    · exact Does.pure h (str_cut ht s hl hh h1 h2 h3 h4) (.str _ (by simp; omega))
    · exact absurd rfl (hne s)
  · obtain ⟨h1, hc⟩ := ask_some hc; obtain ⟨h2, hc⟩ := ask_some hc
    simp at h1 h2
    simp at hc; obtain ⟨rfl, rfl, rfl⟩ := hc
    rcases ht with ⟨_, s, hs⟩ | ⟨e, ht, hi', _, _⟩
    · simp at hs
    · cases hx
      have e1 : hi.getD ((0 : Nat) : Int) = 0 := by simpa using h1
      have := slice_run (P := P) (w := w) ht none 0 0 hl hh (by rw [e1]; exact Int.le_refl _) (by rw [e1]; exact Int.le_refl _) (by rw [h2]; exact Int.le_refl _) (by rw [e1, h2]; exact Int.le_refl _) hi'
      rw [e1, h2] at this
      exact Does.pure h (by simpa using this) .nilsl
  · rename_i sz sh xs k
    replace hc := ask_some5 hc; obtain ⟨h0, h1, h2, h3, h4, hc⟩ := hc
    simp only [decide_eq_true_eq] at h1 h2 h3 h4
    simp at h0; subst h0
    simp at hc; obtain ⟨rfl, rfl, rfl⟩ := hc
    rcases ht with ⟨_, s, hs⟩ | ⟨e, ht, hi', hsz, _⟩
    · simp at hs
    · obtain ⟨a, cc, rfl, hlc, hV⟩ := cut_V hx (h := (hi.getD xs.length).toNat) (l := (lo.getD 0).toNat) (by omega) (by omega)
      have := slice_run (P := P) (w := w) ht a xs.length cc hl hh h1 (by omega) h3 h4 hi'
      rw [hsz] at this
      exact Does.pure h this hV
  · rename_i sz sh xs ys
    replace hc := ask_some5 hc; obtain ⟨h0, h1, h2, h3, h4, hc⟩ := hc
    simp only [decide_eq_true_eq] at h1 h2 h3 h4
    simp at h0; subst h0
    simp only [Option.some.injEq, Prod.mk.injEq] at hc; obtain ⟨rfl, rfl, rfl⟩ := hc
    rcases ht with ⟨_, s, hs⟩ | ⟨e, ht, hi', hsz, _⟩
    · simp at hs
    · obtain ⟨a, rfl, hV⟩ := fcut_V hx (h := (hi.getD xs.length).toNat) (l := (lo.getD 0).toNat) (by omega) (by omega)
      have := slice_run (P := P) (w := w) ht a xs.length (xs ++ ys).length hl hh h1 (by omega) h3 h4 hi'
      rw [hsz] at this
      exact Does.pure h this hV
  · rename_i id ver len
    split at hc
    · replace hc := grownR_inv hc; obtain ⟨sz, sh, xs, he, rfl, hc⟩ := hc
      rename_i hfz
      have he : hp[id]? = some (.froz ver sz sh xs) := by
        rcases he with ⟨ty, he⟩ | he
        · simp [isFroz, he] at hfz
        · exact he
      replace hc := ask_some5 hc; obtain ⟨h0, h1, h2, h3, h4, hc⟩ := hc
      simp only [decide_eq_true_eq] at h1 h2 h3 h4
      simp at h0; subst h0
      simp at hc; obtain ⟨rfl, rfl, rfl⟩ := hc
      rcases ht with ⟨_, s, hs⟩ | ⟨e, ht, hi', hsz, _⟩
      · simp at hs
      · obtain ⟨a, cc, rfl, hlc, hV⟩ := cut_V (h.frozV he hx) (h := (hi.getD xs.length).toNat) (l := (lo.getD 0).toNat) (by omega) (by omega)
        have := slice_run (P := P) (w := w) ht a xs.length cc hl hh h1 (by omega) h3 h4 hi'
        rw [hsz] at this
        exact Does.pure h this hV
    replace hc := grown_inv hc; obtain ⟨tyo, sz, sh, xs, he, rfl, hc⟩ := hc
    replace hc := ask_some5 hc; obtain ⟨h0, h1, h2, h3, h4, hc⟩ := hc
    simp only [decide_eq_true_eq] at h1 h2 h3 h4
    simp at h0; subst h0
    rcases ht with ⟨_, s, hs⟩ | ⟨e, ht, hi', hsz, _⟩
    · simp at hs
    · split at hc
      · replace hc := ask_some hc; obtain ⟨h5, hc⟩ := hc
        simp only [decide_eq_true_eq] at h5
        simp only [Option.some.injEq, Prod.mk.injEq] at hc; obtain ⟨rfl, rfl, rfl⟩ := hc
        rcases h.growOK he with k | ⟨b, cc, vs, fz, k⟩
        · have := k.nil; subst this
          have := k.slice hx; subst this
          have e1 : hi.getD (([] : List AV).length : Int) = 0 := by simp at h1 h2 ⊢; omega
          have hrun := slice_run (P := P) (w := w) ht none 0 0 hl hh (by simpa using h1) (by simpa using h2) h3 (by simpa using h4) hi'
          have e2 : hi.getD ((0 : Nat) : Int) = 0 := by simpa using e1
          rw [hsz, h5, e2] at hrun
          let g' : Gh := { g with cur := fun i => if i = id then some (ver + 1, 0, none, 0) else g.cur i }
          have hle : g.le g' := ⟨rfl, rfl, rfl, fun _ _ _ => rfl, fun _ _ _ e => e, fun _ _ e => e, fun i v' l' b' c' e => by
            show ∃ x, (if i = id then some (ver + 1, 0, none, 0) else g.cur i) = some x ∧ _
            split
            · rename_i e1; subst e1; rw [k.cur] at e; cases e; exact ⟨_, rfl, .inl (by omega)⟩
            · exact ⟨_, e, Hdr.refl _ _ _ _⟩⟩
          have hcur : g'.cur id = some (ver + 1, 0, none, 0) := by show (if id = id then _ else _) = _; rw [if_pos rfl]
          have e3 : (([] : List AV).take (hi.getD (([] : List AV).length : Int)).toNat) = [] := by simp
          rw [e3]
          refine ⟨_, w, g', by simpa using hrun, hle, ?_, .oslice0 _ _ _ hcur (Hdr.refl _ _ _ _)⟩
          refine h.turnV hle (length_of_get he) (fun i hi => by show (if i = id then _ else _) = _; rw [if_neg hi]) (fun _ _ => rfl) rfl (Below.refl _ _) ⟨k.blk, .inl ⟨rfl, k.pos, hcur⟩⟩ (fun _ b' ho => ?_)
          rcases ho with ho | ⟨_, _, _, ho⟩
          · rw [show g'.blk id = g.blk id from rfl, k.blk] at ho; simp at ho
          · rw [hcur] at ho; cases ho
        rw [k.slice hx]
        have hrun := slice_run (P := P) (w := w) ht (some ⟨b, 0, none⟩) xs.length cc hl hh h1 (by have := k.le; omega) h3 h4 hi'
        rw [hsz, h5] at hrun
        have hrun' : (Instr.sliceAt t (.slice (some ⟨b, 0, none⟩) xs.length cc) clo chi none).run P w = .ok (.slice (some ⟨b, 0, none⟩) (hi.getD xs.length).toNat cc) w := by
          rw [hrun]; simp [Addr.add]
        let n := (hi.getD xs.length).toNat
        have hn : n ≤ xs.length := by omega
        let g' : Gh := { g with cur := fun i => if i = id then some (ver + 1, n, some b, cc) else g.cur i }
        have hle : g.le g' := ⟨rfl, rfl, rfl, fun _ _ _ => rfl, fun _ _ _ e => e, fun _ _ e => e, fun i v' l' b' c' e => by
          show ∃ x, (if i = id then some (ver + 1, n, some b, cc) else g.cur i) = some x ∧ _
          split
          · rename_i e1; subst e1; rw [k.cur] at e; cases e; exact ⟨_, rfl, .inl (by omega)⟩
          · exact ⟨_, e, Hdr.refl _ _ _ _⟩⟩
        have hcur : g'.cur id = some (ver + 1, n, some b, cc) := by show (if id = id then _ else _) = _; rw [if_pos rfl]
        have hlen : (xs.take n).length = n := by simp; omega
        refine ⟨_, w, g', hrun', hle, ?_, by rw [hlen]; exact .oslice _ _ _ b cc _ hcur (Hdr.refl _ _ _ _)⟩
        refine h.turn (b := b) hle (length_of_get he) (by rw [he]; simp) (.inr ⟨_, _, _, k.cur⟩) (fun i hi => by show (if i = id then _ else _) = _; rw [if_neg hi]) (fun _ _ => rfl) (fun _ _ _ e => .inl e) (fun _ _ _ e => e) rfl rfl rfl (Nat.le_refl _) (fun _ _ _ => rfl) ?_ (fun _ b' ho => ?_)
        · have hw : ∀ x ∈ xs, (cells x).length = sz := fun x hx => (k.sh x hx).2.1
          refine ⟨k.blk, .inr ?_⟩
          refine ⟨b, cc, vs, fz, by rw [hlen]; exact hcur, k.base, k.heap, k.size, k.pos, by rw [hlen]; have := k.le; omega, ?_, fun x hx => k.sh x (List.mem_of_mem_take hx), by rw [hlen]; have := k.lim; omega, k.imm, k.froz, k.soft⟩
          rw [hlen, flat_take n hw]
          have := (k.vl.mono hle).take (n * sz)
          rwa [List.take_take, Nat.min_eq_left (Nat.mul_le_mul_right _ hn)] at this
        · left
          rcases ho with ho | ⟨_, _, _, ho⟩
          · rw [show g'.blk id = g.blk id from rfl, k.blk] at ho; simp at ho
          · rw [hcur] at ho; cases ho; rfl
      · simp only [Option.some.injEq, Prod.mk.injEq] at hc; obtain ⟨rfl, rfl, rfl⟩ := hc
        obtain ⟨g', hle, hR, hV, -⟩ := h.give he
        replace hV := hV g _ rfl hx
        obtain ⟨a, c2, e2, hlc, hV2⟩ := cut_V hV (h := (hi.getD xs.length).toNat) (l := (lo.getD 0).toNat) (by omega) (by omega)
        subst e2
        have hrun := slice_run (P := P) (w := w) ht a xs.length c2 hl hh h1 (by omega) h3 h4 hi'
        rw [hsz] at hrun
        exact ⟨_, w, g', hrun, hle, hR, hV2⟩
  · simp at hc
end
end Go.Cx

end

section
namespace Go.Cx
open Go.RowKit (Below)
set_option linter.unusedSimpArgs false
section
variable {P : Program} {g : Gh} {w : World} {hp : List Ob}
theorem pickIx_inv {β : Type} {i : Int} {K : Nat → Option β} {r : β} : ∀ {n : Nat}, pickIx none i K n = some r → ∃ m, m < n ∧ i = m ∧ K m = some r
  | 0, h => by simp [pickIx] at h
  | n + 1, h => by
    unfold pickIx at h
    cases hd : decide (i = n) with
    | true => rw [hd] at h; simp at hd; exact ⟨n, by omega, hd, h⟩
    | false => rw [hd] at h; obtain ⟨m, h1, h2, h3⟩ := pickIx_inv h; exact ⟨m, by omega, h2, h3⟩
theorem run_sizeOf_ne {e : TypeId} (h : sizeA P e ≠ 0) : (sizeOf e).run P w = .ok (sizeA P e) w := by
  cases hi : P.info? e with
  | none => simp [sizeA, infoF_eq, hi] at h
  | some i => exact run_sizeOf hi w
theorem els_rptr {sz : Nat} {sh : Sh} {xs : List AV} {vs : List Value} {b o : Nat} (hvl : VL g (flat xs) vs) (hat : At g b o vs) (hel : ∀ x ∈ xs, reshape sh x = x ∧ (cells x).length = sz ∧ (cells x).all oneCell) {i : Nat} (hi : i < xs.length) :
    V g (.rptr (cells (elemAt sh xs i))) (.pointer (some ⟨b, o + i * sz, none⟩)) := by
  have hx : xs[i]? = some xs[i] := by simp [hi]
  have hw : ∀ x ∈ xs, (cells x).length = sz := fun x hx => (hel x hx).2.1
  rw [elemAt_eq (fun x hx => (hel x hx).1) hx]
  have hv := (hvl.drop (i * sz)).take sz
  rw [flat_seg hw hx] at hv
  refine .rptr _ _ b _ hv.1 hv.2 fun j v hj => ?_
  rw [List.getElem?_take, List.getElem?_drop] at hj
  split at hj
  · have := hat _ v hj; rwa [Nat.add_assoc]
  · simp at hj
theorem add_at (b o n : Nat) : (⟨b, o, none⟩ : Addr).add n = ⟨b, o + n, none⟩ := add_none b o n
theorem indexAddrA_sound {t : TypeId} {x i v : AV} (hi : indexAddrA none P t x i some = some v) {cx ci : Value} (hx : V g x cx) (hci : V g i ci) :
    ∃ cv, (Instr.indexAt t cx ci).run P w = .ok cv w ∧ V g v cv := by
  unfold indexAddrA at hi
  split at hi
  · rename_i k n
    cases int_inv hci
    split at hi
    · rename_i len e id off ht
      split at hi
      · simp at hi
      rename_i hs0
      replace hi := pickIx_inv hi
      obtain ⟨m, hm, rfl, hi⟩ := hi
      simp at hi; subst hi
      have hu := tk_array ht
      cases hx with
      | ptr _ _ b hb =>
        refine ⟨_, ?_, .ptr _ _ b hb⟩
        have hsz : (sizeOf e).run P w = .ok (sizeA P e) w := run_sizeOf_ne hs0
        simp [Instr.indexAt, asIntOf, run_underlying hu, Instr.sureAddr, hm, hsz, add_at]
    · rename_i len e cs ht
      split at hi
      · simp at hi
      rename_i hs0
      replace hi := pickIx_inv hi
      obtain ⟨m, hm, rfl, hi⟩ := hi
      simp at hi; subst hi
      have hu := tk_array ht
      cases hx with
      | rptr _ vs b o v1 v2 v3 =>
        have hv := (show VL g _ vs from ⟨v1, v2⟩).drop (m * sizeA P e)
        have hsz : (sizeOf e).run P w = .ok (sizeA P e) w := run_sizeOf_ne hs0
        exact ⟨_, by simp [Instr.indexAt, asIntOf, run_underlying hu, Instr.sureAddr, hm, hsz, add_at]; rfl, .rptr _ _ b _ hv.1 hv.2 fun j v hj => by
          rw [List.getElem?_drop] at hj
          have := v3 _ v hj; rwa [Nat.add_assoc]⟩
    · rename_i e sz sh xs kk ht
      split at hi
      · rename_i hs
        obtain ⟨hs, hs0⟩ := hs; subst hs
        replace hi := ask_some2 hi
        obtain ⟨h1, h2, hi⟩ := hi
        simp only [decide_eq_true_eq] at h1 h2
        simp at hi; subst hi
        have hu := tk_slice ht
        cases hx with
        | slice _ _ _ _ vs b o c v1 v2 v3 v4 v5 v6 =>
          refine ⟨_, ?_, els_rptr ⟨v1, v2⟩ v3 v4 (i := n.toNat) (by omega)⟩
          have hsz : (sizeOf e).run P w = .ok (sizeA P e) w := run_sizeOf_ne hs0
          simp [Instr.indexAt, asIntOf, run_underlying hu, h1, h2, hsz, add_at]
        | slice0 => simp at h2; omega
        | slice1 => simp at h2; omega
      · simp at hi
    · rename_i e sz sh xs ys ht
      split at hi
      · rename_i hs
        obtain ⟨hs, hs0⟩ := hs; subst hs
        replace hi := ask_some2 hi
        obtain ⟨h1, h2, hi⟩ := hi
        simp only [decide_eq_true_eq] at h1 h2
        simp at hi; subst hi
        have hu := tk_slice ht
        have hx' := fslice_weak hx
        cases hx with
        | fslice _ _ _ _ vs b o v1 v2 v3 v4 v5 =>
          cases hx' with
          | slice _ _ _ _ vs' _ _ c u1 u2 u3 u4 u5 u6 =>
            refine ⟨_, ?_, els_rptr ⟨u1, u2⟩ u3 u4 (i := n.toNat) (by omega)⟩
            have hsz : (sizeOf e).run P w = .ok (sizeA P e) w := run_sizeOf_ne hs0
            simp [Instr.indexAt, asIntOf, run_underlying hu, h1, h2, hsz, add_at]
          | slice1 => simp at h2; omega
      · simp at hi
    · rename_i e id ver len ht
      split at hi
      · rename_i hs0
        replace hi := ask_some2 hi
        obtain ⟨h1, h2, hi⟩ := hi
        simp only [decide_eq_true_eq] at h1 h2
        simp at hi; subst hi
        have hu := tk_slice ht
        cases hx with
        | oslice _ _ _ b c x e1 e2 =>
          refine ⟨_, ?_, .optr _ _ _ _ _ _ b c x e1 e2⟩
          have hsz : (sizeOf e).run P w = .ok (sizeA P e) w := run_sizeOf_ne hs0
          simp [Instr.indexAt, asIntOf, run_underlying hu, h1, h2, hsz, add_at]
        | oslice0 => simp at h2; omega
      · simp at hi
    · simp at hi
  · simp at hi
theorem indexA_sound {t : TypeId} {x i v : AV} (hi : indexA none P t x i some = some v) {cx ci : Value} (hx : V g x cx) (hci : V g i ci) :
    ∃ cv, (Instr.index t cx ci).run P w = .ok cv w ∧ V g v cv := by
  unfold indexA at hi
  split at hi
  · rename_i k n
    cases int_inv hci
    split at hi
    · rename_i s ht
      replace hi := ask_some2 hi
      obtain ⟨h1, h2, hi⟩ := hi
      simp only [decide_eq_true_eq] at h1 h2
      simp at hi; subst hi
      obtain ⟨rfl, _⟩ := str_inv hx
      refine ⟨_, ?_, .int _ _⟩
      have hlt : n.toNat < s.length := by omega
      have hget : (⟨⟨s⟩⟩ : ByteArray)[n.toNat]? = some (s.getD n.toNat 0) := by
        have e1 : (⟨⟨s⟩⟩ : ByteArray).size = s.length := rfl
        rw [getElem?_pos (⟨⟨s⟩⟩ : ByteArray) n.toNat (by rw [e1]; exact hlt)]
        congr 1
        rw [List.getD_eq_getElem?_getD, List.getElem?_eq_getElem hlt]
        rfl
      simp [Instr.index, asIntOf, run_underlying (tk_str ht), h1, hget]
    · rename_i len e cs ht
      split at hi
      · simp at hi
      rename_i hs0
      replace hi := pickIx_inv hi
      obtain ⟨m, hm, rfl, hi⟩ := hi
      cases hx with
      | agg _ vs v1 v2 =>
        obtain ⟨cv, hr, hV⟩ := (fromCells_sound (w := w) hi (vs := vs.toList) ⟨by simpa using v1, by simpa using v2⟩).2
        refine ⟨cv, ?_, hV⟩
        have hsz : (sizeOf e).run P w = .ok (sizeA P e) w := run_sizeOf_ne hs0
        simp only [Array.toArray_toList] at hr
        simp [Instr.index, asIntOf, run_underlying (tk_array ht), hm, hsz, hr]
    · simp at hi
  · simp at hi
theorem fieldAddrA_sound {t : TypeId} {x v : AV} {f : Nat} (hf : fieldAddrA none P t x f some = some v) {cx : Value} (hx : V g x cx) :
    ∃ cv, (Instr.fieldAt t cx f).run P w = .ok cv w ∧ V g v cv := by
  unfold fieldAddrA at hf
  split at hf
  · rename_i l ht
    obtain ⟨fs, hu, rfl⟩ := tk_struct ht
    split at hf
    · rename_i off u hl
      simp only [List.getElem?_map, Option.map_eq_some_iff] at hl
      obtain ⟨fl, hfl, he⟩ := hl
      simp only [Prod.mk.injEq] at he
      obtain ⟨rfl, rfl⟩ := he
      have hfl' : fs[f]? = some fl := by simpa using hfl
      split at hf
      · simp at hf
      · rename_i hsz
        have hso : ∃ i, P.info? fl.type = some i := by
          cases hi : P.info? fl.type with
          | none => simp [sizeA, infoF_eq, hi] at hsz
          | some i => exact ⟨i, rfl⟩
        obtain ⟨i, hi⟩ := hso
        have key : ∀ a : Addr, (Instr.fieldAt t (.pointer (some a)) f).run P w = .ok (.pointer (some (a.add fl.offset))) w := by
          intro a
          simp [Instr.fieldAt, run_underlying hu, hfl', Instr.sureAddr, fieldPlace, run_sizeOf hi, hsz]
        split at hf
        · simp at hf; subst hf
          cases hx with
          | ptr _ _ b hb => exact ⟨_, by rw [key, add_at], .ptr _ _ b hb⟩
        · simp at hf; subst hf
          cases hx with
          | rptr _ vs b o v1 v2 v3 =>
            have hv := (show VL g _ vs from ⟨v1, v2⟩).drop fl.offset
            exact ⟨_, by rw [key, add_at], .rptr _ _ b _ hv.1 hv.2 fun j v hj => by
              rw [List.getElem?_drop] at hj
              have := v3 _ v hj; rwa [Nat.add_assoc]⟩
        · simp at hf; subst hf
          cases hx with
          | optr _ _ _ _ _ _ b c x e1 e2 => exact ⟨_, by rw [key, add_at, Nat.add_assoc], .optr _ _ _ _ _ _ b c x e1 e2⟩
        · simp at hf
    · simp at hf
  · simp at hf
theorem fieldA_sound {t : TypeId} {x v : AV} {f : Nat} (hf : fieldA none P t x f some = some v) {cx : Value} (hx : V g x cx) :
    ∃ cv, (Instr.field t cx f).run P w = .ok cv w ∧ V g v cv := by
  unfold fieldA at hf
  split at hf
  · rename_i l ht
    obtain ⟨fs, hu, rfl⟩ := tk_struct ht
    split at hf
    · rename_i off u cs hl
      simp only [List.getElem?_map, Option.map_eq_some_iff] at hl
      obtain ⟨fl, hfl, he⟩ := hl
      simp only [Prod.mk.injEq] at he
      obtain ⟨rfl, rfl⟩ := he
      have hfl' : fs[f]? = some fl := by simpa using hfl
      cases hx with
      | agg _ vs v1 v2 =>
        obtain ⟨cv, hr, hV⟩ := (fromCells_sound (w := w) hf (vs := vs.toList) ⟨by simpa using v1, by simpa using v2⟩).2
        refine ⟨cv, ?_, hV⟩
        simp only [Array.toArray_toList] at hr
        simp [Instr.field, run_underlying hu, hfl', asAgg, hr]
    · simp at hf
  · simp at hf
theorem lenA_sound {t ty : TypeId} {x v : AV} (hl : lenA none P t x some = some v) {cx : Value} (hx : V g x cx) (args : Array Value) (h0 : args[0]? = some cx) (ts : Array TypeId) (hts : ts[0]? = some t) :
    ∃ cv, (Builtin.len_ ts ty args).run P w = .ok cv w ∧ V g v cv := by
  unfold lenA at hl
  split at hl
  · rename_i s ht
    obtain ⟨rfl, _⟩ := str_inv hx
    simp at hl; subst hl
    exact ⟨_, by simp only [Builtin.len_, hts, h0, Sem.run_bind, run_underlying (tk_str ht), Result.andThen_ok]; rfl, .int _ _⟩
  · rename_i n e ht
    simp at hl; subst hl
    exact ⟨_, by simp only [Builtin.len_, hts, h0]; simp [run_underlying (tk_array ht), goInt], .int _ _⟩
  · rename_i e ht
    cases hx
    simp at hl; subst hl
    exact ⟨_, by simp only [Builtin.len_, hts, h0]; simp [run_underlying (tk_slice ht), goInt], .int _ _⟩
  · rename_i e sz sh xs k ht
    simp at hl; subst hl
    cases hx <;> exact ⟨_, by simp only [Builtin.len_, hts, h0]; simp [run_underlying (tk_slice ht), goInt], .int _ _⟩
  · rename_i e sz sh xs ys ht
    simp at hl; subst hl
    cases hx; exact ⟨_, by simp only [Builtin.len_, hts, h0]; simp [run_underlying (tk_slice ht), goInt], .int _ _⟩
  · rename_i e id ver n ht
    simp at hl; subst hl
    cases hx <;> exact ⟨_, by simp only [Builtin.len_, hts, h0]; simp [run_underlying (tk_slice ht), goInt], .int _ _⟩
  · simp at hl
theorem capA_sound {t ty : TypeId} {x v : AV} (hl : capA none P t x some = some v) {cx : Value} (hx : V g x cx) (args : Array Value) (h0 : args[0]? = some cx) (ts : Array TypeId) (hts : ts[0]? = some t) :
    ∃ cv, (Builtin.cap_ ts ty args).run P w = .ok cv w ∧ V g v cv := by
  unfold capA at hl
  split at hl
  · rename_i e ht
    cases hx
    simp at hl; subst hl
    exact ⟨_, by simp only [Builtin.cap_, hts, h0]; simp [run_underlying (tk_slice ht), goInt], .int _ _⟩
  · rename_i e sz sh xs ys ht
    simp at hl; subst hl
    cases hx; exact ⟨_, by simp only [Builtin.cap_, hts, h0]; simp [run_underlying (tk_slice ht), goInt], .int _ _⟩
  · simp at hl
end
end Go.Cx

end

section
namespace Go.Cx
open Go.RowKit (Below)
set_option linter.unusedSimpArgs false
section
variable {P : Program} {g : Gh} {w : World} {hp : List Ob}
theorem heap_new (w : World) (o : Obj) : (w.alloc o).heap[w.heap.size]? = some o := by
  show (w.heap.push o)[w.heap.size]? = _
  simp
theorem frozen_new {w : World} {b o : Nat} {vs : Array Value} {ty : TypeId} (h : w.heap[b]? = some (.cells vs ty (0, 0))) : w.frozen? ⟨b, o, none⟩ = false := by
  simp only [World.frozen?, h]; simp
theorem R.fresh (h : R g w hp) : (∀ i, own g i w.heap.size → gone hp[i]? = true) ∧ (∀ o, g.imm w.heap.size o = none) := by
  refine ⟨fun i ho => ?_, fun o => ?_⟩
  · cases hd : gone hp[i]? with
    | true => rfl
    | false => have := (h.own_lt hd ho).2.1; omega
  · cases hi : g.imm w.heap.size o with
    | none => rfl
    | some v => have := cell_lt (h.imm _ _ _ hi); omega
theorem R.addImm {w' : World} (h : R g w hp) (hb' : Below w.heap.size w w') {vs : Array Value} {ty : TypeId} {fz : Nat × Nat} (hb : w'.heap[w.heap.size]? = some (.cells vs ty fz)) :
    ∃ g', g.le g' ∧ R g' w' hp ∧ At g' w.heap.size 0 vs.toList := by
  obtain ⟨f1, f2⟩ := h.fresh
  have h' := h.grow hb'
  let g' : Gh := { g with imm := fun b o => if b = w.heap.size then vs[o]? else g.imm b o }
  have hle : g.le g' := ⟨rfl, rfl, rfl, fun b o hn => if_neg (fun (e : b = w.heap.size) => hn (by rw [e]; exact h.newFree)), fun b o v e => by
    show (if b = w.heap.size then vs[o]? else g.imm b o) = some v
    split
    · rename_i e1; subst e1; rw [f2 o] at e; simp at e
    · exact e, fun _ _ e => e, fun _ _ _ _ _ e => ⟨_, e, Hdr.refl _ _ _ _⟩⟩
  refine ⟨g', hle, ⟨h'.below, h'.base, h'.frz, fun b o v e => ?_, fun i => (h'.objs i).keep rfl rfl rfl hle (fun _ _ _ => rfl) (fun b o' ho hd e => ?_), h'.inj⟩, fun i v e => ?_⟩
  · have e2 : (if b = w.heap.size then vs[o]? else g.imm b o) = some v := e
    clear e
    split at e2
    · rename_i e1; subst e1
      simp only [World.cell?, hb]; simpa using e2
    · exact h'.imm b o v e2
  · show (if b = w.heap.size then vs[o']? else g.imm b o') = none
    have := (h.own_lt hd ho).2.1
    rw [if_neg (by omega)]; exact e
  · show (if w.heap.size = w.heap.size then vs[0 + i]? else _) = some v
    rw [if_pos rfl, Nat.zero_add]; simpa using e
theorem zero_run {t : TypeId} {z : AV} (hz : zeroA P t = some z) : ∃ i cz, P.info? t = some i ∧ i.zero = some cz ∧ V g z cz ∧ (zeroValue t).run P w = .ok cz w := by
  unfold zeroA at hz; rw [infoF_eq] at hz
  split at hz
  · rename_i i hi
    simp only [Option.map_eq_some_iff] at hz
    obtain ⟨cz, h1, rfl⟩ := hz
    exact ⟨i, cz, hi, h1, ofConst_V g cz, by simp [zeroValue, typeInfo, hi, h1]⟩
  · simp at hz
theorem newVar_run (t : TypeId) (v : Value) : (newVar t v).run P w = .ok ⟨w.heap.size, 0, none⟩ (w.alloc (.cells v.cells t)) := by
  simp [newVar, newRow]
theorem box_sound (h : R g w hp) {x : AV} {cx : Value} (hx : V g x cx) (h1 : (cells x).all oneCell = true) (t : TypeId) :
    ∃ g', g.le g' ∧ R g' (w.alloc (.cells cx.cells t)) (hp ++ [.fix t (cells x)]) ∧ V g' (.ptr hp.length 0) (.pointer (some ⟨w.heap.size, 0, none⟩)) := by
  obtain ⟨hv, _⟩ := cells_V hx h1
  obtain ⟨f1, f2⟩ := h.fresh
  have hb : (w.alloc (.cells cx.cells t)).heap[w.heap.size]? = some (.cells cx.cells t (0, 0)) := heap_new _ _
  obtain ⟨g', hle, hblk, hR⟩ := (h.alloc (.cells cx.cells t)).addFix hb h.newFree f1 f2 hv (fun c hc => List.all_eq_true.1 h1 c hc) (fun o ho => frozen_new hb)
  exact ⟨g', hle, hR, .ptr _ _ _ hblk⟩
theorem bytes_ints : ∀ {xs : List AV} {vs : List Value}, (∀ x ∈ xs, reshape (.int .u8) x = x) → VL g xs vs → vs = (xs.map getI).map (Value.int .u8)
  | [], vs, _, h => by rw [h.nil_inv]; rfl
  | x :: xs, vs, hs, h => by
    obtain ⟨v, vs', rfl, h1, h2⟩ := h.cons_inv
    have e := hs x (by simp)
    simp only [reshape] at e
    rw [← e] at h1
    cases int_inv h1
    rw [bytes_ints (fun y hy => hs y (by simp [hy])) h2]
    rfl
theorem foldl_push (l : List UInt8) (b : ByteArray) : l.foldl (fun r x => r.push x) b = b ++ ⟨⟨l⟩⟩ := by
  induction l generalizing b with
  | nil => apply ByteArray.ext; simp
  | cons x l ih =>
    rw [List.foldl_cons, ih]
    apply ByteArray.ext
    obtain ⟨⟨d⟩⟩ := b
    simp [ByteArray.push]
theorem flat_one {xs : List AV} (h : ∀ x ∈ xs, (cells x).length = 1 ∧ reshape (.int .u8) x = x) : flat xs = xs := by
  induction xs with
  | nil => rfl
  | cons x xs ih =>
    rw [flat_cons, ih (fun y hy => h y (by simp [hy]))]
    have e := (h x (by simp)).2
    simp only [reshape] at e
    rw [← e]; rfl
theorem byte_fit (b : UInt8) : reshape (.int .u8) (byte b) = byte b ∧ (cells (byte b)).length = 1 ∧ (cells (byte b)).all oneCell = true := ⟨rfl, rfl, rfl⟩
theorem flat_bytes (l : List UInt8) : flat (l.map byte) = l.map byte := by
  apply flat_one
  intro x hx
  simp at hx
  obtain ⟨b, _, rfl⟩ := hx
  exact ⟨rfl, rfl⟩
theorem VL_bytes (g : Gh) (l : List UInt8) : VL g (l.map byte) (l.map fun b => .int .u8 b.toNat) := by
  refine ⟨by simp, fun i c v h1 h2 => ?_⟩
  simp only [List.getElem?_map] at h1 h2
  cases hl : l[i]? with
  | none => rw [hl] at h1; simp at h1
  | some b => rw [hl] at h1 h2; simp at h1 h2; subst h1 h2; exact .int _ _
theorem strBytes_run (e : TypeId) (l : List UInt8) :
    ∃ c w', l.length ≤ c ∧ (Conv.stringToBytes e ⟨⟨l⟩⟩).run P w = .ok (.slice (some ⟨w.heap.size, 0, none⟩) l.length c) w' ∧ Below w.heap.size w w' ∧
      (∃ fz, w'.heap[w.heap.size]? = some (.cells ((l.map fun b => Value.int .u8 b.toNat).toArray ++ Array.replicate (c - l.length) (.int .u8 0)) e fz) ∧ (∀ o, o < c → w'.frozen? ⟨w.heap.size, o, none⟩ = false) ∧ soft c fz) := by
  have e1 : (⟨⟨l⟩⟩ : ByteArray).size = l.length := rfl
  let c := (Question.appendCap l.length 0 e).cut (w.tape w.drawn (.appendCap l.length 0 e))
  have hc : l.length ≤ c := by simp only [c, Question.cut]; omega
  let cs := (l.map fun b => Value.int .u8 b.toNat).toArray ++ Array.replicate (c - l.length) (.int .u8 0)
  have hcs : cs.size = c := by simp [cs]; omega
  let w1 := w.drew.alloc (.cells cs e)
  have hb1 : w1.heap[w.heap.size]? = some (.cells cs e (0, 0)) := heap_new w.drew _
  refine ⟨c, w1.freeze ⟨w.heap.size, c, none⟩ 1, hc, ?_, ?_, (c, c + 1), ?_, ?_, .inr (Nat.le_refl _)⟩
  · have hsh : w1.shape? w.heap.size = some (e, c) := by simp [World.shape?, hb1, hcs]
    simp only [Conv.stringToBytes, Sem.run_bind, run_choose, e1, Question.forced, Bool.false_eq_true, if_false, Result.andThen_ok, newRow, run_newObj, Sem.run_pure, World.drew_eq, World.alloc_eq, markStringish, run_shape]
    simp only [World.size_drew, List.map_toArray]
    have : (w.drew.alloc (.cells ((l.map fun b => Value.int .u8 b.toNat).toArray ++ Array.replicate (c - l.length) (.int .u8 0)) e)).shape? w.heap.size = some (e, c) := hsh
    simp only [c] at this ⊢
    simp only [this]
    simp [w1, cs, c]
  · refine (show Below w.heap.size w w1 from (Below.refl _ _).drew.alloc (Nat.le_refl _) _).trans ⟨rfl, rfl, rfl, by simp [World.freeze, w1], fun k hk => ?_⟩
    simp only [World.freeze, Nat.one_ne_zero, if_false, Array.getElem?_modify]
    rw [if_neg (by omega)]
  · simp only [World.freeze, Nat.one_ne_zero, if_false, Array.getElem?_modify, if_true, hb1]
    simp [cs]
  · intro o ho
    simp only [World.frozen?, World.freeze, Nat.one_ne_zero, if_false, Array.getElem?_modify, if_true, hb1]
    simp
    omega
theorem beq_int8 {sh : Sh} (h : sh.beq (.int .u8) = true) : sh = .int .u8 := Sh.beq_eq _ _ h
theorem slice_str {sz : Nat} {sh : Sh} {xs : List AV} {cx : Value} (e : Els g w sz sh xs cx) (hsz : sz = 1 ∨ xs = []) (hsh : sh = .int .u8 ∨ xs = []) :
    (Conv.bytesToString cx).run P w = .ok (.string ⟨⟨bytesOf xs⟩⟩) w := by
  have h8 : ∀ x ∈ xs, (cells x).length = 1 ∧ reshape (.int .u8) x = x := by
    intro x hx
    have h1 := e.el x hx
    rcases hsz with rfl | rfl
    · rcases hsh with rfl | rfl
      · exact ⟨h1.2.1, h1.1⟩
      · simp at hx
    · simp at hx
  obtain ⟨a, c, hc, _, h0, h1⟩ := e.some
  subst hc
  cases a with
  | none => obtain ⟨rfl, rfl⟩ := h0 rfl; rfl
  | some a =>
    rcases h1 a rfl with rfl | ⟨b, o, vs, rfl, hv, hl⟩
    · rfl
    rw [flat_one h8] at hv
    have hvs := bytes_ints (fun x hx => (h8 x hx).2) hv
    have hlen : (xs.map getI).length = xs.length := by simp
    have hload : (loadCells ⟨b, o, none⟩ xs.length).run P w = .ok ((xs.map getI).map (Value.int .u8)).toArray w := by
      have := load_lies (P := P) hl
      rwa [hvs, List.length_map, List.length_map] at this
    rw [run_bytesToString w _ _ _ _ hload]
    congr 2
    have : ∀ (l : List Int) (r : ByteArray), l.foldl (fun r n => r.push (UInt8.ofNat n.toNat)) r = (l.map fun n => UInt8.ofNat n.toNat).foldl (fun r x => r.push x) r := by
      intro l
      induction l with
      | nil => intro r; rfl
      | cons n l ih => intro r; exact ih _
    rw [this, foldl_push]
    apply ByteArray.ext
    simp [bytesOf, toB, Function.comp_def]
theorem elems_cps {β : Type} {x : AV} {K : Nat → Sh → List AV → Cls → Option β} {r : β} (h : elems none hp x K = some r) :
    ∃ sz sh xs cl, elems none hp x (fun a b c d => some (a, b, c, d)) = some (sz, sh, xs, cl) ∧ K sz sh xs cl = some r := by
  unfold elems at h ⊢
  split at h
  · exact ⟨_, _, _, _, rfl, h⟩
  · exact ⟨_, _, _, _, rfl, h⟩
  · exact ⟨_, _, _, _, rfl, h⟩
  · replace h := grownR_inv h
    obtain ⟨sz, sh, xs, he, rfl, h⟩ := h
    refine ⟨sz, sh, xs, .read, ?_, h⟩
    rcases he with ⟨ty, he⟩ | he <;> simp [grownR, he, ask]
  · simp at h
theorem freeze_other {w : World} {a : Addr} {n k : Nat} (hk : k ≠ a.block) : (w.freeze a n).heap[k]? = w.heap[k]? := by
  unfold World.freeze
  split
  · rfl
  · simp only [Array.getElem?_modify]
    rw [if_neg (Ne.symm hk)]
theorem freeze_cell {w : World} {a : Addr} {n b o : Nat} : (w.freeze a n).cell? ⟨b, o, none⟩ = w.cell? ⟨b, o, none⟩ := by
  by_cases hb : b = a.block
  · subst hb
    unfold World.freeze
    split
    · rfl
    · unfold World.cell?
      simp only [Array.getElem?_modify, if_true]
      cases w.heap[a.block]? with
      | none => rfl
      | some o => cases o <;> rfl
  · exact cell_congr (freeze_other hb)
theorem R.giveMark (h : R g w hp) {ty : TypeId} {id ver sz : Nat} {sh : Sh} {xs : List AV} (he : hp[id]? = some (.grow ty ver sz sh xs)) (hne : xs ≠ []) {cx : Value} (hx : V g (.oslice id ver xs.length) cx) :
    ∃ b c n e, cx = .slice (some ⟨b, 0, none⟩) xs.length c ∧ w.shape? b = some (e, n) ∧ ∃ g', g.le g' ∧ R g' (w.freeze ⟨b, n, none⟩ 1) (hp.set id .dead) ∧ V g' (.slice sz sh xs .ro) cx := by
  rcases h.growOK he with k | ⟨b, c, vs, fz, k⟩
  · exact absurd k.nil hne
  have hc := k.cur
  let seg := vs.toList.take (xs.length * sz)
  let g' : Gh := { g with imm := fun b' o => if b' = b then seg[o]? else g.imm b' o }
  have hle : g.le g' := ⟨rfl, rfl, rfl, fun b' o hn => if_neg (fun (e : b' = b) => hn (by rw [e]; exact k.base)), fun b' o v e => by
    show (if b' = b then seg[o]? else g.imm b' o) = some v
    split
    · rename_i e1; subst e1; rw [k.imm o] at e; simp at e
    · exact e, fun _ _ e => e, fun i _ _ _ _ e => ⟨_, e, Hdr.refl _ _ _ _⟩⟩
  have hs : V g' (.slice sz sh xs .ro) (.slice (some ⟨b, 0, none⟩) xs.length c) := by
    have hv := k.vl.mono hle
    exact .slice _ _ _ _ seg b 0 c hv.1 hv.2 (fun i v e => by show (if b = b then seg[0 + i]? else g.imm b (0 + i)) = some v; rw [if_pos rfl, Nat.zero_add]; exact e) k.sh k.le k.lim
  have hcx : cx = .slice (some ⟨b, 0, none⟩) xs.length c := by
    generalize hn : xs.length = n at hx hc hs ⊢
    cases hx with
    | oslice _ _ _ b' c' x hx hh =>
      rw [hc] at hx; cases hx
      rcases hh with hh | ⟨_, _, hh⟩
      · omega
      · have := hh rfl; simp at this; obtain ⟨rfl, rfl⟩ := this; rfl
    | oslice0 _ _ x hx hh =>
      rw [hc] at hx; cases hx
      rcases hh with hh | ⟨_, _, hh⟩
      · omega
      · have := (hh rfl).1; simp at this
  refine ⟨b, c, vs.size, ty, hcx, by simp [World.shape?, k.heap], g', hle, ?_, by rw [hcx]; exact hs⟩
  refine h.turn (b := b) hle (length_of_get he) (by rw [he]; simp) (.inr ⟨_, _, _, k.cur⟩) (fun _ _ => rfl) (fun _ _ => rfl) (fun b' o' v e => ?_) (fun b' o' hne e => ?_) (by simp [World.freeze]) (by simp [World.freeze]) (by simp [World.freeze]) (by simp [World.freeze]) (fun k _ hk => freeze_other hk) ⟨k.blk, trivial⟩ (fun e => by simp at e)
  · have e2 : (if b' = b then seg[o']? else g.imm b' o') = some v := e
    clear e
    split at e2
    · rename_i e1; subst e1
      right; exact ⟨rfl, by rw [freeze_cell]; have := k.lies o' v e2; rwa [Nat.zero_add] at this⟩
    · left; exact e2
  · show (if b' = b then seg[o']? else g.imm b' o') = none
    rw [if_neg hne]; exact e
theorem R.mark (h : R g w hp) {ty : TypeId} {id ver sz : Nat} {sh : Sh} {xs : List AV} (he : hp[id]? = some (.grow ty ver sz sh xs)) (hne : xs ≠ []) {cx : Value} (hx : V g (.oslice id ver xs.length) cx) :
    ∃ b c n e, cx = .slice (some ⟨b, 0, none⟩) xs.length c ∧ w.shape? b = some (e, n) ∧ R g (w.freeze ⟨b, n, none⟩ 1) hp := by
  rcases h.growOK he with k | ⟨b, c, vs, fz, k⟩
  · exact absurd k.nil hne
  have hc := k.cur
  have hpos : 0 < xs.length := List.length_pos_iff.2 hne
  have hcx : cx = .slice (some ⟨b, 0, none⟩) xs.length c := by
    generalize hn : xs.length = n at hx hc hpos ⊢
    cases hx with
    | oslice _ _ _ b' c' x hx hh =>
      rw [hc] at hx; cases hx
      rcases hh with hh | ⟨_, _, hh⟩
      · omega
      · have := hh rfl; simp at this; obtain ⟨rfl, rfl⟩ := this; rfl
    | oslice0 _ _ x hx hh =>
      rw [hc] at hx; cases hx
      rcases hh with hh | ⟨_, _, hh⟩
      · omega
      · have := (hh rfl).1; simp at this
  refine ⟨b, c, vs.size, ty, hcx, by simp [World.shape?, k.heap], ?_⟩
  have hs : hp.set id (.grow ty ver sz sh xs) = hp := by
    apply List.ext_getElem?
    intro i
    rw [List.getElem?_set]
    split
    · rename_i e; subst e; rw [he, if_pos (length_of_get he)]
    · rfl
  have hb : (w.freeze ⟨b, vs.size, none⟩ 1).heap[b]? = some (.cells vs ty (if fz.1 == fz.2 then (vs.size, vs.size + 1) else (min fz.1 vs.size, max fz.2 (vs.size + 1)))) := by
    obtain ⟨lo, hi⟩ := fz
    simp only [World.freeze, Nat.one_ne_zero, if_false, Array.getElem?_modify, if_true, k.heap]
    rfl
  have hsoft : soft vs.size (if fz.1 == fz.2 then (vs.size, vs.size + 1) else (min fz.1 vs.size, max fz.2 (vs.size + 1))) := by
    right
    split
    · exact Nat.le_refl _
    · rename_i hlt
      rcases k.soft with e | e
      · exact absurd (by simpa using e) hlt
      · show vs.size ≤ min fz.1 vs.size; omega
  generalize (if fz.1 == fz.2 then (vs.size, vs.size + 1) else (min fz.1 vs.size, max fz.2 (vs.size + 1))) = fz2 at hb hsoft
  have hfr : ∀ o, o < vs.size → (w.freeze ⟨b, vs.size, none⟩ 1).frozen? ⟨b, o, none⟩ = false := by
    intro o ho
    obtain ⟨lo, hi⟩ := fz2
    simp only [World.frozen?, hb]
    rcases hsoft with e | e
    · simp only at e; subst e; simp only [Bool.and_eq_false_iff, decide_eq_false_iff_not]; omega
    · simp only at e; simp only [Bool.and_eq_false_iff, decide_eq_false_iff_not]; omega
  have := h.turn (g' := g) (w' := w.freeze ⟨b, vs.size, none⟩ 1) (b := b) (o := .grow ty ver sz sh xs) (Gh.le.refl g) (length_of_get he) (by rw [he]; simp) (.inr ⟨_, _, _, k.cur⟩) (fun _ _ => rfl) (fun _ _ => rfl) (fun _ _ _ e => .inl e) (fun _ _ _ e => e) (by simp [World.freeze]) (by simp [World.freeze]) (by simp [World.freeze]) (by simp [World.freeze]) (fun k _ hk => freeze_other hk)
    ⟨k.blk, .inr ⟨b, c, vs, fz2, k.cur, k.base, hb, k.size, k.pos, k.le, k.vl, k.sh, k.lim, k.imm, hfr, hsoft⟩⟩ (fun _ b' ho => by
      left
      rcases ho with ho | ⟨_, _, _, ho⟩
      · rw [k.blk] at ho; simp at ho
      · rw [k.cur] at ho; cases ho; rfl)
  rwa [hs] at this
theorem convA_sound (h : R g w hp) {own : Bool} {src dst : TypeId} {x v : AV} {hp' : List Ob} {c : Cls} (hc : convA none P own src dst x hp (fun v h c => some (v, h, c)) = some (v, hp', c)) {cx : Value} (hx : V g x cx) :
    Does P g w (convert src dst cx) v hp' := by
  unfold convA at hc
  split at hc
  · rename_i k0 k k1 n h1 h2
    simp at hc; obtain ⟨rfl, rfl, rfl⟩ := hc
    cases int_inv hx
    exact Does.pure h (by simp [convert, run_underlying (tk_int h1), run_underlying (tk_int h2), Conv.intToInt]) (.int _ _)
  · rename_i s h1 h2
    simp at hc; obtain ⟨rfl, rfl, rfl⟩ := hc
    obtain ⟨rfl, hl⟩ := str_inv hx
    exact Does.pure h (by simp [convert, run_underlying (tk_str h1), run_underlying (tk_str h2)]) hx
  · rename_i t id off h1 h2
    split at hc
    · rename_i ty cs he
      split at hc
      · rename_i hcond
        simp only [Option.some.injEq, Prod.mk.injEq] at hc; obtain ⟨rfl, rfl, rfl⟩ := hc
        have k := h.objs id
        rw [he] at k
        obtain ⟨k1, b, vs, fz, k2, k3, k4, k5, k6, k7, k8⟩ := k
        cases hx with
        | ptr _ _ b' hb =>
          rw [k2] at hb; cases hb
          obtain ⟨j, hj⟩ : ∃ j, P.info? t = some j := by
            cases hi : P.info? t with
            | none => simp [sizeA, infoF_eq, hi] at hcond
            | some j => exact ⟨j, rfl⟩
          have hsz : j.size ≠ 0 := by have := hcond.1; simpa [sizeA, infoF_eq, hj] using this
          have hlen : cs.length = vs.size := by have := k5.1; simpa using this
          exact Does.pure h (Lib.run_to_unsafe w ⟨b, off, none⟩ (tk_pointer h1) (tk_unsafe h2) hj hsz (e := ty) (cells := vs.size) (by simp [World.shape?, k4]) (by simp; omega)) (.ptr _ _ b k2)
      · simp at hc
    · simp at hc
  · rename_i u id off h1 h2
    split at hc
    · rename_i ty cs he
      split at hc
      · rename_i hcond
        simp only [Option.some.injEq, Prod.mk.injEq] at hc; obtain ⟨rfl, rfl, rfl⟩ := hc
        have k := h.objs id
        rw [he] at k
        obtain ⟨k1, b, vs, fz, k2, k3, k4, k5, k6, k7, k8⟩ := k
        cases hx with
        | ptr _ _ b' hb =>
          rw [k2] at hb; cases hb
          obtain ⟨j, hj⟩ := Option.isSome_iff_exists.1 (show (P.info? u).isSome = true by rw [← infoF_eq]; exact hcond.1)
          have hlen : cs.length = vs.size := by have := k5.1; simpa using this
          have hl := hcond.2
          rw [hlen] at hl
          exact Does.pure h (Lib.run_from_unsafe w ⟨b, off, none⟩ (tk_unsafe h1) (tk_pointer h2) hj (e := ty) (cells := vs.size) (by simp [World.shape?, k4]) hl) (.ptr _ _ b k2)
      · simp at hc
    · simp at hc
  · rename_i e s h1 h2
    split at hc
    · rename_i he
      obtain ⟨rfl, hl⟩ := str_inv hx
      obtain ⟨cc, w', hcc, hrun, hbel, ⟨fz, hblk, hfr, hsoft⟩⟩ := strBytes_run (P := P) (w := w) e s
      have hrun' : (convert src dst (.string ⟨⟨s⟩⟩)).run P w = .ok (.slice (some ⟨w.heap.size, 0, none⟩) s.length cc) w' := by
        simp only [convert, Sem.run_bind, run_underlying (tk_str h1), run_underlying (tk_slice h2), run_underlying (tk_int he), Result.andThen_ok]
        exact hrun
      have hel : ∀ x ∈ s.map byte, reshape (.int .u8) x = x ∧ (cells x).length = 1 ∧ (cells x).all oneCell := by
        intro x hx; simp at hx; obtain ⟨b, _, rfl⟩ := hx; exact byte_fit b
      have hlen : (s.map byte).length = s.length := by simp
      split at hc
      · simp at hc; obtain ⟨rfl, rfl, rfl⟩ := hc
        obtain ⟨f1, f2⟩ := h.fresh
        have hse : (((s.map fun b => Value.int .u8 b.toNat).toArray ++ Array.replicate (cc - s.length) (.int .u8 0)) : Array Value).size = cc := by simp; omega
        obtain ⟨g', hle, hcur, hR⟩ := (h.grow hbel).addGrow (sz := 1) (c := cc) (sh := .int .u8) (xs := s.map byte) hblk h.newFree f1 f2 (by simp; omega) (by omega) (by simpa using hcc)
          (by
            rw [flat_bytes, hlen, Nat.mul_one]
            have := VL_bytes g s
            simpa using this) hel (by simpa using hl) (fun o ho => hfr o (by simp at ho; omega)) (by rw [hse]; exact hsoft)
        rw [hlen] at hcur
        exact ⟨_, w', g', hrun', hle, hR, .oslice _ _ _ _ _ _ hcur (Hdr.refl _ _ _ _)⟩
      · simp at hc; obtain ⟨rfl, rfl, rfl⟩ := hc
        obtain ⟨g', hle, hR, hat⟩ := h.addImm hbel hblk
        refine ⟨_, w', g', hrun', hle, hR, ?_⟩
        have hv := VL_bytes g' s
        rw [← hlen]
        refine .slice _ _ _ _ (s.map fun b => .int .u8 b.toNat) w.heap.size 0 cc (by rw [flat_bytes]; exact hv.1) (by rw [flat_bytes]; exact hv.2) (fun i v hi => ?_) hel (by simpa using hcc) (by simpa using hl)
        refine hat i v ?_
        have := length_of_get hi
        simp only [Array.toList_append]
        rw [List.getElem?_append_left (by simpa using this)]
        simpa using hi
    · simp at hc
  · rename_i e e' id ver len h1 h2
    split at hc
    · rename_i he
      split at hc
      · rename_i hsd
        replace hc := grown_inv hc
        obtain ⟨ty, sz, sh, xs, ho, rfl, hc⟩ := hc
        split at hc
        · simp at hc
        · rename_i hemp
          split at hc
          · simp at hc; obtain ⟨rfl, rfl, rfl⟩ := hc
            have hsd' : src = dst := by simpa using hsd
            obtain ⟨b, c, n, ey, rfl, hsh, hR⟩ := h.mark ho (by simpa using hemp) hx
            refine ⟨_, _, g, ?_, Gh.le.refl g, hR, hx⟩
            subst hsd'
            simp [convert, run_underlying (tk_slice h1), run_underlying (tk_int he), markStringish, hsh]
          · simp at hc; obtain ⟨rfl, rfl, rfl⟩ := hc
            have hsd' : src = dst := by simpa using hsd
            obtain ⟨b, c, n, ey, rfl, hsh, g', hle, hR, hV⟩ := h.giveMark ho (by simpa using hemp) hx
            refine ⟨_, _, g', ?_, hle, hR, hV⟩
            subst hsd'
            simp [convert, run_underlying (tk_slice h1), run_underlying (tk_int he), markStringish, hsh]
      · simp at hc
    · simp at hc
  · rename_i e h1 h2
    split at hc
    · rename_i he
      have base : ∀ a l cc, (convert src dst (.slice a l cc)).run P w = (Conv.bytesToString (.slice a l cc)).run P w := fun a l cc => run_convert_bytes_string w src dst e a l cc (tk_slice h1) (tk_int he) (tk_str h2)
      split at hc
      · simp at hc; obtain ⟨rfl, rfl, rfl⟩ := hc
        cases hx
        exact Does.pure h (by rw [base]; rfl) (.str _ (by simp [TOP]))
      · obtain ⟨sz, sh, xs, cl, he', hc'⟩ := elems_cps hc
        have e' := elems_sound h he' hx
        split at hc'
        · rename_i hs
          simp at hc'; obtain ⟨rfl, rfl, rfl⟩ := hc'
          obtain ⟨a, cc, hcx, _⟩ := e'.some
          have hr := slice_str (P := P) e' (.inl hs.1) (.inl (beq_int8 hs.2))
          subst hcx
          exact Does.pure h (by rw [base]; exact hr) (.str _ (by simp [bytesOf]; exact e'.lim))
        · simp at hc'
    · simp at hc
  · simp at hc
end
end Go.Cx

end
