/- What an abstract value, and an abstract heap, say of the model's. -/
import Derived.Test.YtfhgmpeplfjmcaaCxA
import Derived.Below
namespace Go.Cx
open Go.RowKit (Below)
structure Gh where
  base : Nat
  w0 : World
  frz : Nat → Bool
  imm : Nat → Nat → Option Value
  blk : Nat → Option Nat
  cur : Nat → Option (Nat × Nat × Option Nat × Nat)
def Gh.free (g : Gh) (b : Nat) : Prop := g.base ≤ b ∧ g.frz b = false
def Hdr (ver len : Nat) (b : Option Nat) (c : Nat) : Nat × Nat × Option Nat × Nat → Prop
  | (ver', len', b', c') => ver < ver' ∨ (ver = ver' ∧ len ≤ len' ∧ (len = len' → b = b' ∧ c = c'))
structure Gh.le (g g' : Gh) : Prop where
  base : g'.base = g.base
  w0 : g'.w0 = g.w0
  frz : g'.frz = g.frz
  old : ∀ b o, ¬ g.free b → g'.imm b o = g.imm b o
  imm : ∀ b o v, g.imm b o = some v → g'.imm b o = some v
  blk : ∀ i b, g.blk i = some b → g'.blk i = some b
  cur : ∀ i ver len b c, g.cur i = some (ver, len, b, c) → ∃ x, g'.cur i = some x ∧ Hdr ver len b c x
theorem Gh.le.free {g g' : Gh} (h : g.le g') : g'.free = g.free := by funext b; simp only [Gh.free, h.base, h.frz]
theorem Hdr.refl (ver len : Nat) (b : Option Nat) (c : Nat) : Hdr ver len b c (ver, len, b, c) := .inr ⟨rfl, Nat.le_refl _, fun _ => ⟨rfl, rfl⟩⟩
theorem Hdr.trans {v l c v' l' c' : Nat} {b b' : Option Nat} {x : Nat × Nat × Option Nat × Nat} (h : Hdr v l b c (v', l', b', c')) (k : Hdr v' l' b' c' x) : Hdr v l b c x := by
  obtain ⟨v'', l'', b'', c''⟩ := x
  simp only [Hdr] at *
  rcases h with h | ⟨rfl, h1, h2⟩
  · rcases k with k | ⟨rfl, _, _⟩
    · left; omega
    · left; exact h
  · rcases k with k | ⟨rfl, k1, k2⟩
    · left; exact k
    · right
      refine ⟨rfl, by omega, fun e => ?_⟩
      have e1 : l = l' := by omega
      have e2 : l' = l'' := by omega
      obtain ⟨rfl, rfl⟩ := h2 e1
      exact k2 e2
theorem Gh.le.refl (g : Gh) : g.le g := ⟨rfl, rfl, rfl, fun _ _ _ => rfl, fun _ _ _ h => h, fun _ _ h => h, fun _ _ _ _ _ h => ⟨_, h, Hdr.refl _ _ _ _⟩⟩
theorem Gh.le.trans {a b c : Gh} (h : a.le b) (k : b.le c) : a.le c :=
  ⟨k.base.trans h.base, k.w0.trans h.w0, k.frz.trans h.frz, fun b' o hn => (k.old b' o (by rw [h.free]; exact hn)).trans (h.old b' o hn), fun _ _ _ e => k.imm _ _ _ (h.imm _ _ _ e), fun _ _ e => k.blk _ _ (h.blk _ _ e), fun i _ _ _ _ e => by
    obtain ⟨⟨v', l', b', c'⟩, e1, h1⟩ := h.cur _ _ _ _ _ e
    obtain ⟨x, e2, h2⟩ := k.cur _ _ _ _ _ e1
    exact ⟨x, e2, h1.trans h2⟩⟩
def At (g : Gh) (b o : Nat) (vs : List Value) : Prop := ∀ (i : Nat) (v : Value), vs[i]? = some v → g.imm b (o + i) = some v
inductive V (g : Gh) : AV → Value → Prop
  | int (k : IntKind) (n : Int) : V g (.int k n) (.int k n)
  | bool (b : Bool) : V g (.bool b) (.bool b)
  | str (s : List UInt8) : s.length < TOP → V g (.str s) (.string ⟨⟨s⟩⟩)
  | ptr (id off b : Nat) : g.blk id = some b → V g (.ptr id off) (.pointer (some ⟨b, off, none⟩))
  | nilptr : V g .nilptr (.pointer none)
  | rptr (cs : List AV) (vs : List Value) (b o : Nat) : cs.length = vs.length → (∀ (i : Nat) (c : AV) (v : Value), cs[i]? = some c → vs[i]? = some v → V g c v) → At g b o vs → V g (.rptr cs) (.pointer (some ⟨b, o, none⟩))
  | nilsl : V g .nilsl (.slice none 0 0)
  | slice (sz : Nat) (sh : Sh) (xs : List AV) (k : SK) (vs : List Value) (b o c : Nat) : (flat xs).length = vs.length →
      (∀ (i : Nat) (c : AV) (v : Value), (flat xs)[i]? = some c → vs[i]? = some v → V g c v) → At g b o vs →
      (∀ x ∈ xs, reshape sh x = x ∧ (cells x).length = sz ∧ (cells x).all oneCell) → xs.length ≤ c → xs.length < TOP → V g (.slice sz sh xs k) (.slice (some ⟨b, o, none⟩) xs.length c)
  | slice0 (sz : Nat) (sh : Sh) : V g (.slice sz sh [] .ro) (.slice none 0 0)
  | slice1 (sz : Nat) (sh : Sh) (k : SK) (a : Addr) (c : Nat) : V g (.slice sz sh [] k) (.slice (some a) 0 c)
  | fslice (sz : Nat) (sh : Sh) (xs ys : List AV) (vs : List Value) (b o : Nat) : (flat (xs ++ ys)).length = vs.length →
      (∀ (i : Nat) (c : AV) (v : Value), (flat (xs ++ ys))[i]? = some c → vs[i]? = some v → V g c v) → At g b o vs →
      (∀ x ∈ xs ++ ys, reshape sh x = x ∧ (cells x).length = sz ∧ (cells x).all oneCell) → (xs ++ ys).length < TOP → V g (.fslice sz sh xs ys) (.slice (some ⟨b, o, none⟩) xs.length (xs ++ ys).length)
  | oslice (id ver len b c : Nat) (x : Nat × Nat × Option Nat × Nat) : g.cur id = some x → Hdr ver len (some b) c x → V g (.oslice id ver len) (.slice (some ⟨b, 0, none⟩) len c)
  | oslice0 (id ver : Nat) (x : Nat × Nat × Option Nat × Nat) : g.cur id = some x → Hdr ver 0 none 0 x → V g (.oslice id ver 0) (.slice none 0 0)
  | optr (id ver len sz i j b c : Nat) (x : Nat × Nat × Option Nat × Nat) : g.cur id = some x → Hdr ver len (some b) c x → V g (.optr id ver len sz i j) (.pointer (some ⟨b, i * sz + j, none⟩))
  | func (f : FuncId) (pre post : List AV) (vs ws : Array Value) : pre.length = vs.size → (∀ (i : Nat) (c : AV) (v : Value), pre[i]? = some c → vs[i]? = some v → V g c v) →
      post.length = ws.size → (∀ (i : Nat) (c : AV) (v : Value), post[i]? = some c → ws[i]? = some v → V g c v) → V g (.func f pre post) (.func (.func f) vs ws)
  | nilfunc : V g .nilfunc .nilFunc
  | agg (cs : List AV) (vs : Array Value) : cs.length = vs.size → (∀ (i : Nat) (c : AV) (v : Value), cs[i]? = some c → vs[i]? = some v → V g c v) → V g (.agg cs) (.agg vs)
  | tuple (cs : List AV) (vs : Array Value) : cs.length = vs.size → (∀ (i : Nat) (c : AV) (v : Value), cs[i]? = some c → vs[i]? = some v → V g c v) → V g (.tuple cs) (.tuple vs)
  | nilIface : V g .nilIface .nilIface
  | junk (v : Value) : V g .junk v
def VL (g : Gh) (cs : List AV) (vs : List Value) : Prop := cs.length = vs.length ∧ ∀ (i : Nat) (c : AV) (v : Value), cs[i]? = some c → vs[i]? = some v → V g c v
structure Gh.sub (g g' : Gh) : Prop where
  imm : ∀ b o v, g.imm b o = some v → g'.imm b o = some v
  blk : ∀ i b, g.blk i = some b → g'.blk i = some b
  cur : ∀ i ver len b c, g.cur i = some (ver, len, b, c) → ∃ x, g'.cur i = some x ∧ Hdr ver len b c x
theorem Gh.le.sub {g g' : Gh} (h : g.le g') : g.sub g' := ⟨h.imm, h.blk, h.cur⟩
theorem At.sub {g g' : Gh} (h : g.sub g') {b o : Nat} {vs : List Value} (k : At g b o vs) : At g' b o vs := fun i v e => h.imm _ _ _ (k i v e)
theorem V.sub {g g' : Gh} (h : g.sub g') {a : AV} {v : Value} (k : V g a v) : V g' a v := by
  induction k with
  | int k n => exact .int k n
  | bool b => exact .bool b
  | str s hs => exact .str s hs
  | ptr id off b hb => exact .ptr id off b (h.blk _ _ hb)
  | nilptr => exact .nilptr
  | rptr cs vs b o hl _ hat ih => exact .rptr cs vs b o hl ih (hat.sub h)
  | nilsl => exact .nilsl
  | slice sz sh xs k vs b o c hl _ hat hx hc hlim ih => exact .slice sz sh xs k vs b o c hl ih (hat.sub h) hx hc hlim
  | slice0 sz sh => exact .slice0 sz sh
  | slice1 sz sh k a c => exact .slice1 sz sh k a c
  | fslice sz sh xs ys vs b o hl _ hat hx hlim ih => exact .fslice sz sh xs ys vs b o hl ih (hat.sub h) hx hlim
  | oslice id ver len b c x hx hh =>
    obtain ⟨v', l', b', c'⟩ := x
    obtain ⟨y, hy, h2⟩ := h.cur _ _ _ _ _ hx
    exact .oslice id ver len b c y hy (hh.trans h2)
  | oslice0 id ver x hx hh =>
    obtain ⟨v', l', b', c'⟩ := x
    obtain ⟨y, hy, h2⟩ := h.cur _ _ _ _ _ hx
    exact .oslice0 id ver y hy (hh.trans h2)
  | optr id ver len sz i j b c x hx hh =>
    obtain ⟨v', l', b', c'⟩ := x
    obtain ⟨y, hy, h2⟩ := h.cur _ _ _ _ _ hx
    exact .optr id ver len sz i j b c y hy (hh.trans h2)
  | func f pre post vs ws h1 _ h2 _ ih1 ih2 => exact .func f pre post vs ws h1 ih1 h2 ih2
  | nilfunc => exact .nilfunc
  | agg cs vs hl _ ih => exact .agg cs vs hl ih
  | tuple cs vs hl _ ih => exact .tuple cs vs hl ih
  | nilIface => exact .nilIface
  | junk v => exact .junk v
theorem At.mono {g g' : Gh} (h : g.le g') {b o : Nat} {vs : List Value} (k : At g b o vs) : At g' b o vs := k.sub h.sub
theorem V.mono {g g' : Gh} (h : g.le g') {a : AV} {v : Value} (k : V g a v) : V g' a v := k.sub h.sub
theorem VL.sub {g g' : Gh} (h : g.sub g') {cs : List AV} {vs : List Value} (k : VL g cs vs) : VL g' cs vs := ⟨k.1, fun i c v a b => (k.2 i c v a b).sub h⟩
theorem VL.mono {g g' : Gh} (h : g.le g') {cs : List AV} {vs : List Value} (k : VL g cs vs) : VL g' cs vs := ⟨k.1, fun i c v a b => (k.2 i c v a b).mono h⟩
theorem VL.nil (g : Gh) : VL g [] [] := ⟨rfl, fun i c v h => by simp at h⟩
theorem VL.cons {g : Gh} {c : AV} {v : Value} {cs : List AV} {vs : List Value} (h : V g c v) (k : VL g cs vs) : VL g (c :: cs) (v :: vs) := by
  refine ⟨by simp [k.1], fun i c' v' h1 h2 => ?_⟩
  cases i with
  | zero => simp at h1 h2; subst h1 h2; exact h
  | succ i => exact k.2 i c' v' (by simpa using h1) (by simpa using h2)
theorem VL.head {g : Gh} {c : AV} {v : Value} {cs : List AV} {vs : List Value} (h : VL g (c :: cs) (v :: vs)) : V g c v := h.2 0 c v rfl rfl
theorem VL.tail {g : Gh} {c : AV} {v : Value} {cs : List AV} {vs : List Value} (h : VL g (c :: cs) (v :: vs)) : VL g cs vs :=
  ⟨by have := h.1; simpa using this, fun i c' v' h1 h2 => h.2 (i + 1) c' v' (by simpa using h1) (by simpa using h2)⟩
theorem VL.cons_inv {g : Gh} {c : AV} {cs : List AV} {vs : List Value} (h : VL g (c :: cs) vs) : ∃ v vs', vs = v :: vs' ∧ V g c v ∧ VL g cs vs' := by
  cases vs with
  | nil => have := h.1; simp at this
  | cons v vs => exact ⟨v, vs, rfl, h.head, h.tail⟩
theorem VL.nil_inv {g : Gh} {vs : List Value} (h : VL g [] vs) : vs = [] := by have := h.1; simpa using this.symm
theorem VL.append {g : Gh} {a b : List AV} {x y : List Value} (h : VL g a x) (k : VL g b y) : VL g (a ++ b) (x ++ y) := by
  induction a generalizing x with
  | nil => rw [h.nil_inv]; exact k
  | cons c cs ih => obtain ⟨v, vs, rfl, h1, h2⟩ := h.cons_inv; exact VL.cons h1 (ih h2)
theorem VL.take {g : Gh} {a : List AV} {x : List Value} (n : Nat) (h : VL g a x) : VL g (a.take n) (x.take n) := by
  refine ⟨by simp [h.1], fun i c v h1 h2 => ?_⟩
  rw [List.getElem?_take] at h1 h2
  split at h1 <;> simp_all
  exact h.2 i c v h1 h2
theorem VL.drop {g : Gh} {a : List AV} {x : List Value} (n : Nat) (h : VL g a x) : VL g (a.drop n) (x.drop n) := by
  refine ⟨by simp [h.1], fun i c v h1 h2 => ?_⟩
  rw [List.getElem?_drop] at h1 h2
  exact h.2 _ c v h1 h2
theorem VL.set {g : Gh} {a : List AV} {x : List Value} (n : Nat) {c : AV} {v : Value} (h : VL g a x) (hv : V g c v) : VL g (a.set n c) (x.set n v) := by
  refine ⟨by simp [h.1], fun i c' v' h1 h2 => ?_⟩
  rw [List.getElem?_set] at h1 h2
  have hl := h.1
  split at h1
  · rename_i e; subst e
    simp only [if_true] at h2
    split at h1 <;> split at h2 <;> simp_all
  · rename_i e
    simp only [e, if_false] at h2
    exact h.2 i c' v' h1 h2
theorem VL.get {g : Gh} {a : List AV} {x : List Value} (h : VL g a x) {i : Nat} {c : AV} (hc : a[i]? = some c) : ∃ v, x[i]? = some v ∧ V g c v := by
  have hi : i < a.length := by
    rcases Nat.lt_or_ge i a.length with h' | h'
    · exact h'
    · rw [List.getElem?_eq_none h'] at hc; simp at hc
  have hx : i < x.length := by rw [← h.1]; exact hi
  exact ⟨x[i], by simp [hx], h.2 i c x[i] hc (by simp [hx])⟩
theorem VL.getD {g : Gh} {a : List AV} {x : List Value} (h : VL g a x) (i : Nat) : V g (a.getD i .junk) (x.getD i undef) := by
  rw [List.getD_eq_getElem?_getD, List.getD_eq_getElem?_getD]
  cases hc : a[i]? with
  | none => exact .junk _
  | some c => obtain ⟨v, hv, k⟩ := h.get hc; rw [hv]; exact k
def ObOK (g : Gh) (w : World) (i : Nat) : Option Ob → Prop
  | none => g.blk i = none ∧ g.cur i = none
  | some (.fix ty cs) => g.cur i = none ∧ ∃ b vs fz, g.blk i = some b ∧ g.free b ∧ w.heap[b]? = some (.cells vs ty fz) ∧ VL g cs vs.toList ∧
      (∀ c ∈ cs, oneCell c) ∧ (∀ o, g.imm b o = none) ∧ (∀ o, o < vs.size → w.frozen? ⟨b, o, none⟩ = false)
  | some (.grow ty ver sz sh xs) => g.blk i = none ∧ ((xs = [] ∧ 0 < sz ∧ g.cur i = some (ver, 0, none, 0)) ∨ ∃ b c vs fz, g.cur i = some (ver, xs.length, some b, c) ∧ g.free b ∧ w.heap[b]? = some (.cells vs ty fz) ∧
      vs.size = c * sz ∧ 0 < sz ∧ xs.length ≤ c ∧ VL g (flat xs) (vs.toList.take (xs.length * sz)) ∧ (∀ x ∈ xs, reshape sh x = x ∧ (cells x).length = sz ∧ (cells x).all oneCell) ∧ xs.length < TOP ∧
      (∀ o, g.imm b o = none) ∧ (∀ o, o < vs.size → w.frozen? ⟨b, o, none⟩ = false))
  | some (.froz ver sz sh xs) => g.blk i = none ∧ ∃ b c, g.cur i = some (ver, xs.length, b, c) ∧ V g (.slice sz sh xs .ro) (.slice (b.map fun b => ⟨b, 0, none⟩) xs.length c)
  | some .dead => g.blk i = none ∧ True
  | some .hole => g.blk i = none ∧ g.cur i = none
def own (g : Gh) (i b : Nat) : Prop := g.blk i = some b ∨ ∃ ver len c, g.cur i = some (ver, len, some b, c)
structure R (g : Gh) (w : World) (hp : List Ob) : Prop where
  below : Below g.base g.w0 w
  base : g.base ≤ w.heap.size
  frz : ∀ k, g.frz k = true → k < w.heap.size ∧ w.heap[k]? = g.w0.heap[k]?
  imm : ∀ b o v, g.imm b o = some v → w.cell? ⟨b, o, none⟩ = some v
  objs : ∀ i, ObOK g w i hp[i]?
  inj : ∀ i j b, i ≠ j → gone hp[i]? = false → gone hp[j]? = false → own g i b → own g j b → False
end Go.Cx
