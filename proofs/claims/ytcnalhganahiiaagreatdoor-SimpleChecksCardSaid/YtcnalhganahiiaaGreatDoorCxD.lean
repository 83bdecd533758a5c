/- What an abstract value, and an abstract heap, say of the model's. -/
import Derived.Test.YtcnalhganahiiaaGreatDoorCxA
import Derived.Below
import Derived.Laws.IdiomCopy
import Derived.LaidEqlPtr
import Derived.Laws.Entries
import Derived.Laws.Slices
import Derived.Laws.StructEq
section
namespace Go.Cx
open Go.RowKit (Below)
structure Gh where
  base : Nat
  w0 : World
  frz : Nat → Bool
  imm : Nat → Nat → Option Value
  blk : Nat → Option Nat
  cur : Nat → Option (Nat × Nat × Option Nat × Nat)
def Gh.free (g : Gh) (b : Nat) : Prop := g.base ≤ b ∧ g.frz b = false
def Hdr (ver len : Nat) (b : Option Nat) (c : Nat) : Nat × Nat × Option Nat × Nat → Prop
  | (ver', len', b', c') => ver < ver' ∨ (ver = ver' ∧ len ≤ len' ∧ (len = len' → b = b' ∧ c = c'))
structure Gh.le (g g' : Gh) : Prop where
  base : g'.base = g.base
  w0 : g'.w0 = g.w0
  frz : g'.frz = g.frz
  old : ∀ b o, ¬ g.free b → g'.imm b o = g.imm b o
  imm : ∀ b o v, g.imm b o = some v → g'.imm b o = some v
  blk : ∀ i b, g.blk i = some b → g'.blk i = some b
  cur : ∀ i ver len b c, g.cur i = some (ver, len, b, c) → ∃ x, g'.cur i = some x ∧ Hdr ver len b c x
theorem Gh.le.free {g g' : Gh} (h : g.le g') : g'.free = g.free := by funext b; simp only [Gh.free, h.base, h.frz]
theorem Hdr.refl (ver len : Nat) (b : Option Nat) (c : Nat) : Hdr ver len b c (ver, len, b, c) := .inr ⟨rfl, Nat.le_refl _, fun _ => ⟨rfl, rfl⟩⟩
theorem Hdr.trans {v l c v' l' c' : Nat} {b b' : Option Nat} {x : Nat × Nat × Option Nat × Nat} (h : Hdr v l b c (v', l', b', c')) (k : Hdr v' l' b' c' x) : Hdr v l b c x := by
  obtain ⟨v'', l'', b'', c''⟩ := x
  simp only [Hdr] at *
  rcases h with h | ⟨rfl, h1, h2⟩
  · rcases k with k | ⟨rfl, _, _⟩
    · left; omega
    · left; exact h
  · rcases k with k | ⟨rfl, k1, k2⟩
    · left; exact k
    · right
      refine ⟨rfl, by omega, fun e => ?_⟩
      have e1 : l = l' := by omega
      have e2 : l' = l'' := by omega
      obtain ⟨rfl, rfl⟩ := h2 e1
      exact k2 e2
theorem Gh.le.refl (g : Gh) : g.le g := ⟨rfl, rfl, rfl, fun _ _ _ => rfl, fun _ _ _ h => h, fun _ _ h => h, fun _ _ _ _ _ h => ⟨_, h, Hdr.refl _ _ _ _⟩⟩
theorem Gh.le.trans {a b c : Gh} (h : a.le b) (k : b.le c) : a.le c :=
  ⟨k.base.trans h.base, k.w0.trans h.w0, k.frz.trans h.frz, fun b' o hn => (k.old b' o (by rw [h.free]; exact hn)).trans (h.old b' o hn), fun _ _ _ e => k.imm _ _ _ (h.imm _ _ _ e), fun _ _ e => k.blk _ _ (h.blk _ _ e), fun i _ _ _ _ e => by
    obtain ⟨⟨v', l', b', c'⟩, e1, h1⟩ := h.cur _ _ _ _ _ e
    obtain ⟨x, e2, h2⟩ := k.cur _ _ _ _ _ e1
    exact ⟨x, e2, h1.trans h2⟩⟩
def At (g : Gh) (b o : Nat) (vs : List Value) : Prop := ∀ (i : Nat) (v : Value), vs[i]? = some v → g.imm b (o + i) = some v
inductive V (g : Gh) : AV → Value → Prop
  | int (k : IntKind) (n : Int) : V g (.int k n) (.int k n)
  | bool (b : Bool) : V g (.bool b) (.bool b)
  | str (s : List UInt8) : s.length < TOP → V g (.str s) (.string ⟨⟨s⟩⟩)
  | ptr (id off b : Nat) : g.blk id = some b → V g (.ptr id off) (.pointer (some ⟨b, off, none⟩))
  | nilptr : V g .nilptr (.pointer none)
  | rptr (cs : List AV) (vs : List Value) (b o : Nat) : cs.length = vs.length → (∀ (i : Nat) (c : AV) (v : Value), cs[i]? = some c → vs[i]? = some v → V g c v) → At g b o vs → V g (.rptr cs) (.pointer (some ⟨b, o, none⟩))
  | nilsl : V g .nilsl (.slice none 0 0)
  | slice (sz : Nat) (sh : Sh) (xs : List AV) (k : SK) (vs : List Value) (b o c : Nat) : (flat xs).length = vs.length →
      (∀ (i : Nat) (c : AV) (v : Value), (flat xs)[i]? = some c → vs[i]? = some v → V g c v) → At g b o vs →
      (∀ x ∈ xs, reshape sh x = x ∧ (cells x).length = sz ∧ (cells x).all oneCell) → xs.length ≤ c → xs.length < TOP → V g (.slice sz sh xs k) (.slice (some ⟨b, o, none⟩) xs.length c)
  | slice0 (sz : Nat) (sh : Sh) : V g (.slice sz sh [] .ro) (.slice none 0 0)
  | slice1 (sz : Nat) (sh : Sh) (k : SK) (a : Addr) (c : Nat) : V g (.slice sz sh [] k) (.slice (some a) 0 c)
  | fslice (sz : Nat) (sh : Sh) (xs ys : List AV) (vs : List Value) (b o : Nat) : (flat (xs ++ ys)).length = vs.length →
      (∀ (i : Nat) (c : AV) (v : Value), (flat (xs ++ ys))[i]? = some c → vs[i]? = some v → V g c v) → At g b o vs →
      (∀ x ∈ xs ++ ys, reshape sh x = x ∧ (cells x).length = sz ∧ (cells x).all oneCell) → (xs ++ ys).length < TOP → V g (.fslice sz sh xs ys) (.slice (some ⟨b, o, none⟩) xs.length (xs ++ ys).length)
  | oslice (id ver len b c : Nat) (x : Nat × Nat × Option Nat × Nat) : g.cur id = some x → Hdr ver len (some b) c x → V g (.oslice id ver len) (.slice (some ⟨b, 0, none⟩) len c)
  | oslice0 (id ver : Nat) (x : Nat × Nat × Option Nat × Nat) : g.cur id = some x → Hdr ver 0 none 0 x → V g (.oslice id ver 0) (.slice none 0 0)
  | optr (id ver len sz i j b c : Nat) (x : Nat × Nat × Option Nat × Nat) : g.cur id = some x → Hdr ver len (some b) c x → V g (.optr id ver len sz i j) (.pointer (some ⟨b, i * sz + j, none⟩))
  | func (f : FuncId) (pre post : List AV) (vs ws : Array Value) : pre.length = vs.size → (∀ (i : Nat) (c : AV) (v : Value), pre[i]? = some c → vs[i]? = some v → V g c v) →
      post.length = ws.size → (∀ (i : Nat) (c : AV) (v : Value), post[i]? = some c → ws[i]? = some v → V g c v) → V g (.func f pre post) (.func (.func f) vs ws)
  | nilfunc : V g .nilfunc .nilFunc
  | agg (cs : List AV) (vs : Array Value) : cs.length = vs.size → (∀ (i : Nat) (c : AV) (v : Value), cs[i]? = some c → vs[i]? = some v → V g c v) → V g (.agg cs) (.agg vs)
  | tuple (cs : List AV) (vs : Array Value) : cs.length = vs.size → (∀ (i : Nat) (c : AV) (v : Value), cs[i]? = some c → vs[i]? = some v → V g c v) → V g (.tuple cs) (.tuple vs)
  | nilIface : V g .nilIface .nilIface
  | junk (v : Value) : V g .junk v
def VL (g : Gh) (cs : List AV) (vs : List Value) : Prop := cs.length = vs.length ∧ ∀ (i : Nat) (c : AV) (v : Value), cs[i]? = some c → vs[i]? = some v → V g c v
structure Gh.sub (g g' : Gh) : Prop where
  imm : ∀ b o v, g.imm b o = some v → g'.imm b o = some v
  blk : ∀ i b, g.blk i = some b → g'.blk i = some b
  cur : ∀ i ver len b c, g.cur i = some (ver, len, b, c) → ∃ x, g'.cur i = some x ∧ Hdr ver len b c x
theorem Gh.le.sub {g g' : Gh} (h : g.le g') : g.sub g' := ⟨h.imm, h.blk, h.cur⟩
theorem At.sub {g g' : Gh} (h : g.sub g') {b o : Nat} {vs : List Value} (k : At g b o vs) : At g' b o vs := fun i v e => h.imm _ _ _ (k i v e)
theorem V.sub {g g' : Gh} (h : g.sub g') {a : AV} {v : Value} (k : V g a v) : V g' a v := by
  induction k with
  | int k n => exact .int k n
  | bool b => exact .bool b
  | str s hs => exact .str s hs
  | ptr id off b hb => exact .ptr id off b (h.blk _ _ hb)
  | nilptr => exact .nilptr
  | rptr cs vs b o hl _ hat ih => exact .rptr cs vs b o hl ih (hat.sub h)
  | nilsl => exact .nilsl
  | slice sz sh xs k vs b o c hl _ hat hx hc hlim ih => exact .slice sz sh xs k vs b o c hl ih (hat.sub h) hx hc hlim
  | slice0 sz sh => exact .slice0 sz sh
  | slice1 sz sh k a c => exact .slice1 sz sh k a c
  | fslice sz sh xs ys vs b o hl _ hat hx hlim ih => exact .fslice sz sh xs ys vs b o hl ih (hat.sub h) hx hlim
  | oslice id ver len b c x hx hh =>
    obtain ⟨v', l', b', c'⟩ := x
    obtain ⟨y, hy, h2⟩ := h.cur _ _ _ _ _ hx
    exact .oslice id ver len b c y hy (hh.trans h2)
  | oslice0 id ver x hx hh =>
    obtain ⟨v', l', b', c'⟩ := x
    obtain ⟨y, hy, h2⟩ := h.cur _ _ _ _ _ hx
    exact .oslice0 id ver y hy (hh.trans h2)
  | optr id ver len sz i j b c x hx hh =>
    obtain ⟨v', l', b', c'⟩ := x
    obtain ⟨y, hy, h2⟩ := h.cur _ _ _ _ _ hx
    exact .optr id ver len sz i j b c y hy (hh.trans h2)
  | func f pre post vs ws h1 _ h2 _ ih1 ih2 => exact .func f pre post vs ws h1 ih1 h2 ih2
  | nilfunc => exact .nilfunc
  | agg cs vs hl _ ih => exact .agg cs vs hl ih
  | tuple cs vs hl _ ih => exact .tuple cs vs hl ih
  | nilIface => exact .nilIface
  | junk v => exact .junk v
theorem At.mono {g g' : Gh} (h : g.le g') {b o : Nat} {vs : List Value} (k : At g b o vs) : At g' b o vs := k.sub h.sub
theorem V.mono {g g' : Gh} (h : g.le g') {a : AV} {v : Value} (k : V g a v) : V g' a v := k.sub h.sub
theorem VL.sub {g g' : Gh} (h : g.sub g') {cs : List AV} {vs : List Value} (k : VL g cs vs) : VL g' cs vs := ⟨k.1, fun i c v a b => (k.2 i c v a b).sub h⟩
theorem VL.mono {g g' : Gh} (h : g.le g') {cs : List AV} {vs : List Value} (k : VL g cs vs) : VL g' cs vs := ⟨k.1, fun i c v a b => (k.2 i c v a b).mono h⟩
theorem VL.nil (g : Gh) : VL g [] [] := ⟨rfl, fun i c v h => by simp at h⟩
theorem VL.cons {g : Gh} {c : AV} {v : Value} {cs : List AV} {vs : List Value} (h : V g c v) (k : VL g cs vs) : VL g (c :: cs) (v :: vs) := by
  refine ⟨by simp [k.1], fun i c' v' h1 h2 => ?_⟩
  cases i with
  | zero => simp at h1 h2; subst h1 h2; exact h
  | succ i => exact k.2 i c' v' (by simpa using h1) (by simpa using h2)
theorem VL.head {g : Gh} {c : AV} {v : Value} {cs : List AV} {vs : List Value} (h : VL g (c :: cs) (v :: vs)) : V g c v := h.2 0 c v rfl rfl
theorem VL.tail {g : Gh} {c : AV} {v : Value} {cs : List AV} {vs : List Value} (h : VL g (c :: cs) (v :: vs)) : VL g cs vs :=
  ⟨by have := h.1; simpa using this, fun i c' v' h1 h2 => h.2 (i + 1) c' v' (by simpa using h1) (by simpa using h2)⟩
theorem VL.cons_inv {g : Gh} {c : AV} {cs : List AV} {vs : List Value} (h : VL g (c :: cs) vs) : ∃ v vs', vs = v :: vs' ∧ V g c v ∧ VL g cs vs' := by
  cases vs with
  | nil => have := h.1; simp at this
  | cons v vs => exact ⟨v, vs, rfl, h.head, h.tail⟩
theorem VL.nil_inv {g : Gh} {vs : List Value} (h : VL g [] vs) : vs = [] := by have := h.1; simpa using this.symm
theorem VL.append {g : Gh} {a b : List AV} {x y : List Value} (h : VL g a x) (k : VL g b y) : VL g (a ++ b) (x ++ y) := by
  induction a generalizing x with
  | nil => rw [h.nil_inv]; exact k
  | cons c cs ih => obtain ⟨v, vs, rfl, h1, h2⟩ := h.cons_inv; exact VL.cons h1 (ih h2)
theorem VL.take {g : Gh} {a : List AV} {x : List Value} (n : Nat) (h : VL g a x) : VL g (a.take n) (x.take n) := by
  refine ⟨by simp [h.1], fun i c v h1 h2 => ?_⟩
  rw [List.getElem?_take] at h1 h2
  split at h1 <;> simp_all
  exact h.2 i c v h1 h2
theorem VL.drop {g : Gh} {a : List AV} {x : List Value} (n : Nat) (h : VL g a x) : VL g (a.drop n) (x.drop n) := by
  refine ⟨by simp [h.1], fun i c v h1 h2 => ?_⟩
  rw [List.getElem?_drop] at h1 h2
  exact h.2 _ c v h1 h2
theorem VL.set {g : Gh} {a : List AV} {x : List Value} (n : Nat) {c : AV} {v : Value} (h : VL g a x) (hv : V g c v) : VL g (a.set n c) (x.set n v) := by
  refine ⟨by simp [h.1], fun i c' v' h1 h2 => ?_⟩
  rw [List.getElem?_set] at h1 h2
  have hl := h.1
  split at h1
  · rename_i e; subst e
    simp only [if_true] at h2
    split at h1 <;> split at h2 <;> simp_all
  · rename_i e
    simp only [e, if_false] at h2
    exact h.2 i c' v' h1 h2
theorem VL.get {g : Gh} {a : List AV} {x : List Value} (h : VL g a x) {i : Nat} {c : AV} (hc : a[i]? = some c) : ∃ v, x[i]? = some v ∧ V g c v := by
  have hi : i < a.length := by
    rcases Nat.lt_or_ge i a.length with h' | h'
    · exact h'
    · rw [List.getElem?_eq_none h'] at hc; simp at hc
  have hx : i < x.length := by rw [← h.1]; exact hi
  exact ⟨x[i], by simp [hx], h.2 i c x[i] hc (by simp [hx])⟩
theorem VL.getD {g : Gh} {a : List AV} {x : List Value} (h : VL g a x) (i : Nat) : V g (a.getD i .junk) (x.getD i undef) := by
  rw [List.getD_eq_getElem?_getD, List.getD_eq_getElem?_getD]
  cases hc : a[i]? with
  | none => exact .junk _
  | some c => obtain ⟨v, hv, k⟩ := h.get hc; rw [hv]; exact k
def soft (n : Nat) (fz : Nat × Nat) : Prop := fz.1 = fz.2 ∨ n ≤ fz.1
def ObOK (g : Gh) (w : World) (i : Nat) : Option Ob → Prop
  | none => g.blk i = none ∧ g.cur i = none
  | some (.fix ty cs) => g.cur i = none ∧ ∃ b vs fz, g.blk i = some b ∧ g.free b ∧ w.heap[b]? = some (.cells vs ty fz) ∧ VL g cs vs.toList ∧
      (∀ c ∈ cs, oneCell c) ∧ (∀ o, g.imm b o = none) ∧ (∀ o, o < vs.size → w.frozen? ⟨b, o, none⟩ = false)
  | some (.grow ty ver sz sh xs) => g.blk i = none ∧ ((xs = [] ∧ 0 < sz ∧ g.cur i = some (ver, 0, none, 0)) ∨ ∃ b c vs fz, g.cur i = some (ver, xs.length, some b, c) ∧ g.free b ∧ w.heap[b]? = some (.cells vs ty fz) ∧
      vs.size = c * sz ∧ 0 < sz ∧ xs.length ≤ c ∧ VL g (flat xs) (vs.toList.take (xs.length * sz)) ∧ (∀ x ∈ xs, reshape sh x = x ∧ (cells x).length = sz ∧ (cells x).all oneCell) ∧ xs.length < TOP ∧
      (∀ o, g.imm b o = none) ∧ (∀ o, o < vs.size → w.frozen? ⟨b, o, none⟩ = false) ∧ soft vs.size fz)
  | some (.froz ver sz sh xs) => g.blk i = none ∧ ∃ b c, g.cur i = some (ver, xs.length, b, c) ∧ V g (.slice sz sh xs .ro) (.slice (b.map fun b => ⟨b, 0, none⟩) xs.length c)
  | some .dead => g.blk i = none ∧ True
  | some .hole => g.blk i = none ∧ g.cur i = none
def own (g : Gh) (i b : Nat) : Prop := g.blk i = some b ∨ ∃ ver len c, g.cur i = some (ver, len, some b, c)
structure R (g : Gh) (w : World) (hp : List Ob) : Prop where
  below : Below g.base g.w0 w
  base : g.base ≤ w.heap.size
  frz : ∀ k, g.frz k = true → k < w.heap.size ∧ w.heap[k]? = g.w0.heap[k]?
  imm : ∀ b o v, g.imm b o = some v → w.cell? ⟨b, o, none⟩ = some v
  objs : ∀ i, ObOK g w i hp[i]?
  inj : ∀ i j b, i ≠ j → gone hp[i]? = false → gone hp[j]? = false → own g i b → own g j b → False
end Go.Cx

end

section
namespace Go.Cx
open Go.RowKit (Below)
theorem length_of_get {α : Type} {l : List α} {i : Nat} {x : α} (h : l[i]? = some x) : i < l.length := by
  rcases Nat.lt_or_ge i l.length with h' | h'
  · exact h'
  · rw [List.getElem?_eq_none h'] at h; simp at h
theorem size_of_get {α : Type} {l : Array α} {i : Nat} {x : α} (h : l[i]? = some x) : i < l.size := by
  rcases Nat.lt_or_ge i l.size with h' | h'
  · exact h'
  · rw [Array.getElem?_eq_none h'] at h; simp at h
theorem R.own_lt {g : Gh} {w : World} {hp : List Ob} (h : R g w hp) {i b : Nat} (hd : gone hp[i]? = false) (ho : own g i b) :
    g.free b ∧ b < w.heap.size ∧ (∀ o, g.imm b o = none) ∧ i < hp.length := by
  have k := h.objs i
  cases hi : hp[i]? with
  | none =>
    rw [hi] at k
    rcases ho with ho | ⟨_, _, _, ho⟩
    · rw [k.1] at ho; simp at ho
    · rw [k.2] at ho; simp at ho
  | some o =>
    rw [hi] at k
    have hlt := length_of_get hi
    cases o with
    | dead => rw [hi] at hd; simp at hd
    | hole =>
      rcases ho with ho | ⟨_, _, _, ho⟩
      · rw [k.1] at ho; simp at ho
      · rw [k.2] at ho; simp at ho
    | froz => rw [hi] at hd; simp at hd
    | fix ty cs =>
      obtain ⟨k1, b', vs, fz, k2, k3, k4, k5, k6, k7, k8⟩ := k
      rcases ho with ho | ⟨_, _, _, ho⟩
      · rw [k2] at ho; cases ho; exact ⟨k3, size_of_get k4, k7, hlt⟩
      · rw [k1] at ho; simp at ho
    | grow ty ver sz sh xs =>
      obtain ⟨k1, ⟨_, _, k2⟩ | ⟨b', c, vs, fz, k2, k3, k4, k5, k6, k7, k8, k9, _, k10, k11⟩⟩ := k
      · rcases ho with ho | ⟨_, _, _, ho⟩
        · rw [k1] at ho; simp at ho
        · rw [k2] at ho; cases ho
      rcases ho with ho | ⟨_, _, _, ho⟩
      · rw [k1] at ho; simp at ho
      · rw [k2] at ho; cases ho; exact ⟨k3, size_of_get k4, k10, hlt⟩
theorem cell_lt {w : World} {b o : Nat} {v : Value} (h : w.cell? ⟨b, o, none⟩ = some v) : b < w.heap.size := by
  unfold World.cell? at h
  rcases Nat.lt_or_ge b w.heap.size with h' | h'
  · exact h'
  · simp [Array.getElem?_eq_none h'] at h
theorem cell_congr {w w' : World} {b o : Nat} (h : w'.heap[b]? = w.heap[b]?) : w'.cell? ⟨b, o, none⟩ = w.cell? ⟨b, o, none⟩ := by
  unfold World.cell?; rw [h]
theorem frozen_congr {w w' : World} {b o : Nat} (h : w'.heap[b]? = w.heap[b]?) : w'.frozen? ⟨b, o, none⟩ = w.frozen? ⟨b, o, none⟩ := by
  unfold World.frozen?; rw [h]
theorem ObOK.keep {g g' : Gh} {w w' : World} {i : Nat} {o : Option Ob} (h : ObOK g w i o) (hb : g'.free = g.free) (hblk : g'.blk i = g.blk i) (hcur : g'.cur i = g.cur i)
    (hle : g.le g') (hheap : ∀ b, own g i b → gone o = false → w'.heap[b]? = w.heap[b]?) (himm : ∀ b o', own g i b → gone o = false → g.imm b o' = none → g'.imm b o' = none) : ObOK g' w' i o := by
  cases o with
  | none => exact ⟨hblk.trans h.1, hcur.trans h.2⟩
  | some o =>
    cases o with
    | dead => exact ⟨hblk.trans h.1, trivial⟩
    | hole => exact ⟨hblk.trans h.1, hcur.trans h.2⟩
    | froz ver sz sh xs => obtain ⟨h1, b, c, h2, h3⟩ := h; exact ⟨hblk.trans h1, b, c, hcur.trans h2, h3.mono hle⟩
    | fix ty cs =>
      obtain ⟨k1, b, vs, fz, k2, k3, k4, k5, k6, k7, k8⟩ := h
      have hw := hheap b (.inl k2) (by simp)
      exact ⟨hcur.trans k1, b, vs, fz, hblk.trans k2, by rw [hb]; exact k3, hw.trans k4, k5.mono hle, k6, fun o => himm b o (.inl k2) (by simp) (k7 o), fun o ho => by rw [frozen_congr hw]; exact k8 o ho⟩
    | grow ty ver sz sh xs =>
      obtain ⟨k1, ⟨k0, k3, k2⟩ | ⟨b, c, vs, fz, k2, k3, k4, k5, k6, k7, k8, k9, klim, k10, k11, k12⟩⟩ := h
      · exact ⟨hblk.trans k1, .inl ⟨k0, k3, hcur.trans k2⟩⟩
      have hw := hheap b (.inr ⟨_, _, _, k2⟩) (by simp)
      refine ⟨hblk.trans k1, .inr ?_⟩
      exact ⟨b, c, vs, fz, hcur.trans k2, by rw [hb]; exact k3, hw.trans k4, k5, k6, k7, k8.mono hle, k9, klim, fun o => himm b o (.inr ⟨_, _, _, k2⟩) (by simp) (k10 o), fun o ho => by rw [frozen_congr hw]; exact k11 o ho, k12⟩
theorem R.grow {g : Gh} {w w' : World} {hp : List Ob} (h : R g w hp) (hb : Below w.heap.size w w') : R g w' hp where
  below := h.below.trans (hb.mono h.base)
  base := Nat.le_trans h.base hb.size
  frz := fun k hk => ⟨Nat.lt_of_lt_of_le (h.frz k hk).1 hb.size, (hb.block k (h.frz k hk).1).trans (h.frz k hk).2⟩
  imm := fun b o v e => by rw [cell_congr (hb.block b (cell_lt (h.imm b o v e)))]; exact h.imm b o v e
  objs := fun i => (h.objs i).keep rfl rfl rfl (Gh.le.refl g) (fun b ho hd => hb.block b (h.own_lt hd ho).2.1) (fun _ _ _ _ e => e)
  inj := h.inj
theorem R.newFree {g : Gh} {w : World} {hp : List Ob} (h : R g w hp) : g.free w.heap.size := ⟨h.base, by
  cases hk : g.frz w.heap.size with
  | false => rfl
  | true => have := (h.frz _ hk).1; omega⟩
theorem R.drew {g : Gh} {w : World} {hp : List Ob} (h : R g w hp) : R g w.drew hp := h.grow ((Below.refl _ _).drew)
theorem R.alloc {g : Gh} {w : World} {hp : List Ob} (h : R g w hp) (o : Obj) : R g (w.alloc o) hp := h.grow ((Below.refl _ _).alloc (Nat.le_refl _) o)
theorem getElem?_snoc_lt {α : Type} (l : List α) (x : α) (i : Nat) (h : i < l.length) : (l ++ [x])[i]? = l[i]? := List.getElem?_append_left h
theorem getElem?_snoc_eq {α : Type} (l : List α) (x : α) : (l ++ [x])[l.length]? = some x := by simp
theorem getElem?_snoc_gt {α : Type} (l : List α) (x : α) (i : Nat) (h : l.length < i) : (l ++ [x])[i]? = none := by
  rw [List.getElem?_eq_none]; simp; omega
theorem R.none_blk {g : Gh} {w : World} {hp : List Ob} (h : R g w hp) {i : Nat} (hi : hp.length ≤ i) : g.blk i = none ∧ g.cur i = none := by
  have k := h.objs i; rw [List.getElem?_eq_none hi] at k; exact k
theorem R.addFix {g : Gh} {w : World} {hp : List Ob} (h : R g w hp) {b : Nat} {vs : Array Value} {ty : TypeId} {fz : Nat × Nat} {cs : List AV}
    (hb : w.heap[b]? = some (.cells vs ty fz)) (hbase : g.free b) (hfresh : ∀ i, own g i b → gone hp[i]? = true) (himm : ∀ o, g.imm b o = none) (hcs : VL g cs vs.toList) (h1 : ∀ c ∈ cs, oneCell c)
    (hfr : ∀ o, o < vs.size → w.frozen? ⟨b, o, none⟩ = false) :
    ∃ g', g.le g' ∧ g'.blk hp.length = some b ∧ R g' w (hp ++ [.fix ty cs]) := by
  have hn := h.none_blk (i := hp.length) (Nat.le_refl _)
  let g' : Gh := { g with blk := fun i => if i = hp.length then some b else g.blk i }
  have hle : g.le g' := ⟨rfl, rfl, rfl, fun _ _ _ => rfl, fun _ _ _ e => e, fun i b' e => by
    show (if i = hp.length then some b else g.blk i) = some b'
    split
    · rename_i e1; rw [e1, hn.1] at e; simp at e
    · exact e, fun i _ _ _ _ e => ⟨_, e, Hdr.refl _ _ _ _⟩⟩
  refine ⟨g', hle, by simp [g'], h.below, h.base, h.frz, h.imm, fun i => ?_, fun i j b' hij hdi hdj oi oj => ?_⟩
  · rcases Nat.lt_trichotomy i hp.length with hi | hi | hi
    · rw [getElem?_snoc_lt _ _ _ hi]
      exact (h.objs i).keep rfl (by show (if i = hp.length then some b else g.blk i) = _; rw [if_neg (by omega)]) rfl hle (fun _ _ _ => rfl) (fun _ _ _ _ e => e)
    · subst hi
      rw [getElem?_snoc_eq]
      exact ⟨hn.2, b, vs, fz, by simp [g'], hbase, hb, hcs.mono hle, h1, himm, hfr⟩
    · rw [getElem?_snoc_gt _ _ _ hi]
      have := h.none_blk (i := i) (by omega)
      exact ⟨by show (if i = hp.length then some b else g.blk i) = _; rw [if_neg (by omega)]; exact this.1, this.2⟩
  · have key : ∀ i, own g' i b' → (i ≠ hp.length → own g i b') ∧ (i = hp.length → b' = b) := by
      intro i o
      refine ⟨fun hne => ?_, fun he => ?_⟩
      · rcases o with o | o
        · left; have : (if i = hp.length then some b else g.blk i) = some b' := o; rwa [if_neg hne] at this
        · right; exact o
      · rcases o with o | ⟨_, _, _, o⟩
        · have : (if i = hp.length then some b else g.blk i) = some b' := o; rw [if_pos he] at this; simpa using this.symm
        · subst he; have : g.cur hp.length = some _ := o; rw [hn.2] at this; simp at this
    have old : ∀ i, i ≠ hp.length → gone (hp ++ [.fix ty cs])[i]? = false → own g i b' → gone hp[i]? = false := by
      intro i hne hd o
      rcases Nat.lt_or_ge i hp.length with hl | hl
      · rwa [getElem?_snoc_lt _ _ _ hl] at hd
      · rw [List.getElem?_eq_none hl]; simp
    by_cases ei : i = hp.length
    · have ebi := (key i oi).2 ei
      have oj' := (key j oj).1 (by omega)
      have k1 := old j (by omega) hdj oj'; rw [hfresh j (ebi ▸ oj')] at k1; simp at k1
    · have oi' := (key i oi).1 ei
      by_cases ej : j = hp.length
      · have ebj := (key j oj).2 ej
        have k1 := old i ei hdi oi'; rw [hfresh i (ebj ▸ oi')] at k1; simp at k1
      · have oj' := (key j oj).1 ej
        exact h.inj i j b' hij (old i ei hdi oi') (old j ej hdj oj') oi' oj'
end Go.Cx
namespace Go.Cx
open Go.RowKit (Below)
theorem R.addGrow {g : Gh} {w : World} {hp : List Ob} (h : R g w hp) {b c sz : Nat} {vs : Array Value} {ty : TypeId} {fz : Nat × Nat} {sh : Sh} {xs : List AV}
    (hb : w.heap[b]? = some (.cells vs ty fz)) (hbase : g.free b) (hfresh : ∀ i, own g i b → gone hp[i]? = true) (himm : ∀ o, g.imm b o = none)
    (hsz : vs.size = c * sz) (h0 : 0 < sz) (hlc : xs.length ≤ c) (hcs : VL g (flat xs) (vs.toList.take (xs.length * sz)))
    (hsh : ∀ x ∈ xs, reshape sh x = x ∧ (cells x).length = sz ∧ (cells x).all oneCell) (hlim : xs.length < TOP)
    (hfr : ∀ o, o < vs.size → w.frozen? ⟨b, o, none⟩ = false) (hsoft : soft vs.size fz) :
    ∃ g', g.le g' ∧ g'.cur hp.length = some (0, xs.length, some b, c) ∧ R g' w (hp ++ [.grow ty 0 sz sh xs]) := by
  have hn := h.none_blk (i := hp.length) (Nat.le_refl _)
  let g' : Gh := { g with cur := fun i => if i = hp.length then some (0, xs.length, some b, c) else g.cur i }
  have hle : g.le g' := ⟨rfl, rfl, rfl, fun _ _ _ => rfl, fun _ _ _ e => e, fun _ _ e => e, fun i v' l' b' c' e => by
    show ∃ x, (if i = hp.length then some (0, xs.length, some b, c) else g.cur i) = some x ∧ _
    split
    · rename_i e1; rw [e1, hn.2] at e; simp at e
    · exact ⟨_, e, Hdr.refl _ _ _ _⟩⟩
  refine ⟨g', hle, by simp [g'], h.below, h.base, h.frz, h.imm, fun i => ?_, fun i j b' hij hdi hdj oi oj => ?_⟩
  · rcases Nat.lt_trichotomy i hp.length with hi | hi | hi
    · rw [getElem?_snoc_lt _ _ _ hi]
      exact (h.objs i).keep rfl rfl (by show (if i = hp.length then _ else g.cur i) = _; rw [if_neg (by omega)]) hle (fun _ _ _ => rfl) (fun _ _ _ _ e => e)
    · subst hi
      rw [getElem?_snoc_eq]
      refine ⟨hn.1, .inr ?_⟩
      exact ⟨b, c, vs, fz, by simp [g'], hbase, hb, hsz, h0, hlc, hcs.mono hle, hsh, hlim, himm, hfr, hsoft⟩
    · rw [getElem?_snoc_gt _ _ _ hi]
      have := h.none_blk (i := i) (by omega)
      exact ⟨this.1, by show (if i = hp.length then _ else g.cur i) = _; rw [if_neg (by omega)]; exact this.2⟩
  · have key : ∀ i, own g' i b' → (i ≠ hp.length → own g i b') ∧ (i = hp.length → b' = b) := by
      intro i o
      refine ⟨fun hne => ?_, fun he => ?_⟩
      · rcases o with o | ⟨v1, l1, c1, o⟩
        · left; exact o
        · right; have : (if i = hp.length then some (0, xs.length, some b, c) else g.cur i) = some (v1, l1, some b', c1) := o; rw [if_neg hne] at this; exact ⟨_, _, _, this⟩
      · rcases o with o | ⟨v1, l1, c1, o⟩
        · subst he; have : g.blk hp.length = some _ := o; rw [hn.1] at this; simp at this
        · have : (if i = hp.length then some (0, xs.length, some b, c) else g.cur i) = some (v1, l1, some b', c1) := o; rw [if_pos he] at this; simp at this; exact this.2.2.1.symm
    have old : ∀ i, i ≠ hp.length → gone (hp ++ [.grow ty 0 sz sh xs])[i]? = false → own g i b' → gone hp[i]? = false := by
      intro i hne hd o
      rcases Nat.lt_or_ge i hp.length with hl | hl
      · rwa [getElem?_snoc_lt _ _ _ hl] at hd
      · rw [List.getElem?_eq_none hl]; simp
    by_cases ei : i = hp.length
    · have ebi := (key i oi).2 ei
      have oj' := (key j oj).1 (by omega)
      have k1 := old j (by omega) hdj oj'; rw [hfresh j (ebi ▸ oj')] at k1; simp at k1
    · have oi' := (key i oi).1 ei
      by_cases ej : j = hp.length
      · have ebj := (key j oj).2 ej
        have k1 := old i ei hdi oi'; rw [hfresh i (ebj ▸ oi')] at k1; simp at k1
      · have oj' := (key j oj).1 ej
        exact h.inj i j b' hij (old i ei hdi oi') (old j ej hdj oj') oi' oj'
theorem below_set {w w' : World} {B b : Nat} (hB : B ≤ b) (hos : w'.os = w.os) (htape : w'.tape = w.tape) (hout : w'.output = w.output) (hsz : w'.heap.size = w.heap.size)
    (hoth : ∀ k, k ≠ b → w'.heap[k]? = w.heap[k]?) : Below B w w' :=
  ⟨hos, htape, hout, by omega, fun k hk => hoth k (by omega)⟩
theorem R.turn {g g' : Gh} {w w' : World} {hp : List Ob} {id b : Nat} {o : Ob} (h : R g w hp) (hle : g.le g') (hlt : id < hp.length) (hold : gone hp[id]? = false)
    (hown : own g id b) (hcur : ∀ i, i ≠ id → g'.cur i = g.cur i) (hblk : ∀ i, i ≠ id → g'.blk i = g.blk i)
    (himm : ∀ b' o' v, g'.imm b' o' = some v → g.imm b' o' = some v ∨ (b' = b ∧ w'.cell? ⟨b', o', none⟩ = some v))
    (himm' : ∀ b' o', b' ≠ b → g.imm b' o' = none → g'.imm b' o' = none)
    (hos : w'.os = w.os) (htape : w'.tape = w.tape) (hout : w'.output = w.output) (hsz : w.heap.size ≤ w'.heap.size)
    (hoth : ∀ k, k < w.heap.size → k ≠ b → w'.heap[k]? = w.heap[k]?) (hok : ObOK g' w' id (some o))
    (hown' : gone (some o) = false → ∀ b', own g' id b' → b' = b ∨ w.heap.size ≤ b') :
    R g' w' (hp.set id o) := by
  have hb := h.own_lt hold hown
  have oldown : ∀ i, i ≠ id → ∀ b', own g' i b' → own g i b' := by
    intro i hi b' ho
    rcases ho with ho | ⟨_, _, _, ho⟩
    · rw [hblk i hi] at ho; exact .inl ho
    · rw [hcur i hi] at ho; exact .inr ⟨_, _, _, ho⟩
  have hget : ∀ i, i ≠ id → (hp.set id o)[i]? = hp[i]? := fun i hi => by rw [List.getElem?_set]; simp [Ne.symm hi]
  refine ⟨?_, ?_, ?_, ?_, ?_, ?_⟩
  · rw [hle.base, hle.w0]
    exact h.below.trans ⟨hos, htape, hout, hsz, fun k hk => hoth k (by have := h.base; omega) (by have := hb.1.1; omega)⟩
  · rw [hle.base]; exact Nat.le_trans h.base hsz
  · intro k hk
    rw [hle.frz] at hk
    rw [hle.w0]
    obtain ⟨k1, k2⟩ := h.frz k hk
    refine ⟨by omega, (hoth k k1 (fun e => ?_)).trans k2⟩
    subst e
    have := hb.1.2
    rw [hk] at this; simp at this
  · intro b' o' v e
    rcases himm b' o' v e with e | ⟨_, e⟩
    · have hne : b' ≠ b := by intro e1; subst e1; rw [hb.2.2.1 o'] at e; simp at e
      have hc := h.imm b' o' v e
      rw [cell_congr (hoth b' (cell_lt hc) hne)]; exact hc
    · exact e
  · intro i
    by_cases hi : i = id
    · subst hi
      rw [List.getElem?_set]; simp [hlt]; exact hok
    · rw [hget i hi]
      refine (h.objs i).keep hle.free (hblk i hi) (hcur i hi) hle (fun b' ho hd => ?_) (fun b' o' ho hd e => ?_)
      · have := h.own_lt hd ho
        exact hoth b' this.2.1 (fun e => h.inj i id b' hi hd hold ho (e ▸ hown))
      · exact himm' b' o' (fun e1 => h.inj i id b' hi hd hold ho (e1 ▸ hown)) e
  · have hid : (hp.set id o)[id]? = some o := by rw [List.getElem?_set]; simp [hlt]
    have cross : ∀ j, j ≠ id → ∀ b', gone (hp.set id o)[id]? = false → gone (hp.set id o)[j]? = false → own g' id b' → own g' j b' → False := by
      intro j hj b' hdi hdj oi oj
      rw [hget j hj] at hdj
      have oj' := oldown j hj b' oj
      have hne : gone (some o) = false := by rw [hid] at hdi; exact hdi
      rcases hown' hne b' oi with e | e
      · exact h.inj j id b' hj hdj hold oj' (e ▸ hown)
      · have := (h.own_lt hdj oj').2.1; omega
    intro i j b' hij hdi hdj oi oj
    by_cases hi : i = id
    · subst hi; exact cross j (Ne.symm hij) b' hdi hdj oi oj
    · by_cases hj : j = id
      · subst hj; exact cross i hi b' hdj hdi oj oi
      · rw [hget i hi] at hdi; rw [hget j hj] at hdj
        exact h.inj i j b' hij hdi hdj (oldown i hi b' oi) (oldown j hj b' oj)
theorem R.turnV {g g' : Gh} {w w' : World} {hp : List Ob} {id : Nat} {o : Ob} (h : R g w hp) (hle : g.le g') (hlt : id < hp.length)
    (hcur : ∀ i, i ≠ id → g'.cur i = g.cur i) (hblk : ∀ i, i ≠ id → g'.blk i = g.blk i) (himm : g'.imm = g.imm) (hbel : Below w.heap.size w w') (hok : ObOK g' w' id (some o))
    (hown' : gone (some o) = false → ∀ b', own g' id b' → w.heap.size ≤ b') : R g' w' (hp.set id o) := by
  have hw := h.grow hbel
  have oldown : ∀ i, i ≠ id → ∀ b', own g' i b' → own g i b' := by
    intro i hi b' ho
    rcases ho with ho | ⟨_, _, _, ho⟩
    · rw [hblk i hi] at ho; exact .inl ho
    · rw [hcur i hi] at ho; exact .inr ⟨_, _, _, ho⟩
  have hget : ∀ i, i ≠ id → (hp.set id o)[i]? = hp[i]? := fun i hi => by rw [List.getElem?_set]; simp [Ne.symm hi]
  refine ⟨by rw [hle.base, hle.w0]; exact hw.below, by rw [hle.base]; exact hw.base, fun k hk => ?_, fun b o v e => hw.imm b o v (by rw [← himm]; exact e), fun i => ?_, ?_⟩
  · rw [hle.w0]; rw [hle.frz] at hk; exact hw.frz k hk
  · by_cases hi : i = id
    · subst hi
      rw [List.getElem?_set]; simp [hlt]; exact hok
    · rw [hget i hi]
      exact (hw.objs i).keep hle.free (hblk i hi) (hcur i hi) hle (fun _ _ _ => rfl) (fun _ _ _ _ e => by rw [himm]; exact e)
  · have hid : (hp.set id o)[id]? = some o := by rw [List.getElem?_set]; simp [hlt]
    have cross : ∀ j, j ≠ id → ∀ b', gone (hp.set id o)[id]? = false → gone (hp.set id o)[j]? = false → own g' id b' → own g' j b' → False := by
      intro j hj b' hdi hdj oi oj
      rw [hget j hj] at hdj
      have oj' := oldown j hj b' oj
      have hne : gone (some o) = false := by rw [hid] at hdi; exact hdi
      have e := hown' hne b' oi
      have := (h.own_lt hdj oj').2.1; omega
    intro i j b' hij hdi hdj oi oj
    by_cases hi : i = id
    · subst hi; exact cross j (Ne.symm hij) b' hdi hdj oi oj
    · by_cases hj : j = id
      · subst hj; exact cross i hi b' hdj hdi oj oi
      · rw [hget i hi] at hdi; rw [hget j hj] at hdj
        exact h.inj i j b' hij hdi hdj (oldown i hi b' oi) (oldown j hj b' oj)
theorem R.addVirt {g : Gh} {w : World} {hp : List Ob} (h : R g w hp) (ty : TypeId) {sz : Nat} (h0 : 0 < sz) (sh : Sh) (ver : Nat := 0) :
    ∃ g', g.le g' ∧ g'.cur hp.length = some (ver, 0, none, 0) ∧ R g' w (hp ++ [.grow ty ver sz sh []]) := by
  have hn := h.none_blk (i := hp.length) (Nat.le_refl _)
  let g' : Gh := { g with cur := fun i => if i = hp.length then some (ver, 0, none, 0) else g.cur i }
  have hle : g.le g' := ⟨rfl, rfl, rfl, fun _ _ _ => rfl, fun _ _ _ e => e, fun _ _ e => e, fun i v' l' b' c' e => by
    show ∃ x, (if i = hp.length then some (ver, 0, none, 0) else g.cur i) = some x ∧ _
    split
    · rename_i e1; rw [e1, hn.2] at e; simp at e
    · exact ⟨_, e, Hdr.refl _ _ _ _⟩⟩
  have oldown : ∀ i b', own g' i b' → own g i b' ∧ i ≠ hp.length := by
    intro i b' ho
    rcases ho with ho | ⟨v1, l1, c1, ho⟩
    · refine ⟨.inl ho, fun e => ?_⟩
      subst e; have : g.blk hp.length = some b' := ho; rw [hn.1] at this; simp at this
    · have ho : (if i = hp.length then some (ver, 0, none, 0) else g.cur i) = some (v1, l1, some b', c1) := ho
      split at ho
      · simp at ho
      · rename_i hi; exact ⟨.inr ⟨_, _, _, ho⟩, hi⟩
  have old : ∀ i, i ≠ hp.length → gone (hp ++ [.grow ty ver sz sh []])[i]? = false → gone hp[i]? = false := by
    intro i hne hd
    rcases Nat.lt_or_ge i hp.length with hl | hl
    · rwa [getElem?_snoc_lt _ _ _ hl] at hd
    · rw [List.getElem?_eq_none hl]; simp
  refine ⟨g', hle, by simp [g'], h.below, h.base, h.frz, h.imm, fun i => ?_, fun i j b' hij hdi hdj oi oj => ?_⟩
  · rcases Nat.lt_trichotomy i hp.length with hi | hi | hi
    · rw [getElem?_snoc_lt _ _ _ hi]
      exact (h.objs i).keep rfl rfl (by show (if i = hp.length then _ else g.cur i) = _; rw [if_neg (by omega)]) hle (fun _ _ _ => rfl) (fun _ _ _ _ e => e)
    · subst hi
      rw [getElem?_snoc_eq]
      exact ⟨hn.1, .inl ⟨rfl, h0, by simp [g']⟩⟩
    · rw [getElem?_snoc_gt _ _ _ hi]
      have := h.none_blk (i := i) (by omega)
      exact ⟨this.1, by show (if i = hp.length then _ else g.cur i) = _; rw [if_neg (by omega)]; exact this.2⟩
  · obtain ⟨o1, n1⟩ := oldown i b' oi
    obtain ⟨o2, n2⟩ := oldown j b' oj
    exact h.inj i j b' hij (old i n1 hdi) (old j n2 hdj) o1 o2
def putR (cur : Array Value) (o : Nat) : List Value → Array Value
  | [] => cur
  | v :: r => putR (cur.setIfInBounds o v) (o + 1) r
@[simp] theorem size_putR (cur : Array Value) (o : Nat) (vs : List Value) : (putR cur o vs).size = cur.size := by
  induction vs generalizing cur o with
  | nil => rfl
  | cons v r ih => simp [putR, ih]
theorem heap_setCells (b : Nat) : ∀ (vs : List Value) (o : Nat) (w : World) (cur : Array Value) (ty : TypeId) (fz : Nat × Nat), w.heap[b]? = some (.cells cur ty fz) →
    (w.setCells b o vs).heap[b]? = some (.cells (putR cur o vs) ty fz)
  | [], o, w, cur, ty, fz, h => h
  | v :: r, o, w, cur, ty, fz, h => by
    have h1 : (w.setCell ⟨b, o, none⟩ v).heap[b]? = some (.cells (cur.setIfInBounds o v) ty fz) := by
      simp [World.setCell, Array.getElem?_modify, h]
    rw [World.setCells]
    exact heap_setCells b r (o + 1) _ _ ty fz h1
theorem heap_setCells_other (b : Nat) : ∀ (vs : List Value) (o : Nat) (w : World) (k : Nat), k ≠ b → (w.setCells b o vs).heap[k]? = w.heap[k]?
  | [], o, w, k, h => rfl
  | v :: r, o, w, k, h => by
    rw [World.setCells, heap_setCells_other b r (o + 1) _ k h]
    simp [World.setCell, Array.getElem?_modify, Ne.symm h]
theorem rest_setCells (b : Nat) : ∀ (vs : List Value) (o : Nat) (w : World), (w.setCells b o vs).os = w.os ∧ (w.setCells b o vs).tape = w.tape ∧ (w.setCells b o vs).output = w.output ∧ (w.setCells b o vs).heap.size = w.heap.size
  | [], o, w => ⟨rfl, rfl, rfl, rfl⟩
  | v :: r, o, w => by
    rw [World.setCells]
    have := rest_setCells b r (o + 1) (w.setCell ⟨b, o, none⟩ v)
    exact ⟨this.1, this.2.1, this.2.2.1, by rw [this.2.2.2]; simp⟩
theorem putR_list (cur : Array Value) (o : Nat) (vs : List Value) (h : o + vs.length ≤ cur.size) :
    (putR cur o vs).toList = cur.toList.take o ++ vs ++ cur.toList.drop (o + vs.length) := by
  induction vs generalizing cur o with
  | nil => simp [putR]
  | cons v r ih =>
    simp only [List.length_cons] at h
    rw [putR, ih _ _ (by simp; omega)]
    apply List.ext_getElem?
    intro i
    simp only [Array.toList_setIfInBounds, List.append_assoc, List.getElem?_append, List.length_take, List.length_set, List.getElem?_take, List.getElem?_set, List.getElem?_drop, List.length_cons, List.cons_append, Array.length_toList]
    by_cases h1 : i < o
    · have a1 : i < min (o + 1) cur.size := by omega
      have a2 : i < min o cur.size := by omega
      simp [a1, a2, h1, show i < o + 1 by omega, show ¬ o = i by omega]
    · by_cases h2 : i = o
      · subst h2
        have a1 : i < min (i + 1) cur.size := by omega
        have a2 : ¬ i < min i cur.size := by omega
        have a3 : i - min i cur.size = 0 := by omega
        simp [a1, a3, show i < cur.size by omega, Nat.min_le_left]
      · have a1 : ¬ i < min (o + 1) cur.size := by omega
        have a2 : ¬ i < min o cur.size := by omega
        have a4 : min (o + 1) cur.size = o + 1 := by omega
        have a5 : min o cur.size = o := by omega
        simp only [a4, a5, show ¬ i < o + 1 by omega, show ¬ i < o by omega, if_false]
        have a6 : i - o = (i - (o + 1)) + 1 := by omega
        rw [a6]
        simp only [List.getElem?_cons_succ, List.getElem?_append]
        by_cases h3 : i - (o + 1) < r.length
        · simp [h3]
        · simp only [h3, if_false, List.getElem?_drop]
          have a7 : ¬ o = o + 1 + r.length + (i - (o + 1) - r.length) := by omega
          simp only [a7, if_false]
          congr 1
          omega
end Go.Cx

end

section
namespace Go.Cx
open Go.RowKit (Below)
set_option linter.unusedSimpArgs false
theorem ofCell_V (g : Gh) (v : Value) : V g (ofCell v) v := by
  cases v with
  | bool b => exact .bool b
  | int k n => exact .int k n
  | string s =>
    simp only [ofCell]
    split
    · rename_i h
      obtain ⟨⟨l⟩⟩ := s
      exact .str l (LIM_TOP (by simpa using h))
    · exact .junk _
  | pointer a => cases a with
    | none => exact .nilptr
    | some a => exact .junk _
  | slice a n c =>
    cases a with
    | none =>
      cases n with
      | zero => cases c with
        | zero => exact .nilsl
        | succ c => exact .junk _
      | succ n => exact .junk _
    | some a => exact .junk _
  | nilFunc => exact .nilfunc
  | nilIface => exact .nilIface
  | _ => exact .junk _
theorem ofConst_V (g : Gh) (v : Value) : V g (ofConst v) v := by
  cases v with
  | agg cs =>
    refine .agg _ _ (by simp) fun i c v h1 h2 => ?_
    simp only [List.getElem?_map] at h1
    cases hc : cs[i]? with
    | none => rw [hc] at h2; simp at h2
    | some x =>
      rw [hc] at h2; cases h2
      have : cs.toList[i]? = some v := by simpa using hc
      rw [this] at h1; simp at h1; subst h1
      exact ofCell_V g v
  | _ => simp only [ofConst]; exact ofCell_V g _
theorem eval_V {g : Gh} {fr : List AV} {a : Act} (h : VL g fr a.tmps.toList) (x : Operand) : V g (evalA fr x) (a.eval x) := by
  cases x with
  | tmp t => have := h.getD t; simpa [evalA, getR_eq, Act.eval, Array.getD_eq_getD_getElem?, List.getD_eq_getElem?_getD] using this
  | const v => exact ofConst_V g v
  | global i => exact .junk _
  | func f => exact .func f [] [] #[] #[] rfl (fun i c v h => by simp at h) rfl (fun i c v h => by simp at h)
theorem evals_VL {g : Gh} {fr : List AV} {a : Act} (h : VL g fr a.tmps.toList) (xs : List Operand) : VL g (xs.map (evalA fr)) (xs.map a.eval) := by
  refine ⟨by simp, fun i c v h1 h2 => ?_⟩
  simp only [List.getElem?_map] at h1 h2
  cases hx : xs[i]? with
  | none => rw [hx] at h1; simp at h1
  | some x => rw [hx] at h1 h2; simp at h1 h2; subst h1 h2; exact eval_V h x
section
variable {P : Program} {t : TypeId}
theorem tk_int {k : IntKind} (h : tk P t = .int k) : P.underlying t = some (.int k) := by
  rw [tk_def] at h; split at h <;> simp_all
theorem tk_bool (h : tk P t = .bool) : P.underlying t = some .bool := by
  rw [tk_def] at h; split at h <;> simp_all
theorem tk_str (h : tk P t = .str) : P.underlying t = some .string := by
  rw [tk_def] at h; split at h <;> simp_all
theorem tk_slice {e : TypeId} (h : tk P t = .slice e) : P.underlying t = some (.slice e) := by
  rw [tk_def] at h; split at h <;> simp_all
theorem tk_array {n : Nat} {e : TypeId} (h : tk P t = .array n e) : P.underlying t = some (.array n e) := by
  rw [tk_def] at h; split at h <;> simp_all
theorem tk_struct {l : List (Nat × TypeId)} (h : tk P t = .struct l) : ∃ fs, P.underlying t = some (.struct fs) ∧ l = fs.toList.map fun f => (f.offset, f.type) := by
  rw [tk_def] at h; split at h <;> simp_all
theorem tk_pointer {e : TypeId} (h : tk P t = .pointer e) : P.underlying t = some (.pointer e) := by
  rw [tk_def] at h; split at h <;> simp_all
theorem tk_func (h : tk P t = .func) : ∃ a b c, P.underlying t = some (.func a b c) := by
  rw [tk_def] at h; split at h <;> simp_all
theorem info_of_underlying {d : TypeDesc} (h : P.underlying t = some d) : ∃ i, P.info? t = some i := by
  unfold Program.underlying at h
  cases hi : P.info? t with
  | none => rw [hi] at h; simp at h
  | some i => exact ⟨i, rfl⟩
theorem run_sizeOf {i : TypeInfo} (h : P.info? t = some i) (w : World) : (sizeOf t).run P w = .ok (sizeA P t) w := by
  simp [sizeOf, typeInfo, h, sizeA, infoF_eq]
theorem run_typeInfo' {i : TypeInfo} (h : P.info? t = some i) (w : World) : (typeInfo t).run P w = .ok i w := by
  simp [typeInfo, h]
theorem run_sizeOf_u {d : TypeDesc} (h : P.underlying t = some d) (w : World) : (sizeOf t).run P w = .ok (sizeA P t) w := by
  obtain ⟨i, hi⟩ := info_of_underlying h; exact run_sizeOf hi w
end
theorem toList_mk (l : List UInt8) : (ByteArray.mk ⟨l⟩).toList = l := by
  rw [ByteArray.toList_eq]
def Gives (P : Program) (g : Gh) (w : World) (s : Sem Value) (v : AV) : Prop := ∃ cv, s.run P w = .ok cv w ∧ V g v cv
theorem bits_run {P : Program} {w : World} (op : BinOp) (k : IntKind) (x y : Int) (h : op = .and ∨ op = .or ∨ op = .xor ∨ op = .andNot) :
    (Op.intBits op k x y).run P w = .ok (.int k (bitsA op k x y)) w := by
  rcases h with rfl | rfl | rfl | rfl <;> rfl
section
variable {P : Program} {g : Gh} {w : World}
theorem int_inv {k : IntKind} {n : Int} {v : Value} (h : V g (.int k n) v) : v = .int k n := by cases h; rfl
theorem bool_inv {b : Bool} {v : Value} (h : V g (.bool b) v) : v = .bool b := by cases h; rfl
theorem str_inv {s : List UInt8} {v : Value} (h : V g (.str s) v) : v = .string ⟨⟨s⟩⟩ ∧ s.length < TOP := by cases h; exact ⟨rfl, by assumption⟩
theorem eqCell_sound {t : TypeId} {a b : AV} {r : Bool} (h : eqCell P t a b = some r) {x y : Value} (hx : V g a x) (hy : V g b y) (d : Nat) :
    (Op.equalIn (d + 1) t x y).run P w = .ok r w := by
  unfold eqCell at h
  split at h
  · cases int_inv hx; cases int_inv hy
    split at h
    · rename_i k ht
      split at h <;> simp at h
      rename_i e; subst e; subst h
      simp [Op.equalIn, run_underlying (tk_int ht)]
    · simp at h
  · cases bool_inv hx; cases bool_inv hy
    split at h <;> simp at h
    rename_i ht; subst h
    simp [Op.equalIn, run_underlying (tk_bool ht)]
  · obtain ⟨rfl, _⟩ := str_inv hx; obtain ⟨rfl, _⟩ := str_inv hy
    split at h <;> simp at h
    rename_i ht; subst h
    simp [run_equalIn_string w d t _ _ (tk_str ht), toList_mk]
  · simp at h
theorem part_run {t : TypeId} {cs : Array Value} {i : Nat} {v : Value} (hu : ∃ d, P.underlying t = some d ∧ (match d with | .struct _ | .array _ _ => False | _ => True)) (hv : cs[i]? = some v) :
    (part t cs i).run P w = .ok v w := by
  obtain ⟨d, hu, hd⟩ := hu
  have : (isAgg t).run P w = .ok false w := by
    simp only [isAgg, Sem.run_bind, run_underlying hu, Result.andThen_ok]
    cases d <;> simp_all
  simp [part, this, hv]
theorem eqCell_plain {t : TypeId} {a b : AV} {r : Bool} (h : eqCell P t a b = some r) : ∃ d, P.underlying t = some d ∧ (match d with | .struct _ | .array _ _ => False | _ => True) := by
  unfold eqCell at h
  split at h
  · split at h
    · rename_i ht; exact ⟨_, tk_int ht, trivial⟩
    · simp at h
  · split at h
    · rename_i ht; exact ⟨_, tk_bool ht, trivial⟩
    · simp at h
  · split at h
    · rename_i ht; exact ⟨_, tk_str ht, trivial⟩
    · simp at h
  · simp at h
theorem eqFields_sound (d : Nat) {X Y : Array Value} : ∀ (fs : List Field) (k : Nat) (as bs : List AV) (r : Bool), eqCells P (fs.map (·.type)) as bs = some r →
    fs.all (fun f => f.name != "_") = true → fs.map (·.offset) = (List.range fs.length).map (k + ·) → VL g as (X.toList.drop k) → VL g bs (Y.toList.drop k) →
    (Op.eqFields (d + 1) X Y fs).run P w = .ok r w
  | [], k, as, bs, r, h, _, _, _, _ => by
    cases as <;> cases bs <;> simp [eqCells] at h
    subst h; simp [Op.eqFields]
  | f :: fs, k, as, bs, r, h, hn, ho, ha, hb => by
    cases as with
    | nil => simp [eqCells] at h
    | cons a as =>
      cases bs with
      | nil => simp [eqCells] at h
      | cons b bs =>
        simp only [List.map_cons, eqCells] at h
        split at h
        · rename_i p q hp hq
          simp at h; subst h
          simp only [List.all_cons, Bool.and_eq_true] at hn
          simp only [List.map_cons, List.length_cons, List.range_succ_eq_map, List.map_map] at ho
          have ho1 := (List.cons.inj ho).1
          have ho2 := (List.cons.inj ho).2
          simp only [Nat.add_zero] at ho1
          obtain ⟨va, vas, e1, v1, v2⟩ := ha.cons_inv
          obtain ⟨vb, vbs, e2, v3, v4⟩ := hb.cons_inv
          have hX : X[f.offset]? = some va := by
            have := congrArg (fun l => l[0]?) e1; simpa [ho1] using this
          have hY : Y[f.offset]? = some vb := by
            have := congrArg (fun l => l[0]?) e2; simpa [ho1] using this
          have dX : X.toList.drop (k + 1) = vas := by rw [← List.drop_drop, e1]; rfl
          have dY : Y.toList.drop (k + 1) = vbs := by rw [← List.drop_drop, e2]; rfl
          have pl := eqCell_plain hp
          have ih := eqFields_sound d fs (k + 1) as bs q hq hn.2 (by rw [ho2]; apply List.map_congr_left; intro i _; simp; omega) (dX ▸ v2) (dY ▸ v4)
          have hn' : f.name ≠ "_" := by simpa using hn.1
          rw [Op.eqFields]
          simp only [if_pos hn', Sem.run_bind, part_run pl hX, part_run pl hY, eqCell_sound hp v1 v3 d, Result.andThen_ok]
          cases p
          · simp
          · simpa using ih
        · simp at h
theorem eqd_nn (d : Nat) {t e : TypeId} (ht : P.underlying t = some (.pointer e)) : (Op.equalIn (d + 1) t (.pointer none) (.pointer none)).run P w = .ok true w := by
  simp [Op.equalIn, run_underlying ht]
theorem eqd_sn (d : Nat) {t e : TypeId} (a : Addr) (ht : P.underlying t = some (.pointer e)) : (Op.equalIn (d + 1) t (.pointer (some a)) (.pointer none)).run P w = .ok false w := by
  simp [Op.equalIn, run_underlying ht]
theorem eqd_ns (d : Nat) {t e : TypeId} (a : Addr) (ht : P.underlying t = some (.pointer e)) : (Op.equalIn (d + 1) t (.pointer none) (.pointer (some a))).run P w = .ok false w := by
  simp [Op.equalIn, run_underlying ht]
theorem eqd_same (d : Nat) {t e : TypeId} {j : TypeInfo} (a : Addr) (ht : P.underlying t = some (.pointer e)) (he : P.info? e = some j) : (Op.equalIn (d + 1) t (.pointer (some a)) (.pointer (some a))).run P w = .ok true w := by
  simp [Op.equalIn, run_underlying ht, sizeOf, typeInfo, he, run_sameAddr_same]
theorem eqd_slnn (d : Nat) {t e : TypeId} (l c l' c' : Nat) (ht : P.underlying t = some (.slice e)) : (Op.equalIn (d + 1) t (.slice none l c) (.slice none l' c')).run P w = .ok true w := by
  simp [Op.equalIn, run_underlying ht]
theorem eqd_slsn (d : Nat) {t e : TypeId} (a : Addr) (l c l' c' : Nat) (ht : P.underlying t = some (.slice e)) : (Op.equalIn (d + 1) t (.slice (some a) l c) (.slice none l' c')).run P w = .ok false w := by
  simp [Op.equalIn, run_underlying ht]
theorem eqd_fnn (d : Nat) {t : TypeId} {p q : Array TypeId} {v : Bool} (ht : P.underlying t = some (.func p q v)) : (Op.equalIn (d + 1) t .nilFunc .nilFunc).run P w = .ok true w := by
  simp [Op.equalIn, run_underlying ht]
theorem eqd_fsn (d : Nat) {t : TypeId} {p q : Array TypeId} {v : Bool} (f : Fn) (a b : Array Value) (ht : P.underlying t = some (.func p q v)) : (Op.equalIn (d + 1) t (.func f a b) .nilFunc).run P w = .ok false w := by
  simp [Op.equalIn, run_underlying ht]
theorem equal_unfold (t : TypeId) (x y : Value) : Op.equal t x y = Op.equalIn (9999 + 1) t x y := rfl
theorem eqA_sound {t : TypeId} {x y : AV} {b : Bool} (h : eqA P t x y = some b) {cx cy : Value} (hx : V g x cx) (hy : V g y cy) :
    (Op.equal t cx cy).run P w = .ok b w ∧ (∀ op xo yo, (eqGuard op t xo yo cx cy).run P w = .ok () w) ∧
      binOp .eql t cx cy = (do pure (.bool (← Op.equal t cx cy))) ∧ binOp .neq t cx cy = (do pure (.bool (!(← Op.equal t cx cy)))) := by
  have triv : ∀ {cx cy : Value}, (∀ u v, (cx, cy) ≠ (.agg u, .agg v)) → (cx, cy) ≠ (.nilIface, .nilIface) → ∀ op xo yo, (eqGuard op t xo yo cx cy).run P w = .ok () w := by
    intro cx cy h1 h2 op xo yo
    unfold eqGuard
    (repeat' split) <;> first
      | rfl
      | (exact absurd rfl (h1 _ _))
      | (exact absurd rfl h2)
  unfold eqA at h
  rw [equal_unfold]
  split at h
  · cases bool_inv hx; cases bool_inv hy
    split at h <;> simp at h
    rename_i ht; subst h
    exact ⟨run_equalIn_bool' w _ t _ _ (tk_bool ht), triv (by simp) (by simp), rfl, rfl⟩
  · cases hx; cases hy
    split at h <;> simp at h
    rename_i ht; subst h
    exact ⟨eqd_nn _ (tk_pointer ht), triv (by simp) (by simp), rfl, rfl⟩
  · rename_i i o i' o'
    split at h
    · rename_i u ht
      split at h
      · rename_i hc
        obtain ⟨rfl, rfl, hT⟩ := hc
        simp only [Option.some.injEq] at h; subst h
        obtain ⟨j, hj⟩ := Option.isSome_iff_exists.1 (show (P.info? u).isSome = true by rw [← infoF_eq]; exact hT)
        cases hx with
        | ptr _ _ b1 h1 =>
          cases hy with
          | ptr _ _ b2 h2 =>
            rw [h1] at h2; cases h2
            exact ⟨eqd_same _ _ (tk_pointer ht) hj, triv (by simp) (by simp), rfl, rfl⟩
      · simp at h
    · simp at h
  iterate 3
    · cases hx; cases hy
      split at h <;> simp at h
      rename_i ht; subst h
      exact ⟨eqd_sn _ _ (tk_pointer ht), triv (by simp) (by simp), rfl, rfl⟩
  iterate 3
    · cases hx; cases hy
      split at h <;> simp at h
      rename_i ht; subst h
      exact ⟨eqd_ns _ _ (tk_pointer ht), triv (by simp) (by simp), rfl, rfl⟩
  · cases hx; cases hy
    split at h <;> simp at h
    rename_i ht; subst h
    exact ⟨eqd_slnn _ _ _ _ _ (tk_slice ht), triv (by simp) (by simp), rfl, rfl⟩
  iterate 2
    · cases hx <;> cases hy <;>
        (split at h <;> simp at h
         rename_i ht; subst h
         exact ⟨eqd_slsn _ _ _ _ _ _ (tk_slice ht), triv (by simp) (by simp), rfl, rfl⟩)
  · cases hx; cases hy
    split at h <;> simp at h
    rename_i ht; subst h
    obtain ⟨_, _, _, ht⟩ := tk_func ht
    exact ⟨eqd_fnn _ ht, triv (by simp) (by simp), rfl, rfl⟩
  · cases hx; cases hy
    split at h <;> simp at h
    rename_i ht; subst h
    obtain ⟨_, _, _, ht⟩ := tk_func ht
    exact ⟨eqd_fsn _ _ _ _ ht, triv (by simp) (by simp), rfl, rfl⟩
  · split at h
    · rename_i ts hp
      obtain ⟨xs, l1, v1⟩ : ∃ xs, cx = .agg xs ∧ VL g _ xs.toList := by cases hx; exact ⟨_, rfl, by simpa [VL] using ⟨‹_›, ‹_›⟩⟩
      obtain ⟨ys, l2, v2⟩ : ∃ ys, cy = .agg ys ∧ VL g _ ys.toList := by cases hy; exact ⟨_, rfl, by simpa [VL] using ⟨‹_›, ‹_›⟩⟩
      subst l1 l2
      unfold plainStruct at hp
      split at hp
      · rename_i fs hu
        rw [underF_eq] at hu
        split at hp
        · rename_i hc
          simp only [Bool.and_eq_true, Bool.not_eq_true', beq_iff_eq] at hc
          simp at hp; subst hp
          obtain ⟨⟨⟨c1, c2⟩, c3⟩, c4⟩ := hc
          have hf : P.fieldsOf t = fs := by simp [Program.fieldsOf, hu]
          refine ⟨?_, fun op xo yo => run_eqGuard_agg w op t xo yo xs ys c4, rfl, rfl⟩
          rw [run_equalIn_struct w 9999 t xs ys (by rw [hf]; exact hu) c1, hf]
          exact eqFields_sound 9998 fs.toList 0 _ _ b h c2 (by simpa using c3) (by simpa using v1) (by simpa using v2)
        · simp at hp
      · simp at hp
    · simp at h
  · simp at h
theorem ask_some {α : Type} {b : Bool} {k : Option α} {v : α} (h : ask none b k = some v) : b = true ∧ k = some v := by
  cases b <;> simp_all [ask]
theorem eqGuard_int (op : BinOp) (t : TypeId) (xo yo : Operand) (k k' : IntKind) (a b : Int) : (eqGuard op t xo yo (.int k a) (.int k' b)).run P w = .ok () w := by
  unfold eqGuard; split <;> rfl
theorem eqGuard_str (op : BinOp) (t : TypeId) (xo yo : Operand) (a b : ByteArray) : (eqGuard op t xo yo (.string a) (.string b)).run P w = .ok () w := by
  unfold eqGuard; split <;> rfl
theorem str_add {t : TypeId} (a b : List UInt8) (hb : a.length + b.length < LIM) : (binOp .add t (.string ⟨⟨a⟩⟩) (.string ⟨⟨b⟩⟩)).run P w = .ok (.string ⟨⟨a ++ b⟩⟩) w := by
  have e1 : (⟨⟨a⟩⟩ : ByteArray).size = a.length := rfl
  have e2 : (⟨⟨b⟩⟩ : ByteArray).size = b.length := rfl
  have e3 : (⟨⟨a⟩⟩ : ByteArray) ++ ⟨⟨b⟩⟩ = ⟨⟨a ++ b⟩⟩ := by
    apply ByteArray.ext; simp
  simp only [binOp, Op.stringOp, e1, e2, e3]
  rw [if_neg (by unfold LIM at hb; simp [IntKind.max, IntKind.signed, IntKind.bits]; omega)]
  rfl
theorem binA_sound {op : BinOp} {t : TypeId} {x y v : AV} (h : binA none P op t x y some = some v) {cx cy : Value} (hx : V g x cx) (hy : V g y cy) (xo yo : Operand) :
    ∃ cv, (do eqGuard op t xo yo cx cy; binOp op t cx cy : Sem Value).run P w = .ok cv w ∧ V g v cv := by
  unfold binA at h
  split at h
  · -- shl
    cases int_inv hx; cases int_inv hy
    obtain ⟨hb, h⟩ := ask_some h
    simp at h hb; subst h
    refine ⟨_, ?_, .int _ _⟩
    simp only [Sem.run_bind, eqGuard_int, Result.andThen_ok, binOp, Op.shift]
    rw [if_neg (by omega)]; rfl
  · cases int_inv hx; cases int_inv hy
    obtain ⟨hb, h⟩ := ask_some h
    simp at h hb; subst h
    refine ⟨_, ?_, .int _ _⟩
    simp only [Sem.run_bind, eqGuard_int, Result.andThen_ok, binOp, Op.shift]
    rw [if_neg (by omega)]; rfl
  · rename_i op k a k' b n1 n2
    cases int_inv hx; cases int_inv hy
    split at h
    · rename_i e; subst e
      simp only [Sem.run_bind, eqGuard_int, Result.andThen_ok]
      split at h
      · simp at h; subst h; exact ⟨_, by simp [binOp, Op.intArith], .int _ _⟩
      · simp at h; subst h; exact ⟨_, by simp [binOp, Op.intArith], .int _ _⟩
      · simp at h; subst h; exact ⟨_, by simp [binOp, Op.intArith], .int _ _⟩
      · cases hz : isZ b <;> simp [hz] at h
        subst h
        simp [isZ] at hz
        exact ⟨_, by simp [binOp, Op.intDiv, hz], .int _ _⟩
      · cases hz : isZ b <;> simp [hz] at h
        subst h
        simp [isZ] at hz
        exact ⟨_, by simp [binOp, Op.intDiv, hz], .int _ _⟩
      · simp at h; subst h; exact ⟨_, by simp only [binOp, ne_eq, not_true_eq_false, if_false]; exact bits_run _ _ _ _ (by simp), .int _ _⟩
      · simp at h; subst h; exact ⟨_, by simp only [binOp, ne_eq, not_true_eq_false, if_false]; exact bits_run _ _ _ _ (by simp), .int _ _⟩
      · simp at h; subst h; exact ⟨_, by simp only [binOp, ne_eq, not_true_eq_false, if_false]; exact bits_run _ _ _ _ (by simp), .int _ _⟩
      · simp at h; subst h; exact ⟨_, by simp only [binOp, ne_eq, not_true_eq_false, if_false]; exact bits_run _ _ _ _ (by simp), .int _ _⟩
      iterate 6 (simp at h; subst h; exact ⟨_, by simp [binOp, Op.intCmp], .bool _⟩)
      · simp at h
    · simp at h
  · obtain ⟨rfl, la⟩ := str_inv hx; obtain ⟨rfl, lb⟩ := str_inv hy
    simp only [Sem.run_bind, eqGuard_str, Result.andThen_ok]
    split at h
    · obtain ⟨hb, h⟩ := ask_some h
      simp at h hb; subst h
      refine ⟨_, ?_, .str _ (LIM_TOP (by simpa using hb))⟩
      exact str_add _ _ (by simpa using hb)
    iterate 6 (simp at h; subst h; exact ⟨_, by simp [binOp, Op.stringOp, toList_mk], .bool _⟩)
    · simp at h
  · split at h
    · rename_i b hb
      simp at h; subst h
      obtain ⟨h1, h2, h3, h4⟩ := eqA_sound (w := w) hb hx hy
      exact ⟨.bool b, by simp [h2, h3, h1], .bool _⟩
    · simp at h
  · split at h
    · rename_i b hb
      simp at h; subst h
      obtain ⟨h1, h2, h3, h4⟩ := eqA_sound (w := w) hb hx hy
      exact ⟨.bool (!b), by simp [h2, h4, h1], .bool _⟩
    · simp at h
  · simp at h
end
end Go.Cx

end
