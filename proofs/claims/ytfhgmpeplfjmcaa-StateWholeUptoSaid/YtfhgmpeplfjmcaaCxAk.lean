/- Worlds that turn in one block: for summaries that are walked by hand. -/
import Derived.Test.YtfhgmpeplfjmcaaCxAj
import Derived.Lib.UnsafeStr
namespace Go.Cx
open Go.RowKit (Below)
set_option linter.unusedSimpArgs false
theorem sound_heap_walk {P : Program} {f : FuncId} {fn : Func} {c : Code} (hf : P.funcs[f]? = some fn) (hb : fn.body = some c) (hn : (fn.name == "runtime.NumGoroutine") = false) {F : List AV → List Ob → Tr (AV × List Ob)}
    (h : ∀ args hp r hp2, (F args hp).val = some (r, hp2) → hp.length ≤ hp2.length → ∀ g w vs, R g w hp → VL g args vs →
      Calls P f vs.toArray w fun e w' => ∃ v g', e = .returned v ∧ g.le g' ∧ R g' w' hp2 ∧ V g' r v) : Sound P f (heapS F) where
  body := ⟨fn, c, hf, hb, hn⟩
  pure := by
    intro args hp r hp' hs
    obtain ⟨_, _, _, _, _, _, _, _, _, _, e⟩ := heapS_inv hs
    simp at e
  read := by
    intro args hp r hp' hs
    obtain ⟨_, _, _, _, _, _, _, _, _, _, e⟩ := heapS_inv hs
    simp at e
  heap := fun args hp r hp' h => heapS_loc F args hp r hp' h
  calls := by
    intro args hp r hp' cl hs g w vs hR hv
    obtain ⟨L, r2, hp2, -, h1, h1', h2, h3, rfl, rfl, rfl⟩ := heapS_inv hs
    have K := Lok.of hR h1
    refine Calls.mono (h _ _ _ _ h2 (by simpa [smallH] using h3) _ w vs K.toSmall (K.args hv h1')) ?_
    rintro e w' ⟨v, g2, rfl, hle, hR2, hV⟩
    obtain ⟨g', j1, j2, j3⟩ := K.back hle hR2 h3
    exact ⟨v, g', rfl, j1, j2, j3 _ _ hV⟩
section
variable {g : Gh} {w : World} {hp : List Ob}
theorem R.setFix (h : R g w hp) {id ty off : Nat} {cs : List AV} (he : hp[id]? = some (.fix ty cs)) {v : AV} {cv : Value} (hv : V g v cv) (h1 : oneCell v = true) {b : Nat} (hb : g.blk id = some b) :
    R g (w.setCell ⟨b, off, none⟩ cv) (hp.set id (.fix ty (cs.set off v))) := by
  have k := h.objs id
  rw [he] at k
  obtain ⟨k1, b', vs, fz, k2, k3, k4, k5, k6, k7, k8⟩ := k
  rw [k2] at hb; cases hb
  obtain ⟨r1, r2, r3, r4⟩ := rest_setCells b [cv] off w
  have := heap_setCells b [cv] off w vs ty fz k4
  have hset : w.setCells b off [cv] = w.setCell ⟨b, off, none⟩ cv := rfl
  rw [hset] at this r1 r2 r3 r4
  refine h.turn (g' := g) (b := b) (Gh.le.refl g) (length_of_get he) (by rw [he]; simp) (.inl k2) (fun _ _ => rfl) (fun _ _ => rfl) (fun _ _ _ e => .inl e) (fun _ _ _ e => e) r1 r2 r3 (by omega)
    (fun k _ hk => by have := heap_setCells_other b [cv] off w k hk; rwa [hset] at this) ?_ (fun _ b' ho => ?_)
  · refine ⟨k1, b, _, fz, k2, k3, this, ?_, fun c hc => ?_, k7, fun o ho => ?_⟩
    · simpa [putR] using k5.set off hv
    · rcases List.mem_or_eq_of_mem_set hc with hc | rfl
      · exact k6 c hc
      · exact h1
    · rw [← hset, World.frozen?_setCells]
      exact k8 o (by simpa using ho)
  · left
    rcases ho with ho | ⟨_, _, _, ho⟩
    · rw [k2] at ho; exact (Option.some.inj ho).symm
    · rw [k1] at ho; simp at ho
theorem R.freeze (h : R g w hp) {b n : Nat} (hno : ∀ i, gone hp[i]? = false → ¬ own g i b) (hfree : g.free b) : R g (w.freeze ⟨b, 0, none⟩ n) hp := by
  have hoth : ∀ k, k ≠ b → (w.freeze ⟨b, 0, none⟩ n).heap[k]? = w.heap[k]? := by
    intro k hk
    unfold World.freeze
    split
    · rfl
    · simp only [Array.getElem?_modify]; rw [if_neg (fun e => hk e.symm)]
  have hcell : ∀ b' o, (w.freeze ⟨b, 0, none⟩ n).cell? ⟨b', o, none⟩ = w.cell? ⟨b', o, none⟩ := by
    intro b' o
    by_cases e : b' = b
    · subst e
      unfold World.freeze
      split
      · rfl
      · simp only [World.cell?, Array.getElem?_modify, if_true]
        cases hh : w.heap[b']? with
        | none => rfl
        | some ob => cases ob <;> rfl
    · exact cell_congr (hoth b' e)
  have hsz : (w.freeze ⟨b, 0, none⟩ n).heap.size = w.heap.size := by
    unfold World.freeze; split <;> simp
  have hos : (w.freeze ⟨b, 0, none⟩ n).os = w.os ∧ (w.freeze ⟨b, 0, none⟩ n).tape = w.tape ∧ (w.freeze ⟨b, 0, none⟩ n).output = w.output := by
    unfold World.freeze; split <;> exact ⟨rfl, rfl, rfl⟩
  refine ⟨h.below.trans ⟨hos.1, hos.2.1, hos.2.2, by omega, fun k hk => hoth k (by have := hfree.1; omega)⟩, by rw [hsz]; exact h.base, fun k hk => ?_, fun b' o v e => by rw [hcell]; exact h.imm b' o v e, fun i => ?_, h.inj⟩
  · obtain ⟨a1, a2⟩ := h.frz k hk
    refine ⟨by rw [hsz]; exact a1, ?_⟩
    rw [hoth k (fun e => by subst e; rw [hfree.2] at hk; simp at hk)]; exact a2
  · refine (h.objs i).keep rfl rfl rfl (Gh.le.refl g) (fun b' ho hd => ?_) (fun _ _ _ _ e => e)
    exact hoth b' (fun e => hno i hd (e ▸ ho))
end
section
variable {P : Program} (w : World)
theorem run_loadBytes' : ∀ (l : List Int) (a : Addr) (acc : ByteArray), (∀ j n, l[j]? = some n → w.cell? (a.add j) = some (.int .u8 n)) →
    (loadBytes a acc l.length).run P w = .ok ⟨acc.data ++ (l.map fun n => UInt8.ofNat n.toNat).toArray⟩ w
  | [], a, acc, _ => by simp [loadBytes]
  | x :: l, a, acc, h => by
    have h0 : w.cell? a = some (.int .u8 x) := by
      have := h 0 x rfl
      simpa [Addr.add] using this
    have ih := run_loadBytes' l (a.add 1) (acc.push (UInt8.ofNat x.toNat)) (fun j y hy => by
      have := h (j + 1) y (by simpa using hy)
      have e : (a.add 1).add j = a.add (j + 1) := by
        unfold Addr.add
        by_cases hj : j = 0
        · subst hj; simp
        · simp [hj]; omega
      rw [e]; exact this)
    simp only [List.length_cons, loadBytes, Sem.run_bind, run_load, h0, Result.andThen]
    show (loadBytes (a.add 1) (acc.push (UInt8.ofNat x.toNat)) l.length).run P w = _
    rw [ih]
    congr 1
    apply ByteArray.ext
    simp [ByteArray.push]
theorem run_unsafeString_row' (pt it ty e : TypeId) (hp : P.underlying pt = some (.pointer e)) (hc : P.cellsOf e = 1) (g cells : Nat) (hsh : w.shape? g = some (e, cells)) (l : List Int) (h0 : l ≠ []) (hn : l.length ≤ cells) (h63 : l.length ≤ 9223372036854775807)
    (hcell : ∀ j n, l[j]? = some n → w.cell? ((⟨g, 0, none⟩ : Addr).add j) = some (.int .u8 n)) :
    (Builtin.unsafeString_ #[pt, it] ty #[.pointer (some ⟨g, 0, none⟩), .int .i64 l.length]).run P w = .ok (.string ⟨(l.map fun n => UInt8.ofNat n.toNat).toArray⟩) (w.freeze ⟨g, 0, none⟩ l.length) := by
  have hl : l.length ≠ 0 := by simpa using h0
  have hlb := run_loadBytes' (P := P) w l ⟨g, 0, none⟩ .empty hcell
  have hlies := Lib.liesAt_bytes (P := P) hc (cells / P.cellsOf e) l.length (by rw [hc]; simpa using hn)
  have h63' : ¬ (9223372036854775807 : Int) < (l.length : Int) := by omega
  have hdef : Builtin.unsafeString_ #[pt, it] ty #[.pointer (some ⟨g, 0, none⟩), .int .i64 l.length] =
      (do
        let n ← asInt (.int .i64 l.length)
        if n < 0 then runtimePanic (.error "unsafe.String: len out of range")
        if n > IntKind.i64.max then unsupported (.unsafePointer "String: a length above the largest int")
        if n = 0 then pure (.string .empty)
        else if ← variablesAt ⟨g, 0, none⟩ (← elemOf pt) n.toNat then do
          let s ← loadBytes ⟨g, 0, none⟩ .empty n.toNat
          freeze ⟨g, 0, none⟩ n.toNat
          pure (.string s)
        else unsupported (.unsafePointer "String: not so many bytes at ptr")) := rfl
  rw [hdef]
  have hmax : IntKind.i64.max = 9223372036854775807 := rfl
  have hneg : ¬ (l.length : Int) < 0 := by omega
  simp [asInt, asIntOf, hmax, h63', hneg, hl, variablesAt, hsh, elemOf, run_underlying hp, hlies, hlb]
end
theorem grow_bytes {g : Gh} {w : World} {hp : List Ob} (h : R g w hp) {id ty ver : Nat} {xs : List AV} (he : hp[id]? = some (.grow ty ver 1 (.int .u8) xs)) {vb : Value} (hv : V g (.oslice id ver xs.length) vb) :
    (xs = [] ∧ vb = .slice none 0 0) ∨ ∃ b c cur fz, vb = .slice (some ⟨b, 0, none⟩) xs.length c ∧ w.heap[b]? = some (.cells cur ty fz) ∧ xs.length ≤ c ∧ xs.length ≤ cur.size ∧ xs.length < TOP ∧ own g id b ∧
      (∀ (j : Nat) n, (xs.map getI)[j]? = some n → cur[j]? = some (.int .u8 n)) := by
  rcases h.growOK he with k | ⟨b, c, vs, fz, k⟩
  · left
    have := k.nil; subst this
    exact ⟨rfl, k.slice hv⟩
  · right
    have h8 : ∀ x ∈ xs, (cells x).length = 1 ∧ reshape (.int .u8) x = x := fun x hx => ⟨(k.sh x hx).2.1, (k.sh x hx).1⟩
    have hvl := k.vl
    rw [flat_one h8] at hvl
    have hb := bytes_ints (fun x hx => (h8 x hx).2) hvl
    refine ⟨b, c, vs, fz, k.slice hv, k.heap, k.le, by rw [k.size, Nat.mul_one]; exact k.le, k.lim, .inr ⟨_, _, _, k.cur⟩, fun j n hn => ?_⟩
    have hlt : j < xs.length := by have := length_of_get hn; simpa using this
    have : (vs.toList.take (xs.length * 1))[j]? = some (.int .u8 n) := by
      rw [hb, List.getElem?_map, hn]; rfl
    rw [List.getElem?_take, if_pos (by omega)] at this
    simpa using this
end Go.Cx
