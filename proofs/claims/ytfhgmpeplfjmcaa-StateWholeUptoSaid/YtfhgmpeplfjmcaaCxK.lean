/- Single operations: memory that is made. -/
import Derived.Lib.Builder
import Derived.Test.YtfhgmpeplfjmcaaCxI
import Derived.Laws.BytesString
import Derived.Laws.AppendOwn
namespace Go.Cx
open Go.RowKit (Below)
set_option linter.unusedSimpArgs false
section
variable {P : Program} {g : Gh} {w : World} {hp : List Ob}
theorem heap_new (w : World) (o : Obj) : (w.alloc o).heap[w.heap.size]? = some o := by
  show (w.heap.push o)[w.heap.size]? = _
  simp
theorem frozen_new {w : World} {b o : Nat} {vs : Array Value} {ty : TypeId} (h : w.heap[b]? = some (.cells vs ty (0, 0))) : w.frozen? ⟨b, o, none⟩ = false := by
  simp only [World.frozen?, h]; simp
theorem R.fresh (h : R g w hp) : (∀ i, own g i w.heap.size → gone hp[i]? = true) ∧ (∀ o, g.imm w.heap.size o = none) := by
  refine ⟨fun i ho => ?_, fun o => ?_⟩
  · cases hd : gone hp[i]? with
    | true => rfl
    | false => have := (h.own_lt hd ho).2.1; omega
  · cases hi : g.imm w.heap.size o with
    | none => rfl
    | some v => have := cell_lt (h.imm _ _ _ hi); omega
theorem R.addImm {w' : World} (h : R g w hp) (hb' : Below w.heap.size w w') {vs : Array Value} {ty : TypeId} {fz : Nat × Nat} (hb : w'.heap[w.heap.size]? = some (.cells vs ty fz)) :
    ∃ g', g.le g' ∧ R g' w' hp ∧ At g' w.heap.size 0 vs.toList := by
  obtain ⟨f1, f2⟩ := h.fresh
  have h' := h.grow hb'
  let g' : Gh := { g with imm := fun b o => if b = w.heap.size then vs[o]? else g.imm b o }
  have hle : g.le g' := ⟨rfl, rfl, rfl, fun b o hn => if_neg (fun (e : b = w.heap.size) => hn (by rw [e]; exact h.newFree)), fun b o v e => by
    show (if b = w.heap.size then vs[o]? else g.imm b o) = some v
    split
    · rename_i e1; subst e1; rw [f2 o] at e; simp at e
    · exact e, fun _ _ e => e, fun _ _ _ _ _ e => ⟨_, e, Hdr.refl _ _ _ _⟩⟩
  refine ⟨g', hle, ⟨h'.below, h'.base, h'.frz, fun b o v e => ?_, fun i => (h'.objs i).keep rfl rfl rfl hle (fun _ _ _ => rfl) (fun b o' ho hd e => ?_), h'.inj⟩, fun i v e => ?_⟩
  · have e2 : (if b = w.heap.size then vs[o]? else g.imm b o) = some v := e
    clear e
    split at e2
    · rename_i e1; subst e1
      simp only [World.cell?, hb]; simpa using e2
    · exact h'.imm b o v e2
  · show (if b = w.heap.size then vs[o']? else g.imm b o') = none
    have := (h.own_lt hd ho).2.1
    rw [if_neg (by omega)]; exact e
  · show (if w.heap.size = w.heap.size then vs[0 + i]? else _) = some v
    rw [if_pos rfl, Nat.zero_add]; simpa using e
theorem zero_run {t : TypeId} {z : AV} (hz : zeroA P t = some z) : ∃ i cz, P.info? t = some i ∧ i.zero = some cz ∧ V g z cz ∧ (zeroValue t).run P w = .ok cz w := by
  unfold zeroA at hz; rw [infoF_eq] at hz
  split at hz
  · rename_i i hi
    simp only [Option.map_eq_some_iff] at hz
    obtain ⟨cz, h1, rfl⟩ := hz
    exact ⟨i, cz, hi, h1, ofConst_V g cz, by simp [zeroValue, typeInfo, hi, h1]⟩
  · simp at hz
theorem newVar_run (t : TypeId) (v : Value) : (newVar t v).run P w = .ok ⟨w.heap.size, 0, none⟩ (w.alloc (.cells v.cells t)) := by
  simp [newVar, newRow]
theorem box_sound (h : R g w hp) {x : AV} {cx : Value} (hx : V g x cx) (h1 : (cells x).all oneCell = true) (t : TypeId) :
    ∃ g', g.le g' ∧ R g' (w.alloc (.cells cx.cells t)) (hp ++ [.fix t (cells x)]) ∧ V g' (.ptr hp.length 0) (.pointer (some ⟨w.heap.size, 0, none⟩)) := by
  obtain ⟨hv, _⟩ := cells_V hx h1
  obtain ⟨f1, f2⟩ := h.fresh
  have hb : (w.alloc (.cells cx.cells t)).heap[w.heap.size]? = some (.cells cx.cells t (0, 0)) := heap_new _ _
  obtain ⟨g', hle, hblk, hR⟩ := (h.alloc (.cells cx.cells t)).addFix hb h.newFree f1 f2 hv (fun c hc => List.all_eq_true.1 h1 c hc) (fun o ho => frozen_new hb)
  exact ⟨g', hle, hR, .ptr _ _ _ hblk⟩
theorem bytes_ints : ∀ {xs : List AV} {vs : List Value}, (∀ x ∈ xs, reshape (.int .u8) x = x) → VL g xs vs → vs = (xs.map getI).map (Value.int .u8)
  | [], vs, _, h => by rw [h.nil_inv]; rfl
  | x :: xs, vs, hs, h => by
    obtain ⟨v, vs', rfl, h1, h2⟩ := h.cons_inv
    have e := hs x (by simp)
    simp only [reshape] at e
    rw [← e] at h1
    cases int_inv h1
    rw [bytes_ints (fun y hy => hs y (by simp [hy])) h2]
    rfl
theorem foldl_push (l : List UInt8) (b : ByteArray) : l.foldl (fun r x => r.push x) b = b ++ ⟨⟨l⟩⟩ := by
  induction l generalizing b with
  | nil => apply ByteArray.ext; simp
  | cons x l ih =>
    rw [List.foldl_cons, ih]
    apply ByteArray.ext
    obtain ⟨⟨d⟩⟩ := b
    simp [ByteArray.push]
theorem flat_one {xs : List AV} (h : ∀ x ∈ xs, (cells x).length = 1 ∧ reshape (.int .u8) x = x) : flat xs = xs := by
  induction xs with
  | nil => rfl
  | cons x xs ih =>
    rw [flat_cons, ih (fun y hy => h y (by simp [hy]))]
    have e := (h x (by simp)).2
    simp only [reshape] at e
    rw [← e]; rfl
theorem byte_fit (b : UInt8) : reshape (.int .u8) (byte b) = byte b ∧ (cells (byte b)).length = 1 ∧ (cells (byte b)).all oneCell = true := ⟨rfl, rfl, rfl⟩
theorem flat_bytes (l : List UInt8) : flat (l.map byte) = l.map byte := by
  apply flat_one
  intro x hx
  simp at hx
  obtain ⟨b, _, rfl⟩ := hx
  exact ⟨rfl, rfl⟩
theorem VL_bytes (g : Gh) (l : List UInt8) : VL g (l.map byte) (l.map fun b => .int .u8 b.toNat) := by
  refine ⟨by simp, fun i c v h1 h2 => ?_⟩
  simp only [List.getElem?_map] at h1 h2
  cases hl : l[i]? with
  | none => rw [hl] at h1; simp at h1
  | some b => rw [hl] at h1 h2; simp at h1 h2; subst h1 h2; exact .int _ _
theorem strBytes_run (e : TypeId) (l : List UInt8) :
    ∃ c w', l.length ≤ c ∧ (Conv.stringToBytes e ⟨⟨l⟩⟩).run P w = .ok (.slice (some ⟨w.heap.size, 0, none⟩) l.length c) w' ∧ Below w.heap.size w w' ∧
      (∃ fz, w'.heap[w.heap.size]? = some (.cells ((l.map fun b => Value.int .u8 b.toNat).toArray ++ Array.replicate (c - l.length) (.int .u8 0)) e fz) ∧ ∀ o, o < c → w'.frozen? ⟨w.heap.size, o, none⟩ = false) := by
  have e1 : (⟨⟨l⟩⟩ : ByteArray).size = l.length := rfl
  let c := (Question.appendCap l.length 0 e).cut (w.tape w.drawn (.appendCap l.length 0 e))
  have hc : l.length ≤ c := by simp only [c, Question.cut]; omega
  let cs := (l.map fun b => Value.int .u8 b.toNat).toArray ++ Array.replicate (c - l.length) (.int .u8 0)
  have hcs : cs.size = c := by simp [cs]; omega
  let w1 := w.drew.alloc (.cells cs e)
  have hb1 : w1.heap[w.heap.size]? = some (.cells cs e (0, 0)) := heap_new w.drew _
  refine ⟨c, w1.freeze ⟨w.heap.size, c, none⟩ 1, hc, ?_, ?_, (c, c + 1), ?_, ?_⟩
  · have hsh : w1.shape? w.heap.size = some (e, c) := by simp [World.shape?, hb1, hcs]
    simp only [Conv.stringToBytes, Sem.run_bind, run_choose, e1, Question.forced, Bool.false_eq_true, if_false, Result.andThen_ok, newRow, run_newObj, Sem.run_pure, World.drew_eq, World.alloc_eq, markStringish, run_shape]
    simp only [World.size_drew, List.map_toArray]
    have : (w.drew.alloc (.cells ((l.map fun b => Value.int .u8 b.toNat).toArray ++ Array.replicate (c - l.length) (.int .u8 0)) e)).shape? w.heap.size = some (e, c) := hsh
    simp only [c] at this ⊢
    simp only [this]
    simp [w1, cs, c]
  · refine (show Below w.heap.size w w1 from (Below.refl _ _).drew.alloc (Nat.le_refl _) _).trans ⟨rfl, rfl, rfl, by simp [World.freeze, w1], fun k hk => ?_⟩
    simp only [World.freeze, Nat.one_ne_zero, if_false, Array.getElem?_modify]
    rw [if_neg (by omega)]
  · simp only [World.freeze, Nat.one_ne_zero, if_false, Array.getElem?_modify, if_true, hb1]
    simp [cs]
  · intro o ho
    simp only [World.frozen?, World.freeze, Nat.one_ne_zero, if_false, Array.getElem?_modify, if_true, hb1]
    simp
    omega
theorem beq_int8 {sh : Sh} (h : sh.beq (.int .u8) = true) : sh = .int .u8 := Sh.beq_eq _ _ h
theorem slice_str {sz : Nat} {sh : Sh} {xs : List AV} {cx : Value} (e : Els g w sz sh xs cx) (hsz : sz = 1 ∨ xs = []) (hsh : sh = .int .u8 ∨ xs = []) :
    (Conv.bytesToString cx).run P w = .ok (.string ⟨⟨bytesOf xs⟩⟩) w := by
  have h8 : ∀ x ∈ xs, (cells x).length = 1 ∧ reshape (.int .u8) x = x := by
    intro x hx
    have h1 := e.el x hx
    rcases hsz with rfl | rfl
    · rcases hsh with rfl | rfl
      · exact ⟨h1.2.1, h1.1⟩
      · simp at hx
    · simp at hx
  obtain ⟨a, c, hc, _, h0, h1⟩ := e.some
  subst hc
  cases a with
  | none => obtain ⟨rfl, rfl⟩ := h0 rfl; rfl
  | some a =>
    rcases h1 a rfl with rfl | ⟨b, o, vs, rfl, hv, hl⟩
    · rfl
    rw [flat_one h8] at hv
    have hvs := bytes_ints (fun x hx => (h8 x hx).2) hv
    have hlen : (xs.map getI).length = xs.length := by simp
    have hload : (loadCells ⟨b, o, none⟩ xs.length).run P w = .ok ((xs.map getI).map (Value.int .u8)).toArray w := by
      have := load_lies (P := P) hl
      rwa [hvs, List.length_map, List.length_map] at this
    rw [run_bytesToString w _ _ _ _ hload]
    congr 2
    have : ∀ (l : List Int) (r : ByteArray), l.foldl (fun r n => r.push (UInt8.ofNat n.toNat)) r = (l.map fun n => UInt8.ofNat n.toNat).foldl (fun r x => r.push x) r := by
      intro l
      induction l with
      | nil => intro r; rfl
      | cons n l ih => intro r; exact ih _
    rw [this, foldl_push]
    apply ByteArray.ext
    simp [bytesOf, toB, Function.comp_def]
theorem elems_cps {β : Type} {x : AV} {K : Nat → Sh → List AV → Cls → Option β} {r : β} (h : elems none hp x K = some r) :
    ∃ sz sh xs cl, elems none hp x (fun a b c d => some (a, b, c, d)) = some (sz, sh, xs, cl) ∧ K sz sh xs cl = some r := by
  unfold elems at h ⊢
  split at h
  · exact ⟨_, _, _, _, rfl, h⟩
  · exact ⟨_, _, _, _, rfl, h⟩
  · exact ⟨_, _, _, _, rfl, h⟩
  · replace h := grownR_inv h
    obtain ⟨sz, sh, xs, he, rfl, h⟩ := h
    refine ⟨sz, sh, xs, .read, ?_, h⟩
    rcases he with ⟨ty, he⟩ | he <;> simp [grownR, he, ask]
  · simp at h
theorem freeze_other {w : World} {a : Addr} {n k : Nat} (hk : k ≠ a.block) : (w.freeze a n).heap[k]? = w.heap[k]? := by
  unfold World.freeze
  split
  · rfl
  · simp only [Array.getElem?_modify]
    rw [if_neg (Ne.symm hk)]
theorem freeze_cell {w : World} {a : Addr} {n b o : Nat} : (w.freeze a n).cell? ⟨b, o, none⟩ = w.cell? ⟨b, o, none⟩ := by
  by_cases hb : b = a.block
  · subst hb
    unfold World.freeze
    split
    · rfl
    · unfold World.cell?
      simp only [Array.getElem?_modify, if_true]
      cases w.heap[a.block]? with
      | none => rfl
      | some o => cases o <;> rfl
  · exact cell_congr (freeze_other hb)
theorem R.giveMark (h : R g w hp) {ty : TypeId} {id ver sz : Nat} {sh : Sh} {xs : List AV} (he : hp[id]? = some (.grow ty ver sz sh xs)) (hne : xs ≠ []) {cx : Value} (hx : V g (.oslice id ver xs.length) cx) :
    ∃ b c n e, cx = .slice (some ⟨b, 0, none⟩) xs.length c ∧ w.shape? b = some (e, n) ∧ ∃ g', g.le g' ∧ R g' (w.freeze ⟨b, n, none⟩ 1) (hp.set id .dead) ∧ V g' (.slice sz sh xs .ro) cx := by
  rcases h.growOK he with k | ⟨b, c, vs, fz, k⟩
  · exact absurd k.nil hne
  have hc := k.cur
  let seg := vs.toList.take (xs.length * sz)
  let g' : Gh := { g with imm := fun b' o => if b' = b then seg[o]? else g.imm b' o }
  have hle : g.le g' := ⟨rfl, rfl, rfl, fun b' o hn => if_neg (fun (e : b' = b) => hn (by rw [e]; exact k.base)), fun b' o v e => by
    show (if b' = b then seg[o]? else g.imm b' o) = some v
    split
    · rename_i e1; subst e1; rw [k.imm o] at e; simp at e
    · exact e, fun _ _ e => e, fun i _ _ _ _ e => ⟨_, e, Hdr.refl _ _ _ _⟩⟩
  have hs : V g' (.slice sz sh xs .ro) (.slice (some ⟨b, 0, none⟩) xs.length c) := by
    have hv := k.vl.mono hle
    exact .slice _ _ _ _ seg b 0 c hv.1 hv.2 (fun i v e => by show (if b = b then seg[0 + i]? else g.imm b (0 + i)) = some v; rw [if_pos rfl, Nat.zero_add]; exact e) k.sh k.le k.lim
  have hcx : cx = .slice (some ⟨b, 0, none⟩) xs.length c := by
    generalize hn : xs.length = n at hx hc hs ⊢
    cases hx with
    | oslice _ _ _ b' c' x hx hh =>
      rw [hc] at hx; cases hx
      rcases hh with hh | ⟨_, _, hh⟩
      · omega
      · have := hh rfl; simp at this; obtain ⟨rfl, rfl⟩ := this; rfl
    | oslice0 _ _ x hx hh =>
      rw [hc] at hx; cases hx
      rcases hh with hh | ⟨_, _, hh⟩
      · omega
      · have := (hh rfl).1; simp at this
  refine ⟨b, c, vs.size, ty, hcx, by simp [World.shape?, k.heap], g', hle, ?_, by rw [hcx]; exact hs⟩
  refine h.turn (b := b) hle (length_of_get he) (by rw [he]; simp) (.inr ⟨_, _, _, k.cur⟩) (fun _ _ => rfl) (fun _ _ => rfl) (fun b' o' v e => ?_) (fun b' o' hne e => ?_) (by simp [World.freeze]) (by simp [World.freeze]) (by simp [World.freeze]) (by simp [World.freeze]) (fun k _ hk => freeze_other hk) ⟨k.blk, trivial⟩ (fun e => by simp at e)
  · have e2 : (if b' = b then seg[o']? else g.imm b' o') = some v := e
    clear e
    split at e2
    · rename_i e1; subst e1
      right; exact ⟨rfl, by rw [freeze_cell]; have := k.lies o' v e2; rwa [Nat.zero_add] at this⟩
    · left; exact e2
  · show (if b' = b then seg[o']? else g.imm b' o') = none
    rw [if_neg hne]; exact e
theorem convA_sound (h : R g w hp) {own : Bool} {src dst : TypeId} {x v : AV} {hp' : List Ob} {c : Cls} (hc : convA none P own src dst x hp (fun v h c => some (v, h, c)) = some (v, hp', c)) {cx : Value} (hx : V g x cx) :
    Does P g w (convert src dst cx) v hp' := by
  unfold convA at hc
  split at hc
  · rename_i k0 k k1 n h1 h2
    simp at hc; obtain ⟨rfl, rfl, rfl⟩ := hc
    cases int_inv hx
    exact Does.pure h (by simp [convert, run_underlying (tk_int h1), run_underlying (tk_int h2), Conv.intToInt]) (.int _ _)
  · rename_i s h1 h2
    simp at hc; obtain ⟨rfl, rfl, rfl⟩ := hc
    obtain ⟨rfl, hl⟩ := str_inv hx
    exact Does.pure h (by simp [convert, run_underlying (tk_str h1), run_underlying (tk_str h2)]) hx
  · rename_i t id off h1 h2
    split at hc
    · rename_i ty cs he
      split at hc
      · rename_i hcond
        simp only [Option.some.injEq, Prod.mk.injEq] at hc; obtain ⟨rfl, rfl, rfl⟩ := hc
        have k := h.objs id
        rw [he] at k
        obtain ⟨k1, b, vs, fz, k2, k3, k4, k5, k6, k7, k8⟩ := k
        cases hx with
        | ptr _ _ b' hb =>
          rw [k2] at hb; cases hb
          obtain ⟨j, hj⟩ : ∃ j, P.info? t = some j := by
            cases hi : P.info? t with
            | none => simp [sizeA, infoF_eq, hi] at hcond
            | some j => exact ⟨j, rfl⟩
          have hsz : j.size ≠ 0 := by have := hcond.1; simpa [sizeA, infoF_eq, hj] using this
          have hlen : cs.length = vs.size := by have := k5.1; simpa using this
          exact Does.pure h (Lib.run_to_unsafe w ⟨b, off, none⟩ (tk_pointer h1) (tk_unsafe h2) hj hsz (e := ty) (cells := vs.size) (by simp [World.shape?, k4]) (by simp; omega)) (.ptr _ _ b k2)
      · simp at hc
    · simp at hc
  · rename_i u id off h1 h2
    split at hc
    · rename_i ty cs he
      split at hc
      · rename_i hcond
        simp only [Option.some.injEq, Prod.mk.injEq] at hc; obtain ⟨rfl, rfl, rfl⟩ := hc
        have k := h.objs id
        rw [he] at k
        obtain ⟨k1, b, vs, fz, k2, k3, k4, k5, k6, k7, k8⟩ := k
        cases hx with
        | ptr _ _ b' hb =>
          rw [k2] at hb; cases hb
          obtain ⟨j, hj⟩ := Option.isSome_iff_exists.1 (show (P.info? u).isSome = true by rw [← infoF_eq]; exact hcond.1)
          have hlen : cs.length = vs.size := by have := k5.1; simpa using this
          have hl := hcond.2
          rw [hlen] at hl
          exact Does.pure h (Lib.run_from_unsafe w ⟨b, off, none⟩ (tk_unsafe h1) (tk_pointer h2) hj (e := ty) (cells := vs.size) (by simp [World.shape?, k4]) hl) (.ptr _ _ b k2)
      · simp at hc
    · simp at hc
  · rename_i e s h1 h2
    split at hc
    · rename_i he
      obtain ⟨rfl, hl⟩ := str_inv hx
      obtain ⟨cc, w', hcc, hrun, hbel, ⟨fz, hblk, hfr⟩⟩ := strBytes_run (P := P) (w := w) e s
      have hrun' : (convert src dst (.string ⟨⟨s⟩⟩)).run P w = .ok (.slice (some ⟨w.heap.size, 0, none⟩) s.length cc) w' := by
        simp only [convert, Sem.run_bind, run_underlying (tk_str h1), run_underlying (tk_slice h2), run_underlying (tk_int he), Result.andThen_ok]
        exact hrun
      have hel : ∀ x ∈ s.map byte, reshape (.int .u8) x = x ∧ (cells x).length = 1 ∧ (cells x).all oneCell := by
        intro x hx; simp at hx; obtain ⟨b, _, rfl⟩ := hx; exact byte_fit b
      have hlen : (s.map byte).length = s.length := by simp
      split at hc
      · simp at hc; obtain ⟨rfl, rfl, rfl⟩ := hc
        obtain ⟨f1, f2⟩ := h.fresh
        obtain ⟨g', hle, hcur, hR⟩ := (h.grow hbel).addGrow (sz := 1) (c := cc) (sh := .int .u8) (xs := s.map byte) hblk h.newFree f1 f2 (by simp; omega) (by omega) (by simpa using hcc)
          (by
            rw [flat_bytes, hlen, Nat.mul_one]
            have := VL_bytes g s
            simpa using this) hel (by simpa using hl) (fun o ho => hfr o (by simp at ho; omega))
        rw [hlen] at hcur
        exact ⟨_, w', g', hrun', hle, hR, .oslice _ _ _ _ _ _ hcur (Hdr.refl _ _ _ _)⟩
      · simp at hc; obtain ⟨rfl, rfl, rfl⟩ := hc
        obtain ⟨g', hle, hR, hat⟩ := h.addImm hbel hblk
        refine ⟨_, w', g', hrun', hle, hR, ?_⟩
        have hv := VL_bytes g' s
        rw [← hlen]
        refine .slice _ _ _ _ (s.map fun b => .int .u8 b.toNat) w.heap.size 0 cc (by rw [flat_bytes]; exact hv.1) (by rw [flat_bytes]; exact hv.2) (fun i v hi => ?_) hel (by simpa using hcc) (by simpa using hl)
        refine hat i v ?_
        have := length_of_get hi
        simp only [Array.toList_append]
        rw [List.getElem?_append_left (by simpa using this)]
        simpa using hi
    · simp at hc
  · rename_i e e' id ver len h1 h2
    split at hc
    · rename_i he
      split at hc
      · rename_i hsd
        replace hc := grown_inv hc
        obtain ⟨ty, sz, sh, xs, ho, rfl, hc⟩ := hc
        split at hc
        · simp at hc
        · rename_i hemp
          simp at hc; obtain ⟨rfl, rfl, rfl⟩ := hc
          have hsd' : src = dst := by simpa using hsd
          obtain ⟨b, c, n, ey, rfl, hsh, g', hle, hR, hV⟩ := h.giveMark ho (by simpa using hemp) hx
          refine ⟨_, _, g', ?_, hle, hR, hV⟩
          subst hsd'
          simp [convert, run_underlying (tk_slice h1), run_underlying (tk_int he), markStringish, hsh]
      · simp at hc
    · simp at hc
  · rename_i e h1 h2
    split at hc
    · rename_i he
      have base : ∀ a l cc, (convert src dst (.slice a l cc)).run P w = (Conv.bytesToString (.slice a l cc)).run P w := fun a l cc => run_convert_bytes_string w src dst e a l cc (tk_slice h1) (tk_int he) (tk_str h2)
      split at hc
      · simp at hc; obtain ⟨rfl, rfl, rfl⟩ := hc
        cases hx
        exact Does.pure h (by rw [base]; rfl) (.str _ (by simp [TOP]))
      · obtain ⟨sz, sh, xs, cl, he', hc'⟩ := elems_cps hc
        have e' := elems_sound h he' hx
        split at hc'
        · rename_i hs
          simp at hc'; obtain ⟨rfl, rfl, rfl⟩ := hc'
          obtain ⟨a, cc, hcx, _⟩ := e'.some
          have hr := slice_str (P := P) e' (.inl hs.1) (.inl (beq_int8 hs.2))
          subst hcx
          exact Does.pure h (by rw [base]; exact hr) (.str _ (by simp [bytesOf]; exact e'.lim))
        · simp at hc'
    · simp at hc
  · simp at hc
end
end Go.Cx
