/- A code, sound. -/
import Derived.Test.YtcnalhganahiiaaGreatDoorCxAe
import Derived.Scope
import Derived.Tactics
namespace Go.Cx
open Go.RowKit (Below)
set_option linter.unusedSimpArgs false
structure Rel (g0 g : Gh) (st : St) (a : Act) (w : World) : Prop where
  le : g0.le g
  r : R g w st.hp
  vl : VL g st.fr a.tmps.toList
  defers : a.defers = []
def QC (g0 : Gh) (K : Ex → St → Prop) : Exit → Act → World → Prop
  | .normal, a, w => ∃ g st, Rel g0 g st a w ∧ K .normal st
  | .exit id, a, w => ∃ g st, Rel g0 g st a w ∧ K (.exit id) st
  | .ret, a, w => ∃ g st, Rel g0 g st a w ∧ K .ret st
  | _, _, _ => False
theorem Ids.of_le {g0 g : Gh} {w : World} {hp : List Ob} (hle : g0.le g) (h : R g w hp) : Ids g0 hp.length := by
  intro i hi
  have k := h.none_blk hi
  constructor
  · cases hb : g0.blk i with
    | none => rfl
    | some b => rw [hle.blk i b hb] at k; simp at k
  · cases hc : g0.cur i with
    | none => rfl
    | some x =>
      obtain ⟨v, l, b, c⟩ := x
      obtain ⟨y, hy, _⟩ := hle.cur i v l b c hc
      rw [hy] at k; simp at k
theorem Rel.put {g0 g g' : Gh} {st : St} {a : Act} {w w' : World} (h : Rel g0 g st a w) (hle : g.le g') {hp' : List Ob} (hR : R g' w' hp') {v : AV} {cv : Value} (hV : V g' v cv) (dst : Option Nat) :
    Rel g0 g' ⟨putA st.fr dst v, hp'⟩ (a.put dst cv) w' := by
  refine ⟨h.le.trans hle, hR, ?_, ?_⟩
  · cases dst with
    | none => exact h.vl.mono hle
    | some d =>
      simp only [putA, Act.put, Array.toList_setIfInBounds]
      exact (h.vl.mono hle).set d hV
  · cases dst with
    | none => exact h.defers
    | some d => exact h.defers
theorem Rel.fix {g0 g : Gh} {st : St} {a : Act} {w : World} (h : Rel g0 g st a w) {d : Nat} {b : Bool} (hd : st.fr.getD d .junk = .bool b) : a.tmps.toList[d]? = some (.bool b) ∧ Rel g0 g ⟨st.fr.set d (.bool b), st.hp⟩ a w := by
  have hlt : d < st.fr.length := by
    rcases Nat.lt_or_ge d st.fr.length with h' | h'
    · exact h'
    · rw [List.getD_eq_getElem?_getD, List.getElem?_eq_none h'] at hd; simp at hd
  have hg : st.fr[d]? = some (.bool b) := by
    rw [List.getD_eq_getElem?_getD, List.getElem?_eq_getElem hlt] at hd
    rw [List.getElem?_eq_getElem hlt]; simpa using hd
  obtain ⟨cv, hcv, hV⟩ := h.vl.get hg
  have := bool_inv hV
  subst this
  refine ⟨hcv, h.le, h.r, ⟨by simpa using h.vl.1, fun i c v e1 e2 => ?_⟩, h.defers⟩
  rw [List.getElem?_set] at e1
  split at e1
  · rename_i e; subst e
    simp at e1; subst e1
    rw [hcv] at e2; simp at e2; subst e2; exact .bool b
  · exact h.vl.2 i c v e1 e2
theorem yielded_of {ops : Array Oper} {a : Act} {j d : Nat} {b : Bool} (hj : (ops.toList[j]?).bind (·.dst) = some d) (hd : a.tmps.toList[d]? = some (.bool b)) : yielded ops a.tmps j = some b := by
  have h1 : (ops[j]?).bind (·.dst) = some d := by simpa using hj
  have h2 : a.tmps[d]? = some (.bool b) := by simpa using hd
  simp [yielded, h1, h2]
theorem V.undef {g : Gh} : V g (.tuple []) Go.undef := .tuple [] #[] rfl (fun i c v e => by simp at e)
theorem Rel.none {g0 g : Gh} {st : St} {a : Act} {w : World} (h : Rel g0 g st a w) {ops : Array Oper} {j d : Nat} (hj : (ops.toList[j]?).bind (·.dst) = some d) (hd : st.fr.getD d .junk = .tuple []) : yielded ops a.tmps j = none := by
  have h1 : (ops[j]?).bind (·.dst) = some d := by simpa using hj
  have hlt : d < st.fr.length := by
    rcases Nat.lt_or_ge d st.fr.length with h' | h'
    · exact h'
    · rw [List.getD_eq_getElem?_getD, List.getElem?_eq_none h'] at hd; simp at hd
  have hg : st.fr[d]? = some (.tuple []) := by
    rw [List.getD_eq_getElem?_getD, List.getElem?_eq_getElem hlt] at hd
    rw [List.getElem?_eq_getElem hlt]; simpa using hd
  obtain ⟨cv, hcv, hV⟩ := h.vl.get hg
  have h2 : a.tmps[d]? = some cv := by simpa using hcv
  cases hV with
  | tuple _ vs _ _ => simp [yielded, h1, h2]
theorem ops_soundT {E : En} (hE : EnOK E) {g0 : Gh} (hL : LayAt E.P g0) {ops : Array Oper} {Q : Exit → Act → World → Prop} {tail : List Oper} : ∀ (l : List Oper) (st : St) (cl : List Ft) (K : St → List Ft → Prop),
    runOps False E ops.toList l st cl K → (∀ g st a w cl, Rel g0 g st a w → K st cl → wpList E.P ops Q tail a w) → ∀ g a w, Rel g0 g st a w → wpList E.P ops Q (l ++ tail) a w
  | [], st, cl, K, h, hQ, g, a, w, hr => hQ g st a w _ hr h
  | o :: rest, st, cl, K, h, hQ, g, a, w, hr => by
    simp only [List.cons_append, wpList]
    have run : ∀ {st : St}, Rel g0 g st a w → (opA False E o st.fr st.hp fun v hp c => runOps False E ops.toList rest ⟨putA st.fr o.dst v, hp⟩ (ftOf E o st.fr st.hp c :: cl) K) → o.wp E.P a w (wpList E.P ops Q (rest ++ tail)) Q := by
      intro st hr hh
      obtain ⟨v, hp', c, hop, hk⟩ := opA_P hh
      exact opF_wp hE (hL.le hr.le) hr.r hr.vl hop fun g' w' cv hle hR hV => ops_soundT hE hL rest _ _ K hk hQ g' _ _ (hr.put hle hR hV o.dst)
    have skip : ∀ {st : St} {c : Ft}, Rel g0 g st a w → runOps False E ops.toList rest ⟨putA st.fr o.dst (.tuple []), st.hp⟩ (c :: cl) K → wpList E.P ops Q (rest ++ tail) (a.put o.dst undef) w := by
      intro st c hr hh
      exact ops_soundT hE hL rest _ _ K hh hQ g _ _ (hr.put (Gh.le.refl g) hr.r V.undef o.dst)
    simp only [runOps] at h
    split at h
    · rename_i hg
      have hw : Region.wanted o (yielded ops a.tmps) = true := by simp [Region.wanted, hg]
      rw [if_pos hw]
      exact .inl (run hr h)
    · rename_i j want hg
      split at h
      · rename_i d hd
        split at h
        · rename_i b hb
          obtain ⟨hy, hr'⟩ := hr.fix hb
          have hyl := yielded_of hd hy
          cases b with
          | true =>
            simp only [cond_true] at h
            cases want with
            | true =>
              have hw : Region.wanted o (yielded ops a.tmps) = true := by simp [Region.wanted, hg, hyl]
              rw [if_pos hw]; simp only [if_true] at h; exact .inl (run hr' h)
            | false =>
              have hw : ¬ Region.wanted o (yielded ops a.tmps) = true := by simp [Region.wanted, hg, hyl]
              rw [if_neg hw]; simp only [Bool.false_eq_true, if_false] at h; exact skip hr' h
          | false =>
            simp only [cond_false] at h
            cases want with
            | true =>
              have hw : ¬ Region.wanted o (yielded ops a.tmps) = true := by simp [Region.wanted, hg, hyl]
              rw [if_neg hw]; simp only [if_true] at h; exact skip hr' h
            | false =>
              have hw : Region.wanted o (yielded ops a.tmps) = true := by simp [Region.wanted, hg, hyl]
              rw [if_pos hw]; simp only [Bool.false_eq_true, if_false] at h; exact .inl (run hr' h)
        · rename_i hb
          have hw : ¬ Region.wanted o (yielded ops a.tmps) = true := by simp [Region.wanted, hg, hr.none hd hb]
          rw [if_neg hw]; exact skip hr h
        · exact h.elim
      · exact h.elim
theorem ops_sound {E : En} (hE : EnOK E) {g0 : Gh} (hL : LayAt E.P g0) {ops : Array Oper} {Q : Exit → Act → World → Prop} (l : List Oper) (st : St) (cl : List Ft) (K : St → List Ft → Prop)
    (h : runOps False E ops.toList l st cl K) (hQ : ∀ g st a w cl, Rel g0 g st a w → K st cl → Q .normal a w) (g : Gh) (a : Act) (w : World) (hr : Rel g0 g st a w) : wpList E.P ops Q l a w := by
  have := ops_soundT (tail := []) hE hL l st cl K h hQ g a w hr
  rwa [List.append_nil] at this
theorem clear_sound {P : Program} {g : Gh} {w : World} {hp : List Ob} (h : R g w hp) {e t ty : TypeId} (ht : P.underlying t = some (.slice e)) {id ver sz : Nat} {sh : Sh} {xs : List AV} {ty0 : TypeId}
    (he : hp[id]? = some (.grow ty0 ver sz sh xs)) {z z' : AV} (hz : zeroA P e = some z) (hz' : fit sh z = some z') (hsz : (cells z').length = sz) (hse : sizeA P e = sz) {cx : Value} (hx : V g (.oslice id ver xs.length) cx)
    {k : IntKind} {n : Nat} (hn : n ≤ xs.length) :
    ∃ cy w', (Instr.sliceAt t cx (some (.int k (n : Int))) none none).run P w = .ok cy w ∧ (Builtin.clear_ #[t] ty #[cy]).run P w = .ok (.tuple #[]) w' ∧ R g w' (hp.set id (.grow ty0 ver sz sh (xs.take n ++ List.replicate (xs.length - n) z'))) := by
  obtain ⟨i, cz0, hi, hcz, hcs⟩ := zero_info hz
  have hinfo : (P.info? e).isSome := by rw [hi]; rfl
  have hb : Bd (some (n : Int)) (some (.int k (n : Int))) := ⟨k, rfl⟩
  have same : n = xs.length → hp.set id (.grow ty0 ver sz sh (xs.take n ++ List.replicate (xs.length - n) z')) = hp := by
    intro en
    subst en
    rw [List.take_length, Nat.sub_self, List.replicate_zero, List.append_nil]
    apply List.ext_getElem?
    intro j
    rw [List.getElem?_set]
    split
    · rename_i e; subst e; rw [he]; simp [length_of_get he]
    · rfl
  rcases h.growOK he with k0 | ⟨b, cc, vs, fz, k0⟩
  · have hnil := k0.nil
    subst hnil
    have n0 : n = 0 := by simpa using hn
    rw [k0.slice hx]
    have hs := slice_run (P := P) (w := w) (e := e) ht none 0 0 hb (hi := none) (chi := none) rfl (by simp) (by simp) (by simp) (by simp; omega) hinfo
    refine ⟨_, w, hs, ?_, by rw [same (by simpa using n0)]; exact h⟩
    subst n0
    simp [Builtin.clear_, run_underlying ht]
  · rw [k0.slice hx]
    have hs := slice_run (P := P) (w := w) (e := e) ht (some ⟨b, 0, none⟩) xs.length cc hb (hi := none) (chi := none) rfl (by simp) (by simp; exact k0.le) (by simp) (by simp; omega) hinfo
    by_cases en : n = xs.length
    · refine ⟨_, w, hs, ?_, by rw [same en]; exact h⟩
      have l0 : (Option.getD (none : Option Int) (xs.length : Int)).toNat - (Option.getD (some (n : Int)) 0).toNat = 0 := by simp; omega
      rw [l0]
      by_cases hc : cc = (Option.getD (some (n : Int)) 0).toNat
      · rw [if_pos hc]; simp [Builtin.clear_, run_underlying ht]
      · rw [if_neg hc]; simp [Builtin.clear_, run_underlying ht]
    · obtain ⟨m, hm⟩ : ∃ m, xs.length - n = m + 1 := ⟨xs.length - n - 1, by omega⟩
      have hle := k0.le
      have hc : ¬ cc = (Option.getD (some (n : Int)) 0).toNat := by simp; omega
      have l0 : (Option.getD (none : Option Int) (xs.length : Int)).toNat - (Option.getD (some (n : Int)) 0).toNat = m + 1 := by simp; omega
      rw [if_neg hc, l0] at hs
      obtain ⟨cz, hzv, hzr⟩ := zero_cells (P := P) (g := g) (w := w) hz
      have hzl : cz.cells.size = sz := by
        have := (fit_cells hz' hzv).1
        rw [hsz] at this; simpa using this.symm
      have hvl := zeros_made hzv hz' (m + 1) (by rw [hsz, hzl])
      rw [← zeroCells_made] at hvl
      have hnew : (Builtin.zeroCells cz.cells (m + 1)).toList.length = (m + 1) * sz := by rw [Array.length_toList, size_zeroCells', hzl]
      have hroom : xs.length * sz ≤ vs.size := by rw [k0.size]; exact Nat.mul_le_mul_right _ hle
      have hlenm : n * sz + (m + 1) * sz = xs.length * sz := by rw [← Nat.add_mul]; congr 1; omega
      have hone : ∀ v ∈ (Builtin.zeroCells cz.cells (m + 1)).toList, v.oneCell' = true := by
        have f4 := (fit_sound sh z z' hz').2.2.2
        refine one_vals (List.all_eq_true.2 fun c hc => ?_) hvl
        simp only [flat, List.mem_flatMap, List.mem_replicate] at hc
        obtain ⟨x, ⟨_, rfl⟩, hc⟩ := hc
        exact List.all_eq_true.1 f4 c hc
      have hst := store_own (P := P) (w := w) b (n * sz) k0.heap k0.froz (Builtin.zeroCells cz.cells (m + 1)).toList (by rw [hnew]; omega) hone
      refine ⟨_, w.setCells b (n * sz) (Builtin.zeroCells cz.cells (m + 1)).toList, hs, ?_, ?_⟩
      · have ea : (some (⟨b, 0, none⟩ : Addr)).map (fun x => x.add ((Option.getD (some (n : Int)) 0).toNat * sizeA P e)) = some ⟨b, n * sz, none⟩ := by
          simp [Addr.add, hse]
          intro h0; omega
        rw [ea]
        simp [Builtin.clear_, run_underlying ht, hzr, hst]
      · obtain ⟨r1, r2, r3, r4⟩ := rest_setCells b (Builtin.zeroCells cz.cells (m + 1)).toList (n * sz) w
        have hl2 : (xs.take n ++ List.replicate (xs.length - n) z').length = xs.length := by simp; omega
        have hw : ∀ x ∈ xs, (cells x).length = sz := fun x hx => (k0.sh x hx).2.1
        obtain ⟨f1, f2, f3, f4⟩ := fit_sound sh z z' hz'
        refine h.turn (g' := g) (b := b) (Gh.le.refl g) (length_of_get he) (by rw [he]; simp) (.inr ⟨_, _, _, k0.cur⟩) (fun _ _ => rfl) (fun _ _ => rfl) (fun _ _ _ e => .inl e) (fun _ _ _ e => e) r1 r2 r3 (by omega)
            (fun k _ hk => heap_setCells_other b _ _ w k hk) ?_ (fun _ b' ho => ?_)
        · refine ⟨k0.blk, .inr ?_⟩
          refine ⟨b, cc, _, fz, by rw [hl2]; exact k0.cur, k0.base, heap_setCells b _ _ w vs _ fz k0.heap, by rw [size_putR]; exact k0.size, k0.pos, by rw [hl2]; exact k0.le, ?_, fun x hx => ?_, by rw [hl2]; exact k0.lim, k0.imm, fun o ho => ?_, by rw [size_putR]; exact k0.soft⟩
          · rw [hl2, putR_list _ _ _ (by rw [hnew]; omega), flat_append, flat_take n hw, hnew, hm]
            have e : List.take (xs.length * sz) (List.take (n * sz) vs.toList ++ (Builtin.zeroCells cz.cells (m + 1)).toList ++ List.drop (n * sz + (m + 1) * sz) vs.toList) =
                List.take (n * sz) (List.take (xs.length * sz) vs.toList) ++ (Builtin.zeroCells cz.cells (m + 1)).toList := by
              have l0 : (List.take (n * sz) vs.toList).length = n * sz := by simp; omega
              rw [List.take_append_of_le_length (by rw [List.length_append, l0, hnew]; omega), List.take_of_length_le (by rw [List.length_append, l0, hnew]; omega), List.take_take]
              congr 2; omega
            rw [e]
            exact (k0.vl.take (n * sz)).append hvl
          · rcases List.mem_append.1 hx with hx | hx
            · exact k0.sh x (List.mem_of_mem_take hx)
            · rw [(List.mem_replicate.1 hx).2]; exact ⟨f1, hsz, f4⟩
          · rw [World.frozen?_setCells]
            exact k0.froz o (by simpa using ho)
        · left
          rcases ho with ho | ⟨_, _, _, ho⟩
          · rw [k0.blk] at ho; simp at ho
          · rw [k0.cur] at ho; cases ho; rfl
theorem clearOf_inv {s c : Oper} {t : TypeId} {x lo : Operand} {d : Nat} (h : clearOf s c = some (t, x, lo, d)) :
    s.guard = none ∧ c.guard = none ∧ s.op = .slice t x (some lo) none none ∧ s.dst = some d ∧ c.dst = none ∧ ∃ cl, c.op = .call cl ∧ cl.callee = .builtin .clear ∧ cl.args.toList = [.tmp d] ∧ cl.argTypes.toList = [t] := by
  unfold clearOf at h
  split at h
  · rename_i t0 x0 lo0 d0 cl h1 h2 h3 h4 h5 h6
    split at h
    · rename_i d' t' a1 a2 a3
      split at h
      · rename_i hd
        obtain ⟨rfl, rfl⟩ := hd
        simp only [Option.some.injEq, Prod.mk.injEq] at h
        obtain ⟨rfl, rfl, rfl, rfl⟩ := h
        exact ⟨h1, h2, h3, h4, h5, cl, h6, a1, a2, a3⟩
      · simp at h
    · simp at h
  · simp at h
theorem clearTail_inv : ∀ {ops pre : List Oper} {r : TypeId × Operand × Operand × Nat}, clearTail ops = some (pre, r) → ∃ s c, ops = pre ++ [s, c] ∧ clearOf s c = some r
  | [], _, _, h => by simp [clearTail] at h
  | [_], _, _, h => by simp [clearTail] at h
  | [s, c], pre, r, h => by
    simp only [clearTail, Option.map_eq_some_iff, Prod.mk.injEq] at h
    obtain ⟨r', h1, rfl, rfl⟩ := h
    exact ⟨s, c, rfl, h1⟩
  | o :: o2 :: o3 :: l, pre, r, h => by
    simp only [clearTail, Option.map_eq_some_iff, Prod.mk.injEq] at h
    obtain ⟨⟨p', r'⟩, h1, rfl, rfl⟩ := h
    obtain ⟨s, c, e, h2⟩ := clearTail_inv (ops := o2 :: o3 :: l) h1
    exact ⟨s, c, by rw [e]; rfl, h2⟩
theorem wp_val2 {P : Program} {o : Oper} {a : Act} {w w' : World} {next : Act → World → Prop} {Q : Exit → Act → World → Prop} {s : Sem Value} {cv : Value} (he : execOp a.eval o = (do Pure.pure (.value (← s)) : Sem Next))
    (hr : s.run P w = .ok cv w') (hk : next (a.put o.dst cv) w') : o.wp P a w next Q := by
  unfold Oper.wp
  rw [he]
  simp only [Sem.run_bind, hr, Result.andThen_ok, Sem.run_pure]
  exact hk
theorem clearA_sound {E : En} {g0 : Gh} {ops : Array Oper} {Q : Exit → Act → World → Prop} {s c : Oper} {t : TypeId} {x lo : Operand} {d : Nat} (hc : clearOf s c = some (t, x, lo, d)) {st : St} {K : St → Prop}
    (h : clearA E.P t x lo d st K) (hQ : ∀ g st a w, Rel g0 g st a w → K st → Q .normal a w) (g : Gh) (a : Act) (w : World) (hr : Rel g0 g st a w) : wpList E.P ops Q [s, c] a w := by
  obtain ⟨c1, c2, c3, c4, c5, cl, c6, c7, c8, c9⟩ := clearOf_inv hc
  unfold clearA at h
  split at h
  · rename_i e id ver len k n ht hx hlo
    unfold grown at h
    split at h
    · rename_i ty ver' sz sh xs he
      unfold ask at h
      cases e1 : (ver == ver') with
      | false => rw [e1] at h; exact h.elim
      | true =>
      rw [e1] at h
      cases e2 : (len == xs.length) with
      | false => rw [e2] at h; exact h.elim
      | true =>
      rw [e2] at h
      simp only [cond_true] at h
      have e1 := eq_of_beq e1
      have e2 := eq_of_beq e2
      subst e1; subst e2
      split at h
      · rename_i z hz
        split at h
        · rename_i z' hz'
          cases e3 : (Nat.beq (sizeA E.P e) sz && (Nat.beq (cells z').length sz && Nat.blt d st.fr.length)) with
          | false => rw [e3] at h; exact h.elim
          | true =>
          rw [e3] at h
          simp only [cond_true] at h
          cases e4 : decide (0 ≤ n) with
          | false => rw [e4] at h; exact h.elim
          | true =>
          rw [e4] at h
          cases e5 : decide (n ≤ (xs.length : Int)) with
          | false => rw [e5] at h; exact h.elim
          | true =>
          rw [e5] at h
          simp only [cond_true, setK_eq, heapK_eq] at h
          simp only [Bool.and_eq_true, Nat.beq_eq, Nat.blt_eq] at e3
          simp only [decide_eq_true_eq] at e4 e5
          obtain ⟨s1, s2, s3⟩ := e3
          obtain ⟨m, rfl⟩ : ∃ m : Nat, n = m := ⟨n.toNat, by omega⟩
          have hV := eval_V hr.vl x
          rw [hx] at hV
          have hL := eval_V hr.vl lo
          rw [hlo] at hL
          have hL := int_inv hL
          obtain ⟨cy, w', r1, r2, r3⟩ := clear_sound (ty := c.type) hr.r (tk_slice ht) he hz hz' s2 s1 hV (k := k) (n := m) (by omega)
          rw [Int.toNat_natCast] at h
          simp only [wpList]
          have w1 : Region.wanted s (yielded ops a.tmps) = true := by simp [Region.wanted, c1]
          rw [if_pos w1]
          left
          have x1 : execOp a.eval s = (do Pure.pure (.value (← Instr.sliceAt t (a.eval x) (some (a.eval lo)) none none)) : Sem Next) := by simp [execOp, c3]
          rw [hL] at x1
          refine wp_val2 x1 r1 ?_
          rw [c4]
          have hr2 := hr.put (Gh.le.refl g) hr.r (V.junk cy) (some d)
          have w2 : Region.wanted c (yielded ops (a.put (some d) cy).tmps) = true := by simp [Region.wanted, c2]
          rw [if_pos w2]
          left
          have ed : (a.put (some d) cy).eval (.tmp d) = cy := by
            have hl : d < a.tmps.size := by have := hr.vl.1; rw [← Array.length_toList, ← this]; exact s3
            simp [Act.put, Act.eval, Array.getD, hl]
          have ea : cl.args = #[.tmp d] := by apply Array.toList_inj.1; rw [c8]
          have et : cl.argTypes = #[t] := by apply Array.toList_inj.1; rw [c9]
          have x2 : execOp (a.put (some d) cy).eval c = (do Pure.pure (.value (← Builtin.clear_ #[t] c.type #[cy])) : Sem Next) := by
            simp only [execOp, c6, resolve, c7, ea, et]
            have : (#[Operand.tmp d]).map (a.put (some d) cy).eval = #[cy] := by simp [ed]
            rw [this]; rfl
          refine wp_val2 x2 r2 ?_
          rw [c5]
          refine hQ g _ _ _ ⟨hr2.le, r3, ?_, hr2.defers⟩ h
          exact hr2.vl
        · exact h.elim
      · exact h.elim
    · exact h.elim
  · exact h.elim
def Draws (E : En) : Prop := ∀ (g0 : Gh) (_ : LayAt E.P g0) (ops : Array Oper) (Q : Exit → Act → World → Prop) (st : St) (K : St → Prop) (id : Nat),
  (runOps False E ops.toList ops.toList st [] fun st' cl => cond (fine ops.toList cl) (K st') (M.redo E ops.toList st st'.hp.length K)) → (∀ g st a w, Rel g0 g st a w → K st → Q .normal a w) → ∀ g a w, Rel g0 g st a w → (Code.region id ops true).wp E.P Q a w
theorem wkAt_VL {g : Gh} : ∀ (l : List (Nat × Sh)) {fr : List AV} {vs : List Value}, VL g fr vs → VL g (wkAt l fr) vs ∧ ((∀ c ∈ fr, oneCell c) → ∀ c ∈ wkAt l fr, oneCell c)
  | [], fr, vs, h => ⟨h, fun e => e⟩
  | (i, sh) :: l, fr, vs, h => by
    simp only [wkAt]
    split
    · rename_i x hx
      split
      · rename_i y hy
        cases hc : (oneCell y || !oneCell x) with
        | false => simp only [cond_false]; exact wkAt_VL l h
        | true =>
          simp only [cond_true]
          obtain ⟨v, e1, e2⟩ := h.get hx
          have hv := h.set i ((fit_sound sh x y hy).2.1 _ _ e2)
          have e3 : vs.set i v = vs := by
            apply List.ext_getElem?
            intro j
            rw [List.getElem?_set]
            split
            · rename_i e; subst e; rw [e1, if_pos (length_of_get e1)]
            · rfl
          rw [e3] at hv
          obtain ⟨k1, k2⟩ := wkAt_VL l hv
          refine ⟨k1, fun e => k2 fun c hm => ?_⟩
          rcases List.mem_or_eq_of_mem_set hm with hm | rfl
          · exact e c hm
          · have := e x (List.mem_of_getElem? hx)
            rw [this] at hc; simpa using hc
      · exact wkAt_VL l h
    · exact wkAt_VL l h
theorem R.weakFix {g : Gh} {w : World} {hp : List Ob} (h : R g w hp) {j : Nat} {ty : TypeId} {cs cs' : List AV} (he : hp[j]? = some (.fix ty cs)) (hv : ∀ vs, VL g cs vs → VL g cs' vs) (h1 : (∀ c ∈ cs, oneCell c) → ∀ c ∈ cs', oneCell c) : R g w (hp.set j (.fix ty cs')) := by
  have hlt := length_of_get he
  have hd' : ∀ i : Nat, gone (hp.set j (.fix ty cs'))[i]? = false → gone hp[i]? = false := by
    intro i hn
    rw [List.getElem?_set] at hn
    split at hn
    · rename_i e1; subst e1; rw [he]; rfl
    · exact hn
  refine ⟨h.below, h.base, h.frz, h.imm, fun i => ?_, fun i k b hik hi hk => h.inj i k b hik (hd' i hi) (hd' k hk)⟩
  by_cases e : j = i
  · subst e
    rw [List.getElem?_set_self hlt]
    have k := h.objs j
    rw [he] at k
    obtain ⟨k1, b, vs, fz, k2, k3, k4, k5, k6, k7, k8⟩ := k
    exact ⟨k1, b, vs, fz, k2, k3, k4, hv _ k5, h1 k6, k7, k8⟩
  · rw [List.getElem?_set_ne e]; exact h.objs i
theorem wkO_R {g : Gh} {w : World} : ∀ (l : List (Nat × Nat × Sh)) {hp : List Ob}, R g w hp → R g w (wkO l hp)
  | [], hp, h => h
  | (j, i, sh) :: l, hp, h => by
    simp only [wkO]
    split
    · rename_i ty cs he
      exact wkO_R l (h.weakFix he (fun vs hv => (wkAt_VL [(i, sh)] hv).1) (fun e => by
        have k := h.objs j
        rw [he] at k
        obtain ⟨k1, b, vs, fz, k2, k3, k4, k5, k6, k7, k8⟩ := k
        exact (wkAt_VL [(i, sh)] k5).2 e))
    · exact wkO_R l h
theorem R.deaden {g : Gh} {w : World} {hp : List Ob} (h : R g w hp) : R g w (hp.map deadO) := by
  have hg : ∀ i : Nat, gone (hp.map deadO)[i]? = gone hp[i]? := by
    intro i
    rw [List.getElem?_map]
    cases hp[i]? with
    | none => rfl
    | some o => cases o <;> rfl
  refine ⟨h.below, h.base, h.frz, h.imm, fun i => ?_, fun i k b hik hi hk => h.inj i k b hik (by rw [← hg]; exact hi) (by rw [← hg]; exact hk)⟩
  have k := h.objs i
  rw [List.getElem?_map]
  cases ho : hp[i]? with
  | none => rw [ho] at k; exact k
  | some o =>
    rw [ho] at k
    cases o with
    | froz ver sz sh xs => obtain ⟨k1, b, c, k2, k3⟩ := k; exact ⟨k1, trivial⟩
    | _ => exact k
def Gh.gc (g : Gh) (N : List Nat) (n : Nat) : Gh :=
  { g with blk := fun j => if j < n then g.blk j else (N[j - n]?).bind g.blk, cur := fun j => if j < n then g.cur j else (N[j - n]?).bind g.cur }
theorem idx_get0 {L : List Nat} (hn : L.Nodup) {j i : Nat} (h : L[j]? = some i) : L.idxOf i = j := by
  have hj := length_of_get h
  rw [List.getElem?_eq_getElem hj] at h
  simp only [Option.some.injEq] at h
  subst h
  exact hn.idxOf_getElem j hj
theorem get_idx0 {L : List Nat} {i : Nat} (h : i ∈ L) : L[L.idxOf i]? = some i := by
  have := List.idxOf_lt_length_of_mem h
  rw [List.getElem?_eq_getElem this, List.getElem_idxOf this]
theorem distinct_nodup0 : ∀ {l : List Nat}, distinct l = true → l.Nodup
  | [], _ => List.nodup_nil
  | i :: l, h => by
    simp only [distinct, Bool.and_eq_true, Bool.not_eq_true', List.contains_eq_mem, decide_eq_false_iff_not] at h
    exact List.nodup_cons.2 ⟨h.1, distinct_nodup0 h.2⟩
theorem R.moved {g : Gh} {w : World} {hp : List Ob} (h : R g w hp) {N : List Nat} {n base : Nat} (hn : n ≤ hp.length) (hb : base ≤ n ∨ hp.length ≤ n) (hG : okG N hp n = true) :
    R (g.gc N n) w (hpG N hp n) ∧ (∀ g0, g0.le g → Ids g0 base → g0.le (g.gc N n) ∧ Ids g0 n) ∧ ∀ cs vs, VL g cs vs → covL (okI N hp n) cs = true → VL (g.gc N n) (renL (τG N hp n) cs) vs := by
  simp only [okG, Bool.and_eq_true, List.all_eq_true, decide_eq_true_eq, Bool.not_eq_true', List.mem_range] at hG
  obtain ⟨⟨h1, h2⟩, h3⟩ := hG
  have hnd := distinct_nodup0 h1
  have cases2 : ∀ i, okI N hp n i = true → (i < n ∧ isFixO hp[i]? = true ∧ τG N hp n i = i) ∨ (i ∈ N ∧ ¬ (i < n ∧ isFixO hp[i]? = true) ∧ τG N hp n i = n + N.idxOf i) := by
    intro i hi
    cases hc : (decide (i < n) && isFixO hp[i]?) with
    | true =>
      left
      have hc' := hc
      simp only [Bool.and_eq_true, decide_eq_true_eq] at hc
      exact ⟨hc.1, hc.2, by unfold τG; rw [hc']; rfl⟩
    | false =>
      right
      unfold okI at hi
      rw [hc, Bool.false_or] at hi
      refine ⟨by simpa using hi, fun hh => ?_, by unfold τG; rw [hc]; rfl⟩
      simp [hh.1, hh.2] at hc
  have tb : ∀ i b, okI N hp n i = true → g.blk i = some b → (g.gc N n).blk (τG N hp n i) = some b := by
    intro i b hi e
    rcases cases2 i hi with ⟨a1, a2, a3⟩ | ⟨a1, a2, a3⟩
    · rw [a3]; show (if i < n then g.blk i else _) = some b; rw [if_pos a1]; exact e
    · rw [a3]; show (if n + N.idxOf i < n then _ else (N[n + N.idxOf i - n]?).bind g.blk) = some b
      rw [if_neg (by omega), Nat.add_sub_cancel_left, get_idx0 a1]; exact e
  have tc : ∀ i x, okI N hp n i = true → g.cur i = some x → (g.gc N n).cur (τG N hp n i) = some x := by
    intro i b hi e
    rcases cases2 i hi with ⟨a1, a2, a3⟩ | ⟨a1, a2, a3⟩
    · rw [a3]; show (if i < n then g.cur i else _) = some b; rw [if_pos a1]; exact e
    · rw [a3]; show (if n + N.idxOf i < n then _ else (N[n + N.idxOf i - n]?).bind g.cur) = some b
      rw [if_neg (by omega), Nat.add_sub_cancel_left, get_idx0 a1]; exact e
  have getA : ∀ j : Nat, j < n → (hpG N hp n)[j]? = some (match hp[j]? with | some (.fix ty cs) => .fix ty (renL (τG N hp n) cs) | _ => .dead) := by
    intro j hj
    unfold hpG
    rw [List.getElem?_append_left (by simpa using hj), List.getElem?_map, List.getElem?_range hj, Option.map_some]
    cases hp[j]? with
    | none => rfl
    | some o => cases o <;> rfl
  have getB : ∀ j : Nat, n ≤ j → (hpG N hp n)[j]? = (N[j - n]?).map fun i => renO (τG N hp n) (hp.getD i .dead) := by
    intro j hj
    unfold hpG
    rw [List.getElem?_append_right (by simpa using hj), List.length_map, List.length_range, List.getElem?_map]
  -- where an object comes from
  have from_ : ∀ j b, own (g.gc N n) j b → gone (hpG N hp n)[j]? = false → ∃ i, own g i b ∧ gone hp[i]? = false ∧ ((j < n ∧ i = j ∧ isFixO hp[i]? = true) ∨ (n ≤ j ∧ N[j - n]? = some i)) := by
    intro j b ho hg
    by_cases hj : j < n
    · refine ⟨j, ?_, ?_, .inl ⟨hj, rfl, ?_⟩⟩
      · rcases ho with ho | ⟨v, l, c, ho⟩
        · have ho : (if j < n then g.blk j else _) = some b := ho
          rw [if_pos hj] at ho; exact .inl ho
        · have ho : (if j < n then g.cur j else _) = some (v, l, some b, c) := ho
          rw [if_pos hj] at ho; exact .inr ⟨_, _, _, ho⟩
      · rw [getA j hj] at hg
        cases hh : hp[j]? with
        | none => rfl
        | some o => cases o <;> rw [hh] at hg <;> simp at hg ⊢
      · rw [getA j hj] at hg
        cases hh : hp[j]? with
        | none => rw [hh] at hg; simp at hg
        | some o => cases o <;> rw [hh] at hg <;> simp [isFixO] at hg ⊢
    · have hj' : n ≤ j := by omega
      have key : ∃ i, N[j - n]? = some i ∧ own g i b := by
        rcases ho with ho | ⟨v, l, c, ho⟩
        · have ho : (if j < n then g.blk j else (N[j - n]?).bind g.blk) = some b := ho
          rw [if_neg hj, Option.bind_eq_some_iff] at ho
          obtain ⟨i, e1, e2⟩ := ho
          exact ⟨i, e1, .inl e2⟩
        · have ho : (if j < n then g.cur j else (N[j - n]?).bind g.cur) = some (v, l, some b, c) := ho
          rw [if_neg hj, Option.bind_eq_some_iff] at ho
          obtain ⟨i, e1, e2⟩ := ho
          exact ⟨i, e1, .inr ⟨_, _, _, e2⟩⟩
      obtain ⟨i, e1, e2⟩ := key
      refine ⟨i, e2, ?_, .inr ⟨hj', e1⟩⟩
      have hlt := (h2 i (List.mem_of_getElem? e1)).1.1
      rw [getB j hj', e1, Option.map_some, List.getD_eq_getElem?_getD, List.getElem?_eq_getElem hlt, Option.getD_some] at hg
      rw [List.getElem?_eq_getElem hlt]
      revert hg
      cases hp[i] <;> exact fun h => h
  refine ⟨⟨h.below, h.base, h.frz, h.imm, fun j => ?_, fun j j' b hjj hg hg' ho ho' => ?_⟩, fun g0 hle hk => ?_, fun cs vs hv hc => VL.renamed (g := g) (g' := g.gc N n) (fun _ _ _ e => e) tb tc hv hc⟩
  · by_cases hj : j < n
    · rw [getA j hj]
      have k := h.objs j
      have eb : (g.gc N n).blk j = g.blk j := by show (if j < n then g.blk j else _) = _; rw [if_pos hj]
      have ec : (g.gc N n).cur j = g.cur j := by show (if j < n then g.cur j else _) = _; rw [if_pos hj]
      obtain ⟨o, ho⟩ : ∃ o, hp[j]? = some o := ⟨_, List.getElem?_eq_getElem (by omega)⟩
      rw [ho] at k
      rw [ho]
      cases o with
      | fix ty cs =>
        have hcv := h3 j hj
        rw [ho] at hcv
        exact ObOK.renamed (g := g) (g' := g.gc N n) (fun _ _ _ e => e) tb tc k eb ec (fun b _ hf => hf) (fun _ _ _ e => e) (by simpa [covO] using hcv)
      | grow ty ver sz sh xs =>
        obtain ⟨k1, _⟩ := k
        exact ⟨eb.trans k1, trivial⟩
      | froz ver sz sh xs => obtain ⟨k1, _⟩ := k; exact ⟨eb.trans k1, trivial⟩
      | dead => exact ⟨eb.trans k.1, trivial⟩
      | hole => exact ⟨eb.trans k.1, trivial⟩
    · have hj' : n ≤ j := by omega
      rw [getB j hj']
      cases hN : N[j - n]? with
      | none => exact ⟨by show (if j < n then _ else (N[j - n]?).bind g.blk) = none; rw [if_neg hj, hN]; rfl, by show (if j < n then _ else (N[j - n]?).bind g.cur) = none; rw [if_neg hj, hN]; rfl⟩
      | some i =>
        obtain ⟨⟨hlt, -⟩, hcv⟩ := h2 i (List.mem_of_getElem? hN)
        obtain ⟨o, ho⟩ : ∃ o, hp[i]? = some o := ⟨_, List.getElem?_eq_getElem hlt⟩
        have hgd : hp.getD i .dead = o := by rw [List.getD_eq_getElem?_getD, ho]; rfl
        rw [Option.map_some, hgd]
        have k := h.objs i
        rw [ho] at k
        exact ObOK.renamed (g := g) (g' := g.gc N n) (fun _ _ _ e => e) tb tc k (by show (if j < n then _ else (N[j - n]?).bind g.blk) = _; rw [if_neg hj, hN]; rfl) (by show (if j < n then _ else (N[j - n]?).bind g.cur) = _; rw [if_neg hj, hN]; rfl)
          (fun b _ hf => hf) (fun _ _ _ e => e) (by rw [← hgd]; exact hcv)
  · obtain ⟨i, e1, e2, e3⟩ := from_ j b ho hg
    obtain ⟨i', f1, f2, f3⟩ := from_ j' b ho' hg'
    refine h.inj i i' b (fun e => ?_) e2 f2 e1 f1
    subst e
    rcases e3 with ⟨a1, a2, a3⟩ | ⟨a1, a2⟩ <;> rcases f3 with ⟨c1, c2, c3⟩ | ⟨c1, c2⟩
    · exact hjj (a2.symm.trans c2)
    · have := (h2 i (List.mem_of_getElem? c2)).1.2
      rw [a3, decide_eq_true (show i < n by omega)] at this; simp at this
    · have := (h2 i (List.mem_of_getElem? a2)).1.2
      rw [c3, decide_eq_true (show i < n by omega)] at this; simp at this
    · have := (idx_get0 hnd a2).symm.trans (idx_get0 hnd c2)
      omega
  · have lt : ∀ i, (g0.blk i ≠ none ∨ g0.cur i ≠ none) → i < n := by
      intro i hi
      have h1 : i < base := by
        rcases Nat.lt_or_ge i base with h' | h'
        · exact h'
        · have := hk i h'
          rcases hi with hi | hi
          · exact absurd this.1 hi
          · exact absurd this.2 hi
      have h2 : i < hp.length := by
        rcases Nat.lt_or_ge i hp.length with h' | h'
        · exact h'
        · have := h.none_blk h'
          rcases hi with hi | hi
          · cases hb : g0.blk i with
            | none => exact absurd hb hi
            | some b => have := hle.blk i b hb; simp_all
          · cases hb : g0.cur i with
            | none => exact absurd hb hi
            | some x => obtain ⟨v, l, b, c⟩ := x; obtain ⟨y, hy, -⟩ := hle.cur i v l b c hb; simp_all
      omega
    refine ⟨⟨hle.base, hle.w0, hle.frz, hle.old, hle.imm, fun i b e => ?_, fun i ver len b c e => ?_⟩, fun i hi => ?_⟩
    · show (if i < n then g.blk i else _) = some b
      rw [if_pos (lt i (.inl (by rw [e]; simp)))]; exact hle.blk i b e
    · obtain ⟨x, k1, k2⟩ := hle.cur i ver len b c e
      exact ⟨x, by show (if i < n then g.cur i else _) = some x; rw [if_pos (lt i (.inr (by rw [e]; simp)))]; exact k1, k2⟩
    · refine ⟨?_, ?_⟩
      · cases hb : g0.blk i with
        | none => rfl
        | some b => have := lt i (.inl (by rw [hb]; simp)); omega
      · cases hb : g0.cur i with
        | none => rfl
        | some b => have := lt i (.inr (by rw [hb]; simp)); omega
def Gh.zero (g : Gh) (n : Nat) : Gh := { g with cur := fun j => if j < n then g.cur j else (g.cur j).map fun x => (0, x.2) }
theorem noOwnL_mem : ∀ {l : List AV}, noOwnL l = true → ∀ c ∈ l, noOwn c = true
  | [], _, c, hc => by simp at hc
  | x :: l, h, c, hc => by
    simp only [noOwnL, Bool.and_eq_true] at h
    rcases List.mem_cons.1 hc with rfl | hc
    · exact h.1
    · exact noOwnL_mem h.2 c hc
theorem noOwn_flat {xs : List AV} (h : noOwnL xs = true) : ∀ c ∈ flat xs, noOwn c = true := by
  intro c hc
  obtain ⟨x, hx, hc⟩ := List.mem_flatMap.1 hc
  have := noOwnL_mem h x hx
  cases x <;> first | (simp only [cells, List.mem_singleton] at hc; subst hc; exact this) | (simp only [noOwn] at this; exact noOwnL_mem this c hc)
theorem V.noOwn {g g' : Gh} (hi : g'.imm = g.imm) (hb : g'.blk = g.blk) {a : AV} {v : Value} (k : V g a v) : Cx.noOwn a = true → V g' a v := by
  have hat : ∀ {b o vs}, At g b o vs → At g' b o vs := fun h i v e => by rw [hi]; exact h i v e
  have closed : ∀ {c : AV} {v : Value}, ClosedCell c → V g c v → V g' c v := fun hcl hv =>
    V.sub (g := g.trim 0) (g' := g') ⟨fun b o v e => by rw [hi]; exact e, fun _ _ e => by simp [Gh.trim] at e, fun _ _ _ _ _ e => by simp [Gh.trim] at e⟩ (hv.trim (m := 0) (.inl hcl))
  induction k with
  | int k n => intro _; exact .int k n
  | bool b => intro _; exact .bool b
  | str s hs => intro _; exact .str s hs
  | ptr id off b h => intro _; exact .ptr id off b (by rw [hb]; exact h)
  | nilptr => intro _; exact .nilptr
  | rptr cs vs b o hl _ ha ih => intro h; simp only [Cx.noOwn] at h; exact .rptr cs vs b o hl (fun i c v e1 e2 => ih i c v e1 e2 (noOwnL_mem h c (List.mem_of_getElem? e1))) (hat ha)
  | nilsl => intro _; exact .nilsl
  | slice sz sh xs k vs b o c hl hv ha hx hc hlim ih =>
    intro h
    simp only [Cx.noOwn, Bool.or_eq_true] at h
    refine .slice sz sh xs k vs b o c hl (fun i c v e1 e2 => ?_) (hat ha) hx hc hlim
    rcases h with h | h
    · exact closed (closed_flat h (fun x hx' => (hx x hx').1) c (List.mem_of_getElem? e1)) (hv i c v e1 e2)
    · exact ih i c v e1 e2 (noOwn_flat h c (List.mem_of_getElem? e1))
  | slice0 sz sh => intro _; exact .slice0 sz sh
  | slice1 sz sh k a c => intro _; exact .slice1 sz sh k a c
  | fslice sz sh xs ys vs b o hl hv ha hx hlim ih =>
    intro h
    simp only [Cx.noOwn, Bool.or_eq_true, Bool.and_eq_true] at h
    refine .fslice sz sh xs ys vs b o hl (fun i c v e1 e2 => ?_) (hat ha) hx hlim
    rcases h with h | h
    · exact closed (closed_flat h (fun x hx' => (hx x hx').1) c (List.mem_of_getElem? e1)) (hv i c v e1 e2)
    · refine ih i c v e1 e2 ?_
      have hm := List.mem_of_getElem? e1
      have e : flat (xs ++ ys) = flat xs ++ flat ys := by simp [flat]
      rw [e, List.mem_append] at hm
      rcases hm with hm | hm
      · exact noOwn_flat h.1 c hm
      · exact noOwn_flat h.2 c hm
  | oslice id ver len b c x hx hh => intro h; simp [Cx.noOwn] at h
  | oslice0 id ver x hx hh => intro h; simp [Cx.noOwn] at h
  | optr id ver len sz i j b c x hx hh => intro h; simp [Cx.noOwn] at h
  | func f pre post vs ws h1 _ h2 _ ih1 ih2 =>
    intro h
    simp only [Cx.noOwn, Bool.and_eq_true] at h
    exact .func f pre post vs ws h1 (fun i c v e1 e2 => ih1 i c v e1 e2 (noOwnL_mem h.1 c (List.mem_of_getElem? e1))) h2 (fun i c v e1 e2 => ih2 i c v e1 e2 (noOwnL_mem h.2 c (List.mem_of_getElem? e1)))
  | nilfunc => intro _; exact .nilfunc
  | agg cs vs hl _ ih => intro h; simp only [Cx.noOwn] at h; exact .agg cs vs hl (fun i c v e1 e2 => ih i c v e1 e2 (noOwnL_mem h c (List.mem_of_getElem? e1)))
  | tuple cs vs hl _ ih => intro h; simp only [Cx.noOwn] at h; exact .tuple cs vs hl (fun i c v e1 e2 => ih i c v e1 e2 (noOwnL_mem h c (List.mem_of_getElem? e1)))
  | nilIface => intro _; exact .nilIface
  | junk v => intro _; exact .junk v
theorem zv1_one (x : AV) : oneCell (zv1 x) = oneCell x := by cases x <;> rfl
theorem R.zeroed {g : Gh} {w : World} {hp : List Ob} (h : R g w hp) {n : Nat} (hlow : ∀ i ty ver sz sh xs, hp[i]? = some (.grow ty ver sz sh xs) → n ≤ i) (hO : hp.all (okO hp) = true) :
    R (g.zero n) w (hp.map zvO) ∧ (∀ g0, g0.le g → Ids g0 n → g0.le (g.zero n)) ∧ ∀ x v, V g x v → okS hp x = true → V (g.zero n) (zvS x) v := by
  have cur0 : ∀ i ver, isVer hp i ver = true → ∃ x, g.cur i = some (ver, x) ∧ (g.zero n).cur i = some (0, x) := by
    intro i ver hv
    unfold isVer at hv
    split at hv
    · rename_i ty ver' sz sh xs he
      have e := Nat.eq_of_beq_eq_true hv; subst e
      have hi := hlow i _ _ _ _ _ he
      have k := h.objs i
      rw [he] at k
      obtain ⟨k1, ⟨_, _, k2⟩ | ⟨b, c, vs, fz, k2, _⟩⟩ := k
      · exact ⟨_, k2, by show (if i < n then _ else (g.cur i).map _) = _; rw [if_neg (by omega), k2]; rfl⟩
      · exact ⟨_, k2, by show (if i < n then _ else (g.cur i).map _) = _; rw [if_neg (by omega), k2]; rfl⟩
    · simp at hv
  have hdr0 : ∀ {ver len b c} {x : Nat × Option Nat × Nat}, Hdr ver len b c (ver, x) → Hdr 0 len b c (0, x) := by
    intro ver len b c x hh
    obtain ⟨l', b', c'⟩ := x
    rcases hh with hh | ⟨_, h1, h2⟩
    · omega
    · exact .inr ⟨rfl, h1, h2⟩
  have v1 : ∀ x v, V g x v → ok1 hp x = true → V (g.zero n) (zv1 x) v := by
    intro x v hV ho
    cases hV with
    | oslice id ver len b c y hy hh =>
      obtain ⟨z, e1, e2⟩ := cur0 id ver ho
      rw [e1] at hy; cases hy
      exact .oslice id 0 len b c _ e2 (hdr0 hh)
    | oslice0 id ver y hy hh =>
      obtain ⟨z, e1, e2⟩ := cur0 id ver ho
      rw [e1] at hy; cases hy
      exact .oslice0 id 0 _ e2 (hdr0 hh)
    | optr id ver len sz i j b c y hy hh =>
      obtain ⟨z, e1, e2⟩ := cur0 id ver ho
      rw [e1] at hy; cases hy
      exact .optr id 0 len sz i j b c _ e2 (hdr0 hh)
    | int k m => exact .int k m
    | bool b => exact .bool b
    | str s hs => exact .str s hs
    | ptr id off b hb => exact .ptr id off b hb
    | nilptr => exact .nilptr
    | nilsl => exact .nilsl
    | nilfunc => exact .nilfunc
    | nilIface => exact .nilIface
    | junk v => exact .junk v
    | slice0 sz sh => exact .slice0 sz sh
    | slice1 sz sh k a c => exact .slice1 sz sh k a c
    | rptr cs vs b o a1 a2 a3 => exact V.noOwn (g := g) (g' := g.zero n) rfl rfl (.rptr cs vs b o a1 a2 a3) ho
    | slice sz sh xs k vs b o c a1 a2 a3 a4 a5 a6 => exact V.noOwn (g := g) (g' := g.zero n) rfl rfl (.slice sz sh xs k vs b o c a1 a2 a3 a4 a5 a6) ho
    | fslice sz sh xs ys vs b o a1 a2 a3 a4 a5 => exact V.noOwn (g := g) (g' := g.zero n) rfl rfl (.fslice sz sh xs ys vs b o a1 a2 a3 a4 a5) ho
    | func f pre post vs ws a1 a2 a3 a4 => exact V.noOwn (g := g) (g' := g.zero n) rfl rfl (.func f pre post vs ws a1 a2 a3 a4) ho
    | agg cs vs a1 a2 => exact V.noOwn (g := g) (g' := g.zero n) rfl rfl (.agg cs vs a1 a2) ho
    | tuple cs vs a1 a2 => exact V.noOwn (g := g) (g' := g.zero n) rfl rfl (.tuple cs vs a1 a2) ho
  have vl1 : ∀ cs vs, VL g cs vs → cs.all (ok1 hp) = true → VL (g.zero n) (cs.map zv1) vs := by
    intro cs vs hv ho
    refine ⟨by simpa using hv.1, fun i c v e1 e2 => ?_⟩
    rw [List.getElem?_map, Option.map_eq_some_iff] at e1
    obtain ⟨x, e1, rfl⟩ := e1
    exact v1 x v (hv.2 i x v e1 e2) (List.all_eq_true.1 ho x (List.mem_of_getElem? e1))
  have hgone : ∀ i : Nat, gone (hp.map zvO)[i]? = gone hp[i]? := by
    intro i
    rw [List.getElem?_map]
    cases hp[i]? with
    | none => rfl
    | some o => cases o <;> rfl
  have hown : ∀ i b, own (g.zero n) i b → own g i b := by
    intro i b ho
    rcases ho with ho | ⟨v, l, c, ho⟩
    · exact .inl ho
    · have ho : (if i < n then g.cur i else (g.cur i).map fun x => (0, x.2)) = some (v, l, some b, c) := ho
      split at ho
      · exact .inr ⟨_, _, _, ho⟩
      · rw [Option.map_eq_some_iff] at ho
        obtain ⟨x, e1, e2⟩ := ho
        obtain ⟨v0, l0, b0, c0⟩ := x
        simp only [Prod.mk.injEq] at e2
        obtain ⟨rfl, rfl, rfl, rfl⟩ := e2
        exact .inr ⟨_, _, _, e1⟩
  refine ⟨⟨h.below, h.base, h.frz, h.imm, fun i => ?_, fun i j b hij hi hj oi oj => h.inj i j b hij (by rw [← hgone]; exact hi) (by rw [← hgone]; exact hj) (hown i b oi) (hown j b oj)⟩, fun g0 hle hk => ?_, fun x v hV ho => ?_⟩
  · rw [List.getElem?_map]
    have k := h.objs i
    cases hi : hp[i]? with
    | none =>
      rw [hi] at k
      refine ⟨k.1, ?_⟩
      show (if i < n then g.cur i else (g.cur i).map _) = none
      rw [k.2]; simp
    | some o =>
      rw [hi] at k
      have hoo := List.all_eq_true.1 hO o (List.mem_of_getElem? hi)
      cases o with
      | dead =>
        exact ⟨k.1, trivial⟩
      | hole =>
        refine ⟨k.1, ?_⟩
        show (if i < n then g.cur i else (g.cur i).map _) = none
        rw [k.2]; simp
      | froz => simp [okO] at hoo
      | fix ty cs =>
        obtain ⟨k1, b, vs, fz, k2, k3, k4, k5, k6, k7, k8⟩ := k
        refine ⟨by show (if i < n then g.cur i else (g.cur i).map _) = none; rw [k1]; simp, b, vs, fz, k2, k3, k4, vl1 _ _ k5 (by simpa [okO] using hoo), fun c hc => ?_, k7, k8⟩
        obtain ⟨x, hx, rfl⟩ := List.mem_map.1 hc
        rw [zv1_one]; exact k6 x hx
      | grow ty ver sz sh xs =>
        have hni := hlow i _ _ _ _ _ hi
        obtain ⟨k1, ⟨k0, k3, k2⟩ | ⟨b, c, vs, fz, k2, k3, k4, k5, k6, k7, k8, k9, k10, k11, k12⟩⟩ := k
        · exact ⟨k1, .inl ⟨k0, k3, by show (if i < n then _ else (g.cur i).map _) = _; rw [if_neg (by omega), k2]; rfl⟩⟩
        · refine ⟨k1, .inr ⟨b, c, vs, fz, by show (if i < n then _ else (g.cur i).map _) = _; rw [if_neg (by omega), k2]; rfl, k3, k4, k5, k6, k7, ⟨k8.1, fun j y v e1 e2 => ?_⟩, k9, k10, k11, k12⟩⟩
          have hm := List.mem_of_getElem? e1
          simp only [okO, Bool.or_eq_true] at hoo
          rcases hoo with hoo | hoo
          · exact V.sub (g := g.trim 0) (g' := g.zero n) ⟨fun b o v e => e, fun _ _ e => by simp [Gh.trim] at e, fun _ _ _ _ _ e => by simp [Gh.trim] at e⟩ ((k8.2 j y v e1 e2).trim (m := 0) (.inl (closed_flat hoo (fun x hx => (k9 x hx).1) y hm)))
          · exact V.noOwn (g := g) (g' := g.zero n) rfl rfl (k8.2 j y v e1 e2) (noOwn_flat hoo y hm)
  · refine ⟨hle.base, hle.w0, hle.frz, hle.old, hle.imm, hle.blk, fun i ver len b c e => ?_⟩
    have hlt : i < n := by
      rcases Nat.lt_or_ge i n with h' | h'
      · exact h'
      · rw [(hk i h').2] at e; simp at e
    obtain ⟨x, k1, k2⟩ := hle.cur i ver len b c e
    exact ⟨x, by show (if i < n then g.cur i else _) = some x; rw [if_pos hlt]; exact k1, k2⟩
  · cases x with
    | agg cs =>
      cases hV with
      | agg _ vs a1 a2 =>
        have := vl1 cs vs.toList ⟨by simpa using a1, fun i c v e1 e2 => a2 i c v e1 (by simpa using e2)⟩ ho
        exact .agg _ vs (by simpa using this.1) (fun i c v e1 e2 => this.2 i c v e1 (by simpa using e2))
    | tuple cs =>
      cases hV with
      | tuple _ vs a1 a2 =>
        have := vl1 cs vs.toList ⟨by simpa using a1, fun i c v e1 e2 => a2 i c v e1 (by simpa using e2)⟩ ho
        exact .tuple _ vs (by simpa using this.1) (fun i c v e1 e2 => this.2 i c v e1 (by simpa using e2))
    | _ => exact v1 _ v hV ho
theorem liveA_V {g : Gh} {hp : List Ob} {x : AV} {v : Value} (h : V g x v) : V g (liveA hp x) v := by
  unfold liveA
  split
  · split
    · rename_i ver _ _ _ _ ver' _ _ _ _
      cases Nat.beq _ _ with
      | true => exact h
      | false => exact .junk v
    · exact .junk v
  · split
    · cases Nat.beq _ _ with
      | true => exact h
      | false => exact .junk v
    · exact .junk v
  · exact h
theorem hpG_low {N : List Nat} {hp : List Ob} {n : Nat} : ∀ (i : Nat) ty ver sz sh xs, (hpG N hp n)[i]? = some (.grow ty ver sz sh xs) → n ≤ i := by
  intro i ty ver sz sh xs he
  rcases Nat.lt_or_ge i n with hi | hi
  · exfalso
    unfold hpG at he
    rw [List.getElem?_append_left (by simpa using hi), List.getElem?_map, List.getElem?_range hi, Option.map_some] at he
    split at he <;> simp at he
  · exact hi
theorem gcK_sound0 {g0 g : Gh} {on : Bool} {base : Nat} {fr : List AV} {hp : List Ob} {K : List AV → List Ob → Prop} {cvs : List Value} {w : World} (h : gcK on base fr hp K) (hle : g0.le g) (hR : R g w hp) (hvl : VL g fr cvs) (hi : Ids g0 base) :
    ∃ g' fr' hp', g0.le g' ∧ R g' w hp' ∧ VL g' fr' cvs ∧ K fr' hp' := by
  unfold gcK at h
  split at h
  · exact ⟨g, fr, hp, hle, hR, hvl, h⟩
  · simp only [deepL_eq, natLK_eq, natK_eq, deepH_eq] at h
    generalize List.filter (fun i => !(decide (i < min base hp.length) && isFixO hp[i]?)) _ = N at h
    cases hb : (okG N hp (min base hp.length) && covL (okI N hp (min base hp.length)) (fr.map (liveA hp))) with
    | false => rw [hb] at h; exact h.elim
    | true =>
      rw [hb] at h
      simp only [Bool.and_eq_true] at hb
      simp only [cond_true] at h
      obtain ⟨k1, k2, k3⟩ := hR.moved (base := base) (Nat.min_le_right _ _) (by omega) hb.1
      have hv : VL g (fr.map (liveA hp)) cvs := ⟨by simpa using hvl.1, fun i c v e1 e2 => by
        rw [List.getElem?_map, Option.map_eq_some_iff] at e1
        obtain ⟨x, e1, rfl⟩ := e1
        exact liveA_V (hvl.2 i x v e1 e2)⟩
      have hv2 := k3 _ _ hv hb.2
      obtain ⟨le1, ids1⟩ := k2 g0 hle hi
      generalize hF : renL (τG N hp (min base hp.length)) (fr.map (liveA hp)) = F at h hv2
      generalize hH : hpG N hp (min base hp.length) = H at h k1
      cases hb2 : (F.all (okS H) && H.all (okO H)) with
      | false => rw [hb2] at h; exact h.elim
      | true =>
        rw [hb2] at h
        simp only [Bool.and_eq_true] at hb2
        obtain ⟨z1, z2, z3⟩ := k1.zeroed (n := min base hp.length) (by rw [← hH]; exact hpG_low) hb2.2
        refine ⟨_, _, _, z2 g0 le1 ids1, z1, ?_, h⟩
        refine ⟨by simpa using hv2.1, fun i c v e1 e2 => ?_⟩
        rw [List.getElem?_map, Option.map_eq_some_iff] at e1
        obtain ⟨x, e1, rfl⟩ := e1
        exact z3 x v (hv2.2 i x v e1 e2) (List.all_eq_true.1 hb2.1 x (List.mem_of_getElem? e1))
theorem gcK_sound {g0 g : Gh} {on : Bool} {base : Nat} {fr : List AV} {hp : List Ob} {K : List AV → List Ob → Prop} {a : Act} {w : World} (h : gcK on base fr hp K) (hr : Rel g0 g ⟨fr, hp⟩ a w) (hi : Ids g0 base) :
    ∃ g' fr' hp', Rel g0 g' ⟨fr', hp'⟩ a w ∧ K fr' hp' := by
  obtain ⟨g', fr', hp', h1, h2, h3, h4⟩ := gcK_sound0 h hr.le hr.r hr.vl hi
  exact ⟨g', fr', hp', ⟨h1, h2, h3, hr.defers⟩, h4⟩
theorem giveUp_P {g : Gh} {w : World} {hp : List Ob} (h : R g w hp) {x : AV} {K : AV → List Ob → Cls → Prop} (hc : giveUpA False x hp K) {cx : Value} (hx : V g x cx) :
    ∃ g' y hp' c, g.le g' ∧ R g' w hp' ∧ V g' y cx ∧ K y hp' c := by
  have := giveUpA_hom (fun r : Option (AV × List Ob × Cls) => ∃ v hp' c, r = some (v, hp', c) ∧ K v hp' c) none x hp (fun v h c => some (v, h, c))
  simp only [Option.some.injEq, Prod.mk.injEq, reduceCtorEq, false_and, exists_false] at this
  have e : (fun a b c => ∃ v hp' c', (a = v ∧ b = hp' ∧ c = c') ∧ K v hp' c') = K := by
    funext a b c
    apply propext
    constructor
    · rintro ⟨_, _, _, ⟨rfl, rfl, rfl⟩, hk⟩; exact hk
    · intro hk; exact ⟨_, _, _, ⟨rfl, rfl, rfl⟩, hk⟩
  rw [e] at this
  obtain ⟨v, hp', c, h1, h2⟩ := this.mpr hc
  obtain ⟨g', y, hp2, c2, k1, k2, k3, k4⟩ := giveUp_sound0 h h1 hx
  simp only [Option.some.injEq, Prod.mk.injEq] at k4
  obtain ⟨rfl, rfl, rfl⟩ := k4
  exact ⟨g', _, _, _, k1, k2, k3, h2⟩
theorem frzAt_sound {g0 : Gh} {a : Act} {w : World} {K : St → Prop} : ∀ (l : List Nat) {g : Gh} {st : St}, frzAt l st K → Rel g0 g st a w → ∃ g' st', Rel g0 g' st' a w ∧ K st'
  | [], g, st, h, hr => ⟨g, st, hr, h⟩
  | i :: l, g, st, h, hr => by
    unfold frzAt at h
    split at h
    · rename_i id ver len hi
      obtain ⟨v, e1, e2⟩ := hr.vl.get hi
      obtain ⟨g', y, hp', c, k1, k2, k3, k4⟩ := giveUp_P hr.r h e2
      refine frzAt_sound l k4 ⟨hr.le.trans k1, k2, ?_, hr.defers⟩
      have hv := (hr.vl.mono k1).set i k3
      have e3 : a.tmps.toList.set i v = a.tmps.toList := by
        apply List.ext_getElem?
        intro j
        rw [List.getElem?_set]
        split
        · rename_i e; subst e; rw [e1, if_pos (length_of_get e1)]
        · rfl
      rwa [e3] at hv
    · exact frzAt_sound l h hr
theorem frzOAt_sound {g0 : Gh} {a : Act} {w : World} {fr : List AV} {K : List Ob → Prop} : ∀ (l : List (Nat × Nat)) {g : Gh} {hp : List Ob}, frzOAt l hp K → Rel g0 g ⟨fr, hp⟩ a w → ∃ g' hp', Rel g0 g' ⟨fr, hp'⟩ a w ∧ K hp'
  | [], g, hp, h, hr => ⟨g, hp, hr, h⟩
  | (j, i) :: l, g, hp, h, hr => by
    unfold frzOAt at h
    split at h
    · rename_i ty cs hj
      split at h
      · rename_i id ver len hi
        have kk := hr.r.objs j
        rw [hj] at kk
        obtain ⟨k1, b, vs, fz, k2, k3, k4, k5, k6, k7, k8⟩ := kk
        obtain ⟨v, e1, e2⟩ := k5.get hi
        obtain ⟨g', y, hp', c, q1, q2, q3, q4⟩ := giveUp_P hr.r h e2
        split at q4
        · rename_i ty' cs' hj'
          cases h1 : oneCell y with
          | false => rw [h1] at q4; exact q4.elim
          | true =>
          rw [h1, cond_true] at q4
          have kk := q2.objs j
          rw [hj'] at kk
          obtain ⟨j1, b', vs', fz', j2, j3, j4, j5, j6, j7, j8⟩ := kk
          have hb' : b' = b := by
            have := q1.blk _ _ k2; rw [j2] at this; simpa using this
          subst hb'
          have hvs : vs' = vs := by rw [k4] at j4; simp at j4; exact j4.1.symm
          subst hvs
          have hset : VL g' (cs'.set i y) vs'.toList := by
            have hv := j5.set i q3
            have e3 : vs'.toList.set i v = vs'.toList := by
              apply List.ext_getElem?
              intro j
              rw [List.getElem?_set]
              split
              · rename_i e; subst e; rw [e1, if_pos (length_of_get e1)]
              · rfl
            rwa [e3] at hv
          have hone : ∀ c ∈ cs'.set i y, oneCell c := by
            intro c hc
            rcases List.mem_or_eq_of_mem_set hc with hc | rfl
            · exact j6 c hc
            · exact h1
          refine frzOAt_sound l q4 ⟨hr.le.trans q1, ?_, hr.vl.mono q1, hr.defers⟩
          have hdd : ∀ k : Nat, gone (hp'.set j (.fix ty' (cs'.set i y)))[k]? = false → gone hp'[k]? = false := by
            intro k hn
            rw [List.getElem?_set] at hn
            split at hn
            · rename_i e1; subst e1; rw [hj']; rfl
            · exact hn
          refine ⟨q2.below, q2.base, q2.frz, q2.imm, fun k => ?_, fun k k' bb hkk hk hk' => q2.inj k k' bb hkk (hdd k hk) (hdd k' hk')⟩
          by_cases e : j = k
          · subst e
            rw [List.getElem?_set_self (length_of_get hj')]
            exact ⟨j1, b', vs', fz', j2, j3, j4, hset, hone, j7, j8⟩
          · rw [List.getElem?_set_ne e]; exact q2.objs k
        · exact q4.elim
      · exact frzOAt_sound l h hr
    · exact frzOAt_sound l h hr
theorem swL_keep {g : Gh} {w : World} {hp : List Ob} (hR : R g w hp) {x : AV} {l : List AV} {K : List AV → Prop} (h : ∃ l', K (x :: l') ∧ (∀ vs, VL g l vs → VL g l' vs) ∧ (l.all oneCell = true → l'.all oneCell = true)) :
    ∃ l', K l' ∧ (∀ vs, VL g (x :: l) vs → VL g l' vs) ∧ ((x :: l).all oneCell = true → l'.all oneCell = true) := by
  obtain ⟨l', h1, h2, h3⟩ := h
  refine ⟨_, h1, fun vs hv => ?_, fun ho => ?_⟩
  · obtain ⟨v, vs, rfl, k1, k2⟩ := hv.cons_inv
    exact VL.cons k1 (h2 _ k2)
  · simp only [List.all_cons, Bool.and_eq_true] at ho ⊢; exact ⟨ho.1, h3 ho.2⟩
theorem swL_sound {g : Gh} {w : World} {hp : List Ob} (hR : R g w hp) : ∀ (l : List AV) {K : List AV → Prop}, swL hp l K → ∃ l', K l' ∧ (∀ vs, VL g l vs → VL g l' vs) ∧ (l.all oneCell = true → l'.all oneCell = true)
  | [], K, h => ⟨[], h, fun _ h => h, fun h => h⟩
  | .oslice id ver len :: l, K, h => by
    have keep : (swL hp l fun l => K (.oslice id ver len :: l)) → ∃ l', K l' ∧ (∀ vs, VL g (.oslice id ver len :: l) vs → VL g l' vs) ∧ ((AV.oslice id ver len :: l).all oneCell = true → l'.all oneCell = true) := by
      intro h
      obtain ⟨l', h1, h2, h3⟩ := swL_sound hR l h
      refine ⟨_, h1, fun vs hv => ?_, fun ho => ?_⟩
      · obtain ⟨v, vs, rfl, k1, k2⟩ := hv.cons_inv
        exact VL.cons k1 (h2 _ k2)
      · simp only [List.all_cons, Bool.and_eq_true] at ho ⊢; exact ⟨ho.1, h3 ho.2⟩
    unfold swL at h
    split at h
    · rename_i ver' sz sh xs he
      cases hb : Nat.beq ver ver' with
      | false => rw [hb] at h; exact keep h
      | true =>
        rw [hb] at h
        have e := Nat.eq_of_beq_eq_true hb; subst e
        simp only [cond_true] at h
        cases hc : (len == xs.length) with
        | false => rw [hc] at h; exact h.elim
        | true =>
          rw [hc] at h
          have e := eq_of_beq hc; subst e
          obtain ⟨l', h1, h2, h3⟩ := swL_sound hR l h
          refine ⟨_, h1, fun vs hv => ?_, fun ho => ?_⟩
          · obtain ⟨v, vs, rfl, k1, k2⟩ := hv.cons_inv
            exact VL.cons (hR.frozV he k1) (h2 _ k2)
          · simp only [List.all_cons, Bool.and_eq_true] at ho ⊢; exact ⟨rfl, h3 ho.2⟩
    · exact keep h
  | .int a b :: l, K, h => swL_keep hR (x := .int a b) (swL_sound hR l h)
  | .bool a :: l, K, h => swL_keep hR (x := .bool a) (swL_sound hR l h)
  | .str a :: l, K, h => swL_keep hR (x := .str a) (swL_sound hR l h)
  | .ptr a b :: l, K, h => swL_keep hR (x := .ptr a b) (swL_sound hR l h)
  | .nilptr :: l, K, h => swL_keep hR (x := .nilptr) (swL_sound hR l h)
  | .rptr a :: l, K, h => swL_keep hR (x := .rptr a) (swL_sound hR l h)
  | .nilsl :: l, K, h => swL_keep hR (x := .nilsl) (swL_sound hR l h)
  | .slice a b c d :: l, K, h => swL_keep hR (x := .slice a b c d) (swL_sound hR l h)
  | .fslice a b c d :: l, K, h => swL_keep hR (x := .fslice a b c d) (swL_sound hR l h)
  | .optr a b c d e f :: l, K, h => swL_keep hR (x := .optr a b c d e f) (swL_sound hR l h)
  | .func a b c :: l, K, h => swL_keep hR (x := .func a b c) (swL_sound hR l h)
  | .nilfunc :: l, K, h => swL_keep hR (x := .nilfunc) (swL_sound hR l h)
  | .agg a :: l, K, h => swL_keep hR (x := .agg a) (swL_sound hR l h)
  | .tuple a :: l, K, h => swL_keep hR (x := .tuple a) (swL_sound hR l h)
  | .nilIface :: l, K, h => swL_keep hR (x := .nilIface) (swL_sound hR l h)
  | .junk :: l, K, h => swL_keep hR (x := .junk) (swL_sound hR l h)
def Alike (g : Gh) (o o' : Option Ob) : Prop := o' = o ∨ ∃ ty cs cs', o = some (.fix ty cs) ∧ o' = some (.fix ty cs') ∧ (∀ vs, VL g cs vs → VL g cs' vs) ∧ (cs.all oneCell = true → cs'.all oneCell = true)
theorem swO_sound {g : Gh} {w : World} {hp : List Ob} (hR : R g w hp) : ∀ (l : List Ob) {K : List Ob → Prop}, swO hp l K → ∃ l', K l' ∧ ∀ i : Nat, Alike g l[i]? l'[i]?
  | [], K, h => ⟨[], h, fun i => .inl rfl⟩
  | .fix ty cs :: l, K, h => by
    obtain ⟨cs', h1, h2, h3⟩ := swL_sound hR cs h
    obtain ⟨l', k1, k2⟩ := swO_sound hR l h1
    refine ⟨_, k1, fun i => ?_⟩
    cases i with
    | zero => exact .inr ⟨ty, cs, cs', rfl, rfl, h2, h3⟩
    | succ i => exact k2 i
  | .grow a b c d e :: l, K, h => by
    obtain ⟨l', k1, k2⟩ := swO_sound hR l h
    refine ⟨_, k1, fun i => ?_⟩
    cases i with
    | zero => exact .inl rfl
    | succ i => exact k2 i
  | .froz a b c d :: l, K, h => by
    obtain ⟨l', k1, k2⟩ := swO_sound hR l h
    refine ⟨_, k1, fun i => ?_⟩
    cases i with
    | zero => exact .inl rfl
    | succ i => exact k2 i
  | .dead :: l, K, h => by
    obtain ⟨l', k1, k2⟩ := swO_sound hR l h
    refine ⟨_, k1, fun i => ?_⟩
    cases i with
    | zero => exact .inl rfl
    | succ i => exact k2 i
  | .hole :: l, K, h => by
    obtain ⟨l', k1, k2⟩ := swO_sound hR l h
    refine ⟨_, k1, fun i => ?_⟩
    cases i with
    | zero => exact .inl rfl
    | succ i => exact k2 i
theorem R.alike {g : Gh} {w : World} {hp hp' : List Ob} (h : R g w hp) (ha : ∀ i : Nat, Alike g hp[i]? hp'[i]?) : R g w hp' := by
  have hg : ∀ i : Nat, gone hp'[i]? = gone hp[i]? := by
    intro i
    rcases ha i with e | ⟨ty, cs, cs', e1, e2, -⟩
    · rw [e]
    · rw [e1, e2]; rfl
  refine ⟨h.below, h.base, h.frz, h.imm, fun i => ?_, fun i k b hik hi hk => h.inj i k b hik (by rw [← hg]; exact hi) (by rw [← hg]; exact hk)⟩
  have k := h.objs i
  rcases ha i with e | ⟨ty, cs, cs', e1, e2, h3, h4⟩
  · rw [e]; exact k
  · rw [e1] at k
    rw [e2]
    obtain ⟨k1, b, vs, fz, k2, k3, k4, k5, k6, k7, k8⟩ := k
    exact ⟨k1, b, vs, fz, k2, k3, k4, h3 _ k5, List.all_eq_true.1 (h4 (List.all_eq_true.2 k6)), k7, k8⟩
theorem xgcK_sound {g0 g : Gh} {on : Bool} {base : Nat} {vs : List AV} {hp : List Ob} {K : List AV → List Ob → Prop} {cvs : List Value} {w : World} (h : xgcK on base vs hp K) (hle : g0.le g) (hR : R g w hp) (hvl : VL g vs cvs) (hi : Ids g0 base) :
    ∃ g' vs' hp', g0.le g' ∧ R g' w hp' ∧ VL g' vs' cvs ∧ K vs' hp' := by
  unfold xgcK at h
  split at h
  · exact ⟨g, vs, hp, hle, hR, hvl, h⟩
  · obtain ⟨vs1, h, hv1, -⟩ := swL_sound (hp := hp) hR _ h
    obtain ⟨hp1, h, ha1⟩ := swO_sound (hp := hp) hR _ h
    exact gcK_sound0 h hle (R.alike hR ha1).deaden (hv1 _ hvl) hi
theorem nrm_sound {g0 g : Gh} {kp m : Nat} {l : Nm} {st : St} {K : St → Prop} {a : Act} {w : World} (h : nrm kp m l st K) (hr : Rel g0 g st a w) (hi : Ids g0 m) (hk : Ids g0 kp) : ∃ g' st', Rel g0 g' st' a w ∧ K st' := by
  unfold nrm at h
  obtain ⟨g, st, hr, h⟩ := frzAt_sound _ h hr
  obtain ⟨g, hp, hr, h⟩ := frzOAt_sound (fr := st.fr) _ h hr
  obtain ⟨fr1, h, hv1, -⟩ := swL_sound (hp := hp) hr.r _ h
  obtain ⟨hp1, h, ha1⟩ := swO_sound (hp := hp) hr.r _ h
  have hR1 : R g w hp1 := R.alike hr.r ha1
  have hr2 : Rel g0 g ⟨wkAt l.weak fr1, (wkO l.weakO hp1).map deadO⟩ a w := ⟨hr.le, (wkO_R l.weakO hR1).deaden, (wkAt_VL l.weak (hv1 _ (clear_VL l.forget hr.vl))).1, hr.defers⟩
  obtain ⟨g, fr, hp, hr, h⟩ := gcK_sound h hr2 hk
  dsimp only at h
  cases hb : (refsL m fr && (hp.take m).all (refsO m)) with
  | false => rw [hb] at h; exact h.elim
  | true =>
    rw [hb] at h
    simp only [Bool.and_eq_true] at hb
    exact ⟨g.trim m, ⟨fr, hp.take m⟩, ⟨hr.le.trim hi, hr.r.trim hb.2, hr.vl.trim hb.1, hr.defers⟩, lenO_out (lenAt_out h)⟩
theorem joinK_sound {E : En} {g0 g : Gh} (hI : Ids g0 E.keep) (hB : Ids g0 E.base) {b : Code} {F : St → Prop} {st : St} {a : Act} {w : World} (h : joinK E b F st) (hr : Rel g0 g st a w) : ∃ g' st', Rel g0 g' st' a w ∧ F st' := by
  unfold joinK at h
  split at h
  · rename_i m hm
    unfold cutK at h
    dsimp only at h
    obtain ⟨g1, k1, k2, k3, -, k5⟩ := virtL_sound (E.virt (tagC b)) hr.r hr.vl
    have hi : Ids g0 (max E.keep m) := fun i hi => hI i (by omega)
    obtain ⟨g', st', hr', hk⟩ := nrm_sound h (g := g1) ⟨hr.le.trans k1, k2, k3, hr.defers⟩ hi hB
    exact ⟨g', st', hr', hk.out⟩
  · exact ⟨g, st, hr, h⟩
def Rounds (P : Program) (c : Code) (Q : Exit → Act → World → Prop) (a : Act) (w : World) : Prop :=
  ∀ (b : Frame) (k : List Item) (cs : List Frame), ∃ e a' w', Q e a' w' ∧ Arrives P (lone (b.at a (.code c :: .inLoop c :: k)) cs w) b k cs e a' w'
theorem Rounds.loop {P : Program} {c : Code} {Q : Exit → Act → World → Prop} {a : Act} {w : World} (h : Rounds P c Q a w) : (Code.loop c).wp P Q a w := by
  intro b k cs
  obtain ⟨e, a', w', hq, harr⟩ := h b k cs
  exact ⟨e, a', w', hq, .of_steps (.one step_loop) harr⟩
theorem Rounds.round {P : Program} {c : Code} {Q : Exit → Act → World → Prop} {a : Act} {w : World} (h : c.wp P (Exit.then (Rounds P c Q) Q) a w) : Rounds P c Q a w := by
  intro b k cs
  obtain ⟨e, a₁, w₁, hq, harr⟩ := h b (.inLoop c :: k) cs
  cases e with
  | normal =>
    obtain ⟨e₂, a₂, w₂, hq₂, harr₂⟩ := hq b k cs
    exact ⟨e₂, a₂, w₂, hq₂, .of_steps (Steps.trans harr (.one step_inLoop)) harr₂⟩
  | exit id => exact ⟨_, a₁, w₁, hq, .pass (x := .inLoop c) rfl (fun _ _ => .inl (by simp)) harr⟩
  | goto l => exact ⟨_, a₁, w₁, hq, .pass (x := .inLoop c) rfl (fun _ _ => .inl (by simp)) harr⟩
  | ret => exact ⟨_, a₁, w₁, hq, .pass (x := .inLoop c) rfl (fun _ _ => .inl (by simp)) harr⟩
  | panic ch => exact ⟨_, a₁, w₁, hq, .pass (x := .inLoop c) rfl (fun _ _ => .inl (by simp)) harr⟩
  | outgrown => exact ⟨_, a₁, w₁, hq, .pass (x := .inLoop c) rfl (fun _ _ => .inl (by simp)) harr⟩
theorem wp_sound {E : En} (hE : EnOK E) (hD : Draws E) {g0 : Gh} (hL : LayAt E.P g0) {lp : Handler}
    (hI : Ids g0 E.keep) (hB : Ids g0 E.base) (hlp : ∀ b m K s, lp b m K s → Ids g0 m → ∀ g a w, Rel g0 g s a w → Rounds E.P b (QC g0 K) a w) : ∀ (c : Code) (K : Ex → St → Prop) (st : St), wpX E lp c K st → ∀ g a w, Rel g0 g st a w → c.wp E.P (QC g0 K) a w
  | .skip, K, st, h, g, a, w, hr => wp_skip ⟨g, st, hr, h⟩
  | .label l, K, st, h, g, a, w, hr => wp_label ⟨g, st, hr, h⟩
  | .region id ops draw, K, st, h, g, a, w, hr => by
    simp only [wpX] at h
    cases hcl : (!draw && hasClear ops.toList) with
    | true =>
      rw [hcl] at h
      simp only [cond_true] at h
      have hd : draw = false := by simp only [Bool.and_eq_true, Bool.not_eq_true'] at hcl; exact hcl.1
      subst hd
      split at h
      · rename_i pre t x lo d htl
        obtain ⟨s, cop, hops, hcf⟩ := clearTail_inv htl
        rw [runOpsK_eq] at h
        refine wp_region_list ?_
        rw [hops]
        exact ops_soundT (tail := [s, cop]) hE hL pre st [] _ h (fun g st a w cl hr hk => clearA_sound hcf hk (fun g st a w hr hk => ⟨g, st, hr, hk⟩) g a w hr) g a w hr
      · exact h.elim
    | false =>
    rw [hcl] at h
    simp only [cond_false] at h
    rw [runOpsK_eq] at h
    cases draw with
    | true =>
      simp only [Bool.not_true, Bool.false_or] at h
      exact hD g0 hL ops _ st (K .normal) id h (fun g st a w hr hk => ⟨g, st, hr, hk⟩) g a w hr
    | false =>
      simp only [Bool.not_false, Bool.true_or, cond_true] at h
      refine wp_region_list ?_
      exact ops_sound hE hL ops.toList st [] _ h (fun g st a w cl hr hk => ⟨g, st, hr, hk⟩) g a w hr
  | .seq x y, K, st, h, g, a, w, hr => by
    refine wp_seq ?_
    have := wp_sound hE hD hL hI hB hlp x _ st h g a w hr
    refine Code.wp_mono (fun e a w hq => ?_) this
    cases e with
    | normal =>
      obtain ⟨g', st', hr', hk⟩ := hq
      obtain ⟨g2, st2, hr2, hk2⟩ := joinK_sound hI hB hk hr'
      exact wp_sound hE hD hL hI hB hlp y K st2 hk2 g2 a w hr2
    | exit id => exact hq
    | ret => exact hq
    | goto l => exact hq
    | panic ch => exact hq
    | outgrown => exact hq
  | .cond c x y, K, st, h, g, a, w, hr => by
    simp only [wpX] at h
    split at h
    · rename_i t ht
      have hV := eval_V hr.vl c
      rw [ht] at hV
      refine wp_cond (t := t) (bool_inv hV) ?_
      cases t
      · exact wp_sound hE hD hL hI hB hlp y K st h g a w hr
      · exact wp_sound hE hD hL hI hB hlp x K st h g a w hr
    · exact h.elim
  | .block id b, K, st, h, g, a, w, hr => by
    refine wp_block ?_
    have := wp_sound hE hD hL hI hB hlp b _ st h g a w hr
    refine Code.wp_mono (fun e a w hq => ?_) this
    cases e with
    | normal => exact hq
    | exit id' =>
      obtain ⟨g', st', hr', hk⟩ := hq
      simp only [Exit.inBlock]
      simp only [blockK] at hk
      split
      · rename_i e; rw [if_pos e] at hk; exact ⟨g', st', hr', hk⟩
      · rename_i e; rw [if_neg e] at hk; exact ⟨g', st', hr', hk⟩
    | ret => exact hq
    | goto l => exact hq
    | panic ch => exact hq
    | outgrown => exact hq
  | .loop b, K, st, h, g, a, w, hr => by
    simp only [wpX] at h
    obtain ⟨g1, k1, k2, k3, -, k5⟩ := virtL_sound (E.virt (firstRegion b)) hr.r hr.vl
    have hi : Ids g0 (loopM E.keep (virtL (E.virt (firstRegion b)) (st.fr, st.hp)).2.length (E.forget (firstRegion b)).gc) := by
      cases (E.forget (firstRegion b)).gc with
      | true => exact fun i hi => hI i (by simp only [loopM] at hi; omega)
      | false => exact fun i hi => Ids.of_le hr.le hr.r i (by simp only [loopM] at hi; omega)
    obtain ⟨g', st', hr', hk⟩ := nrm_sound h (g := g1) ⟨hr.le.trans k1, k2, k3, hr.defers⟩ hi hB
    exact (hlp b _ K st' hk hi g' a w hr').loop
  | .scope b, K, st, h, g, a, w, hr => by
    refine wp_scope_straight ?_
    have := wp_sound hE hD hL hI hB hlp b K st h g a w hr
    refine Code.wp_mono (fun e a w hq => ?_) this
    cases e <;> exact hq
  | .exit id, K, st, h, g, a, w, hr => wp_exit ⟨g, st, hr, h⟩
  | .ret, K, st, h, g, a, w, hr => wp_ret ⟨g, st, hr, h⟩
  | .rangeFunc .., K, st, h, g, a, w, hr => by simp [wpX] at h
  | .goto _, K, st, h, g, a, w, hr => by simp [wpX] at h
  | .refuse _, K, st, h, g, a, w, hr => by simp [wpX] at h
theorem wpA_sound {E : En} (hE : EnOK E) (hD : Draws E) {g0 : Gh} (hL : LayAt E.P g0) {c : Code} {K : Ex → St → Prop} {st : St} (hI : Ids g0 E.keep) (hB : Ids g0 E.base) (h : wpA E c K st) {g : Gh} {a : Act} {w : World} (hr : Rel g0 g st a w) : c.wp E.P (QC g0 K) a w := by
  refine wp_sound hE hD hL hI hB (lp := LP E) (fun b m K s hl hi g a w hr => ?_) c K st h g a w hr
  refine hl.out (fun b m K s => Ids g0 m → ∀ g a w, Rel g0 g s a w → Rounds E.P b (QC g0 K) a w) (fun b m K K' s hk hh hi g a w hr => ?_) (fun b m K s hw hi g a w hr => ?_) hi g a w hr
  · intro b' k cs
    obtain ⟨e, a', w', h1, h2⟩ := hh hi g a w hr b' k cs
    refine ⟨e, a', w', ?_, h2⟩
    cases e with
    | normal => obtain ⟨g, st, h3, h4⟩ := h1; exact ⟨g, st, h3, hk _ _ h4⟩
    | exit id => obtain ⟨g, st, h3, h4⟩ := h1; exact ⟨g, st, h3, hk _ _ h4⟩
    | ret => obtain ⟨g, st, h3, h4⟩ := h1; exact ⟨g, st, h3, hk _ _ h4⟩
    | goto l => exact h1
    | panic ch => exact h1
    | outgrown => exact h1
  refine Rounds.round ?_
  have := wp_sound hE hD hL hI hB (lp := fun b m K s => Ids g0 m → ∀ g a w, Rel g0 g s a w → Rounds E.P b (QC g0 K) a w) (fun b m K s hl hi g a w hr => hl hi g a w hr) b _ s hw g a w hr
  refine Code.wp_mono (fun e a w hq => ?_) this
  cases e with
  | normal =>
    obtain ⟨g', st', hr', hk⟩ := hq
    simp only [stepK] at hk
    obtain ⟨g2, st2, hr2, hk2⟩ := nrm_sound hk hr' hi hB
    exact hk2 hi g2 a w hr2
  | exit id => exact hq
  | ret => exact hq
  | goto l => exact hq
  | panic ch => exact hq
  | outgrown => exact hq
end Go.Cx
