/- Summaries written by hand: copies of slices of bytes. -/
import Derived.Test.YtajknlhbfhemlaaDoorCxAv
import Derived.Test.YtajknlhbfhemlaaDoorYiB1
import Derived.Test.YtajknlhbfhemlaaDoorProg
import Derived.LoopN
import Derived.Handy
import Derived.Lib.Slices
import Derived.Lib.Walk
import Derived.Laws.MakeOwn
import Derived.WalkKit
namespace Go.Proofs.YtajknlhbfhemlaaDoor
open Go.Cx Go.Cx.AV Go.RowKit
set_option linter.unusedSimpArgs false
set_option linter.unusedVariables false
noncomputable def EClone : En := enK Tryd.prog (fun _ => none) [5] [] [] [] 0
noncomputable def SClone : Cx.Spec := cloneF 1 2 (.int .u8)
theorem SClone_ok : Sound Tryd.prog 32 SClone := cloneF_ok (E := EClone) ((TblOK.none _).enK _ _ _ _ _) mixed rfl Tryd.func32 (c := Tryd.f32.body.getD .skip) (by kernel_rfl) (by kernel_rfl) (fun xs R => by kernel_rfl) (fun R => by kernel_rfl)
noncomputable def ECloneO : En := enK Tryd.prog (fun _ => none) [5] [] [] [] 1
noncomputable def SCloneO : Cx.Spec := cloneO 5 1 2 (.int .u8)
theorem SCloneO_ok : Sound Tryd.prog 32 SCloneO := cloneO_ok (E := ECloneO) ((TblOK.none _).enK _ _ _ _ _) mixed Tryd.func32 (c := Tryd.f32.body.getD .skip) (by kernel_rfl) (by kernel_rfl) (by decide) (fun xs R => by kernel_rfl) (fun R => by kernel_rfl)
theorem i64w {n : Int} (h0 : -9223372036854775808 ≤ n) (h : n < 9223372036854775808) : IntKind.i64.wrap n = n := by
  simp [IntKind.wrap, IntKind.signed, IntKind.bits]; omega
set_option maxHeartbeats 4000000 in
set_option maxRecDepth 100000 in
theorem own_run (a : Addr) (c b : Nat) (x : Int) (n : Nat) (new : Array Value) (w w1 w2 : World) (hn : n < 70368744177664)
    (hMake : (Instr.makeSlice 22 (.int .i64 0) (.int .i64 ((n : Int) + 3))).run Tryd.prog w = .ok (.slice (some ⟨b, 0, none⟩) 0 (n + 3)) w1)
    (hLoad : (loadCellsFrom a 0 n #[]).run Tryd.prog w1 = .ok new w1)
    (hStore : (storeCells ⟨b, 0, none⟩ new.toList).run Tryd.prog w1 = .ok () w2)
    (hc0 : w2.cell? ⟨b, n, none⟩ = some (.int .u8 0)) (hf0 : w2.frozen? ⟨b, n, none⟩ = false)
    (hc1 : (w2.setCell ⟨b, n, none⟩ (.int .u8 x)).cell? ⟨b, n + 1, none⟩ = some (.int .u8 0)) (hf1 : (w2.setCell ⟨b, n, none⟩ (.int .u8 x)).frozen? ⟨b, n + 1, none⟩ = false)
    (hc2 : ((w2.setCell ⟨b, n, none⟩ (.int .u8 x)).setCell ⟨b, n + 1, none⟩ (.int .u8 x)).cell? ⟨b, n + 2, none⟩ = some (.int .u8 0)) (hf2 : ((w2.setCell ⟨b, n, none⟩ (.int .u8 x)).setCell ⟨b, n + 1, none⟩ (.int .u8 x)).frozen? ⟨b, n + 2, none⟩ = false)
    :
    Calls Tryd.prog 7 #[.slice (some a) n c, .int .u8 x] w fun e w' => e = .returned (.slice (some ⟨b, 0, none⟩) n (n + 3)) ∧ w' = (((w2.setCell ⟨b, n, none⟩ (.int .u8 x)).setCell ⟨b, n + 1, none⟩ (.int .u8 x)).setCell ⟨b, n + 2, none⟩ (.int .u8 x)) := by
  have w3 : IntKind.i64.wrap ((n : Int) + 3) = (n : Int) + 3 := i64w (by omega) (by omega)
  have w4 : IntKind.i64.wrap ((n : Int) + 1) = ((n + 1 : Nat) : Int) := by rw [i64w (by omega) (by omega)]; omega
  have w5 : IntKind.i64.wrap (((n + 1 : Nat) : Int) + 1) = ((n + 2 : Nat) : Int) := by rw [i64w (by omega) (by omega)]; omega
  have w6 : IntKind.i64.wrap (((n + 2 : Nat) : Int) + 1) = ((n + 3 : Nat) : Int) := by rw [i64w (by omega) (by omega)]; omega
  go_enter Tryd.func7, Tryd.ntmps7
  go_wp2
  refine wp_loop_rounds 5 ?_
  rw [rounds_succ]
  go_wp2
  rw [rounds_succ]
  go_wp2
  rw [rounds_succ]
  go_wp2
  rw [rounds_succ]
  go_wp2
  go_ret
  exact ⟨rfl, rfl⟩
set_option maxHeartbeats 4000000 in
set_option maxRecDepth 100000 in
theorem own_run0 (b : Nat) (x : Int) (w w2 : World)
    (hMake : (Instr.makeSlice 22 (.int .i64 0) (.int .i64 3)).run Tryd.prog w = .ok (.slice (some ⟨b, 0, none⟩) 0 3) w2)
    (hc0 : w2.cell? ⟨b, 0, none⟩ = some (.int .u8 0)) (hf0 : w2.frozen? ⟨b, 0, none⟩ = false)
    (hc1 : (w2.setCell ⟨b, 0, none⟩ (.int .u8 x)).cell? ⟨b, 1, none⟩ = some (.int .u8 0)) (hf1 : (w2.setCell ⟨b, 0, none⟩ (.int .u8 x)).frozen? ⟨b, 1, none⟩ = false)
    (hc2 : ((w2.setCell ⟨b, 0, none⟩ (.int .u8 x)).setCell ⟨b, 1, none⟩ (.int .u8 x)).cell? ⟨b, 2, none⟩ = some (.int .u8 0)) (hf2 : ((w2.setCell ⟨b, 0, none⟩ (.int .u8 x)).setCell ⟨b, 1, none⟩ (.int .u8 x)).frozen? ⟨b, 2, none⟩ = false)
    :
    Calls Tryd.prog 7 #[.slice none 0 0, .int .u8 x] w fun e w' => e = .returned (.slice (some ⟨b, 0, none⟩) 0 3) ∧ w' = (((w2.setCell ⟨b, 0, none⟩ (.int .u8 x)).setCell ⟨b, 1, none⟩ (.int .u8 x)).setCell ⟨b, 2, none⟩ (.int .u8 x)) := by
  go_enter Tryd.func7, Tryd.ntmps7
  go_wp2
  refine wp_loop_rounds 5 ?_
  rw [rounds_succ]
  go_wp2
  rw [rounds_succ]
  go_wp2
  rw [rounds_succ]
  go_wp2
  rw [rounds_succ]
  go_wp2
  go_ret
  exact ⟨rfl, rfl⟩
theorem made_u8 (m : Nat) : (madeCells #[.int .u8 0] m).toList = List.replicate m (.int .u8 0) := by
  apply List.ext_getElem?
  intro j
  simp only [madeCells, Array.toList_map, List.getElem?_map, List.getElem?_replicate, Array.getElem?_toList, Array.getElem?_range]
  split <;> simp [Nat.mod_one]
theorem own_world (x : Int) (n : Nat) (new : List Value) (hnew : new.length = n) (w1 : World) (b : Nat) (hb : w1.heap[b]? = some (.cells (madeCells #[.int .u8 0] (n + 3)) 5 (0, 0))) :
    let w2 := w1.setCells b 0 new
    w2.cell? ⟨b, n, none⟩ = some (.int .u8 0) ∧ w2.frozen? ⟨b, n, none⟩ = false ∧
    (w2.setCell ⟨b, n, none⟩ (.int .u8 x)).cell? ⟨b, n + 1, none⟩ = some (.int .u8 0) ∧ (w2.setCell ⟨b, n, none⟩ (.int .u8 x)).frozen? ⟨b, n + 1, none⟩ = false ∧
    ((w2.setCell ⟨b, n, none⟩ (.int .u8 x)).setCell ⟨b, n + 1, none⟩ (.int .u8 x)).cell? ⟨b, n + 2, none⟩ = some (.int .u8 0) ∧ ((w2.setCell ⟨b, n, none⟩ (.int .u8 x)).setCell ⟨b, n + 1, none⟩ (.int .u8 x)).frozen? ⟨b, n + 2, none⟩ = false ∧
    ∃ vs : Array Value, ((((w2.setCell ⟨b, n, none⟩ (.int .u8 x)).setCell ⟨b, n + 1, none⟩ (.int .u8 x)).setCell ⟨b, n + 2, none⟩ (.int .u8 x))).heap[b]? = some (.cells vs 5 (0, 0)) ∧ vs.toList = new ++ [.int .u8 x, .int .u8 x, .int .u8 x] := by
  intro w2
  have e0 := heap_setCells b new 0 w1 _ 5 (0, 0) hb
  have hC : (madeCells #[.int .u8 0] (n + 3)).size = n + 3 := by rw [← Array.length_toList, made_u8]; simp
  have l0 : (putR (madeCells #[.int .u8 0] (n + 3)) 0 new).toList = new ++ [.int .u8 0, .int .u8 0, .int .u8 0] := by
    rw [putR_list _ _ _ (by rw [hC]; omega), made_u8, hnew]
    simp [List.drop_replicate]
  generalize hD0 : putR (madeCells #[.int .u8 0] (n + 3)) 0 new = D0 at e0 l0
  have e1 := heap_setCells b [.int .u8 x] n w2 D0 5 (0, 0) e0
  have l1 : (putR D0 n [.int .u8 x]).toList = new ++ [.int .u8 x, .int .u8 0, .int .u8 0] := by
    show (D0.setIfInBounds n (.int .u8 x)).toList = _
    rw [Array.toList_setIfInBounds, l0, ← hnew]; simp [List.set_append]
  generalize hD1 : putR D0 n [.int .u8 x] = D1 at e1 l1
  have e2 := heap_setCells b [.int .u8 x] (n + 1) _ D1 5 (0, 0) e1
  have l2 : (putR D1 (n + 1) [.int .u8 x]).toList = new ++ [.int .u8 x, .int .u8 x, .int .u8 0] := by
    show (D1.setIfInBounds (n + 1) (.int .u8 x)).toList = _
    rw [Array.toList_setIfInBounds, l1, ← hnew]; simp [List.set_append]
  generalize hD2 : putR D1 (n + 1) [.int .u8 x] = D2 at e2 l2
  have e3 := heap_setCells b [.int .u8 x] (n + 2) _ D2 5 (0, 0) e2
  have l3 : (putR D2 (n + 2) [.int .u8 x]).toList = new ++ [.int .u8 x, .int .u8 x, .int .u8 x] := by
    show (D2.setIfInBounds (n + 2) (.int .u8 x)).toList = _
    rw [Array.toList_setIfInBounds, l2, ← hnew]; simp [List.set_append]
  have c : ∀ (W : World) (D : Array Value) (k : Nat) (v : Value), W.heap[b]? = some (.cells D 5 (0, 0)) → D.toList[k]? = some v → W.cell? ⟨b, k, none⟩ = some v := by
    intro W D k v h1 h2
    simp only [World.cell?, h1]
    simpa using h2
  refine ⟨c _ _ _ _ e0 (by rw [l0, ← hnew]; simp), frozen_new e0, c _ _ _ _ e1 (by rw [l1, ← hnew]; simp), frozen_new e1, c _ _ _ _ e2 (by rw [l2, ← hnew]; simp), frozen_new e2, _, e3, l3⟩
noncomputable def SOwn : Cx.Spec := heapS (patH [.leaf (.slice 1 (.int .u8)), .leaf (.int .u8)] [] fun ls => .c (decide ((getXs (ls.getD 0 .junk)).length * 4 < 70368744177600)) (.r (.fslice 1 (.int .u8) (getXs (ls.getD 0 .junk)) [.int .u8 (getI (ls.getD 1 .junk)), .int .u8 (getI (ls.getD 1 .junk)), .int .u8 (getI (ls.getD 1 .junk))], [])) .bad)
set_option maxRecDepth 100000 in
theorem SOwn_ok : Sound Tryd.prog 7 SOwn := by
  refine sound_heap_walk Tryd.func7 (c := Tryd.f7.body.getD .skip) (by kernel_rfl) (by kernel_rfl) ?_
  intro args hp r hp2 hF hlen g w vs hR hv
  unfold patH at hF
  split at hF
  · rename_i X Y hx hy
    obtain ⟨h1, h2⟩ := chkT_inv hF
    cases hp with
    | cons o l => simp [matH] at hy
    | nil =>
      dsimp only at h2
      have hv1 : VL g [.slice 1 (.int .u8) (getXs ((X.1 ++ Y.1).getD 0 .junk)) .ro, .int .u8 (getI ((X.1 ++ Y.1).getD 1 .junk))] vs := ((matL_V (ls := X.1 ++ Y.1) (g := g) _ args hx).2 0 (Stand.self _).left h1.left).1 vs hv
      generalize (X.1 ++ Y.1).getD 0 .junk = l0 at h2 hv1
      generalize getI ((X.1 ++ Y.1).getD 1 .junk) = x at h2 hv1
      generalize getXs l0 = xs at h2 hv1
      cases hb : decide (xs.length * 4 < 70368744177600) with
      | false => rw [hb] at h2; simp [Tr.val, Tr.fold] at h2
      | true =>
        rw [hb] at h2
        simp only [Tr.val, Tr.fold, cond_true, Option.some.injEq, Prod.mk.injEq] at h2
        obtain ⟨rfl, rfl⟩ := h2
        simp only [decide_eq_true_eq] at hb
        obtain ⟨v1, q, rfl, hs, hv2⟩ := hv1.cons_inv
        obtain ⟨v2, q, rfl, hi, hv3⟩ := hv2.cons_inv
        obtain rfl := hv3.nil_inv
        obtain rfl := int_inv hi
        have E := slice_els hR hs
        obtain ⟨new, hnv, hload⟩ := (els_src (P := Tryd.prog) E).cells
        have hw8 : ∀ y ∈ xs, (cells y).length = 1 := fun y hy => (E.el y hy).2.1
        have hnl : new.length = xs.length := by rw [← hnv.1, flat_len hw8, Nat.mul_one]
        obtain ⟨ti, hti, hz, hsz, hby⟩ : ∃ i, Tryd.prog.info? 5 = some i ∧ i.zero = some (.int .u8 0) ∧ i.size = 1 ∧ i.bytes = 1 := by
          obtain ⟨i, hi, hp⟩ := Option.map_eq_some_iff.1 (show (Tryd.prog.info? 5).map (fun i => (i.zero, i.size, i.bytes)) = some (some (.int .u8 0), 1, 1) by kernel_rfl)
          simp only [Prod.mk.injEq] at hp
          exact ⟨i, hi, hp.1, hp.2.1, hp.2.2⟩
        have tS8 : Tryd.prog.underlying 22 = some (.slice 5) := by kernel_rfl
        have hmk := run_make (P := Tryd.prog) w 22 5 ti (.int .u8 0) tS8 hti hz .i64 .i64 0 ((xs.length : Int) + 3) (by omega) (by omega) (by rw [hby]; omega) (by omega)
        have e3 : ((xs.length : Int) + 3).toNat = xs.length + 3 := by omega
        rw [hsz, e3, Nat.mul_one] at hmk
        have hzc : (Value.int .u8 0).cells = #[.int .u8 0] := rfl
        rw [hzc] at hmk
        have hbk : (w.alloc (.cells (madeCells #[.int .u8 0] (xs.length + 3)) 5)).heap[w.heap.size]? = some (.cells (madeCells #[.int .u8 0] (xs.length + 3)) 5 (0, 0)) := heap_new w _
        have hC : (madeCells #[.int .u8 0] (xs.length + 3)).size = xs.length + 3 := by rw [← Array.length_toList, made_u8]; simp
        have h1c : ∀ v ∈ new, v.oneCell' = true := one_vals (by
          simp only [flat, List.all_flatMap, List.all_eq_true]
          intro y hy c hc
          exact List.all_eq_true.1 (E.el y hy).2.2 c hc) hnv
        have hst := store_own (P := Tryd.prog) w.heap.size 0 hbk (fun o _ => frozen_new hbk) new (by rw [hC]; omega) h1c
        obtain ⟨k0, k1, k2, k3, k4, k5, V3, kv, kl⟩ := own_world x xs.length new hnl _ _ hbk
        -- the end
        have fin : ∀ e w', (e = Ending.returned (.slice (some ⟨w.heap.size, 0, none⟩) xs.length (xs.length + 3)) ∧ w' = (((((w.alloc (.cells (madeCells #[.int .u8 0] (xs.length + 3)) 5)).setCells w.heap.size 0 new).setCell ⟨w.heap.size, xs.length, none⟩ (.int .u8 x)).setCell ⟨w.heap.size, xs.length + 1, none⟩ (.int .u8 x)).setCell ⟨w.heap.size, xs.length + 2, none⟩ (.int .u8 x))) →
            ∃ v g', e = .returned v ∧ g.le g' ∧ R g' w' [] ∧ V g' (.fslice 1 (.int .u8) xs [.int .u8 x, .int .u8 x, .int .u8 x]) v := by
          rintro e w' ⟨rfl, rfl⟩
          have b0 : Below w.heap.size w (w.alloc (.cells (madeCells #[.int .u8 0] (xs.length + 3)) 5)) := (Below.refl _ _).alloc (Nat.le_refl _) _
          have bs : ∀ (W : World) (o : Nat) (l : List Value), Below w.heap.size w W → Below w.heap.size w (W.setCells w.heap.size o l) := by
            intro W o l h
            obtain ⟨r1, r2, r3, r4⟩ := rest_setCells w.heap.size l o W
            exact ⟨r1.trans h.os, r2.trans h.tape, r3.trans h.output, by rw [r4]; exact h.size, fun k hk => (heap_setCells_other _ _ _ _ _ (by omega)).trans (h.block k hk)⟩
          have bel := bs _ (xs.length + 2) [.int .u8 x] (bs _ (xs.length + 1) [.int .u8 x] (bs _ xs.length [.int .u8 x] (bs _ 0 new b0)))
          obtain ⟨g', hle, hR', hat⟩ := hR.addImm bel kv
          refine ⟨_, g', rfl, hle, hR', ?_⟩
          have hv3 : VL g' [AV.int .u8 x, .int .u8 x, .int .u8 x] [.int .u8 x, .int .u8 x, .int .u8 x] := .cons (.int _ _) (.cons (.int _ _) (.cons (.int _ _) (VL.nil _)))
          have hfl : flat (xs ++ [AV.int .u8 x, .int .u8 x, .int .u8 x]) = flat xs ++ [AV.int .u8 x, .int .u8 x, .int .u8 x] := by rw [flat_append]; rfl
          have hall : VL g' (flat (xs ++ [AV.int .u8 x, .int .u8 x, .int .u8 x])) V3.toList := by rw [hfl, kl]; exact (hnv.mono hle).append hv3
          have hel : ∀ y ∈ xs ++ [AV.int .u8 x, .int .u8 x, .int .u8 x], reshape (.int .u8) y = y ∧ (cells y).length = 1 ∧ (cells y).all oneCell := by
            intro y hy
            simp only [List.mem_append, List.mem_cons, List.not_mem_nil, or_false] at hy
            rcases hy with hy | hy | hy | hy
            · exact E.el y hy
            all_goals (subst hy; exact ⟨rfl, rfl, rfl⟩)
          have hl3 : (xs ++ [AV.int .u8 x, .int .u8 x, .int .u8 x]).length = xs.length + 3 := by simp
          have := V.fslice 1 (.int .u8) xs [AV.int .u8 x, .int .u8 x, .int .u8 x] V3.toList w.heap.size 0 hall.1 hall.2 hat hel (by rw [hl3]; unfold TOP; omega)
          rw [hl3] at this
          exact this
        obtain ⟨a, c, rfl, hc1, hc2, hc3⟩ := E.some
        cases a with
        | none =>
          obtain ⟨hx0, hc0⟩ := hc2 rfl
          subst hx0 hc0
          have hn0 : new = [] := List.eq_nil_of_length_eq_zero hnl
          subst hn0
          exact Calls.mono (own_run0 w.heap.size x w _ hmk k0 k1 k2 k3 k4 k5) fin
        | some a =>
          have hL := hload (w.alloc (.cells (madeCells #[.int .u8 0] (xs.length + 3)) 5)) (fun b o v h => by
            have : b < w.heap.size := by
              rcases Nat.lt_or_ge b w.heap.size with h' | h'
              · exact h'
              · simp [World.cell?, Array.getElem?_eq_none h'] at h
            have e := Lib.alloc_old w (.cells (madeCells #[.int .u8 0] (xs.length + 3)) 5) b this
            simp only [World.cell?] at h ⊢
            rw [e]; exact h)
          have hL2 : (loadCellsFrom a 0 xs.length #[]).run Tryd.prog (w.alloc (.cells (madeCells #[.int .u8 0] (xs.length + 3)) 5)) = .ok (Array.mk new) (w.alloc (.cells (madeCells #[.int .u8 0] (xs.length + 3)) 5)) := by
            have : Builtin.firstCells 1 xs.length (.slice (some a) xs.length c) = loadCellsFrom a 0 xs.length #[] := by
              show loadCells a (xs.length * 1) = _
              rw [Nat.mul_one]; rfl
            rw [← this]; exact hL
          exact Calls.mono (own_run a c w.heap.size x xs.length (Array.mk new) w _ _ (by omega) hmk hL2 hst k0 k1 k2 k3 k4 k5) fin
  · simp [Tr.val, Tr.fold] at hF
end Go.Proofs.YtajknlhbfhemlaaDoor
