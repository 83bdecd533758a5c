/- A part of the proof. -/
import Derived.Test.YtbgklljidmoahaaDoorYdB1
import Derived.Test.YtbgklljidmoahaaDoorCxAv
import Derived.Shelf.RegionOpenPlain
import Derived.Lib.Builder
import Derived.Lib.UnsafeStr
import Derived.WalkKit
import Derived.Laws.Externs
namespace Go.Proofs.YtbgklljidmoahaaDoor
open Go.Cx Go.Cx.AV Go.RowKit

set_option maxHeartbeats 1000000 in
set_option maxRecDepth 100000 in
theorem copyCheck_fresh (b : Nat) (w : World) (h0 : w.cell? ⟨b, 0, none⟩ = some (.pointer none)) (hsh : w.shape? b = some (51, 2)) (hfz : w.frozen? ⟨b, 0, none⟩ = false) :
    Calls Tryd.prog 39 #[.pointer (some ⟨b, 0, none⟩)] w fun e w' => e = .returned (.tuple #[]) ∧ w' = w.setCell ⟨b, 0, none⟩ (.pointer (some ⟨b, 0, none⟩)) := by
  have t90 : Tryd.prog.underlying 49 = some (.pointer 51) := by kernel_rfl
  have t102 : Tryd.prog.underlying 75 = some .unsafePointer := by kernel_rfl
  obtain ⟨j, hj, hjs⟩ := Option.map_eq_some_iff.1 (show (Tryd.prog.info? 51).map (·.size) = some 2 by kernel_rfl)
  go_enter Tryd.func39, Tryd.ntmps39
  go_wp2
  rw [Lib.run_to_unsafe w ⟨b, 0, none⟩ t90 t102 hj (by rw [hjs]; decide) hsh (Nat.zero_lt_succ 1)]
  simp only [Result.andThen]
  rw [Oper.upon_value]
  go_wp2
  rw [run_callFunc_extern Tryd.func49 (by kernel_rfl) (by kernel_rfl) (by kernel_rfl) (e := Extern.AbiNoEscape.same) (by kernel_rfl)]
  rw [Lib.run_noEscape]
  simp only [Result.andThen]
  rw [Oper.upon_value]
  go_wp2
  rw [Lib.run_from_unsafe w ⟨b, 0, none⟩ t102 t90 hj hsh (by kernel_rfl)]
  simp only [Result.andThen]
  rw [Oper.upon_value]
  go_wp2
  go_end0
  exact ⟨rfl, rfl⟩

set_option maxHeartbeats 1000000 in
set_option maxRecDepth 100000 in
theorem copyCheck_used (b : Nat) (w : World) (h0 : w.cell? ⟨b, 0, none⟩ = some (.pointer (some ⟨b, 0, none⟩))) :
    Calls Tryd.prog 39 #[.pointer (some ⟨b, 0, none⟩)] w fun e w' => e = .returned (.tuple #[]) ∧ w' = w := by
  have t90 : Tryd.prog.underlying 49 = some (.pointer 51) := by kernel_rfl
  obtain ⟨j, hj⟩ := Option.isSome_iff_exists.1 (show (Tryd.prog.info? 51).isSome = true by kernel_rfl)
  go_enter Tryd.func39, Tryd.ntmps39
  go_wp2
  rw [Lib.run_neq_ptr_same w ⟨b, 0, none⟩ t90 hj]
  simp only [Result.andThen]
  rw [Oper.upon_value]
  go_wp2
  go_end0
  exact ⟨rfl, rfl⟩

/-- copyCheck: the builder knows where it lies. -/
def F65 : List AV → List Ob → Tr (AV × List Ob)
  | [.ptr 0 0], .fix 51 [.nilptr, b] :: rest => .r (.tuple [], .fix 51 [.ptr 0 0, b] :: rest)
  | [.ptr 0 0], .fix 51 [.ptr 0 0, b] :: rest => .r (.tuple [], .fix 51 [.ptr 0 0, b] :: rest)
  | _, _ => .bad
def S65 : Cx.Spec := heapS F65

theorem fix_two {g : Gh} {w : World} {hp : List Ob} (h : R g w hp) {id ty : Nat} {a b : AV} (he : hp[id]? = some (.fix ty [a, b])) : ∃ blk va vb fz, g.blk id = some blk ∧ g.free blk ∧ w.heap[blk]? = some (.cells #[va, vb] ty fz) ∧ V g a va ∧ V g b vb ∧
    (∀ o, o < 2 → w.frozen? ⟨blk, o, none⟩ = false) := by
  have k := h.objs id
  rw [he] at k
  obtain ⟨k1, blk, vs, fz, k2, k3, k4, k5, k6, k7, k8⟩ := k
  obtain ⟨va, l1, e1, h1, h2⟩ := k5.cons_inv
  obtain ⟨vb, l2, e2, h3, h4⟩ := h2.cons_inv
  have e3 := h4.nil_inv
  subst e2 e3
  have : vs = #[va, vb] := by rw [← Array.toArray_toList (xs := vs), e1]
  subst this
  exact ⟨blk, va, vb, fz, k2, k3, k4, h1, h3, k8⟩

theorem ptr_V {g : Gh} {id off : Nat} {v : Value} (h : V g (.ptr id off) v) {b : Nat} (hb : g.blk id = some b) : v = .pointer (some ⟨b, off, none⟩) := by
  cases h with
  | ptr _ _ b' hb' => rw [hb] at hb'; cases hb'; rfl

theorem S65_ok : Sound Tryd.prog 39 S65 := by
  refine sound_heap_walk Tryd.func39 (c := Tryd.f39.body.getD .skip) (by kernel_rfl) (by kernel_rfl) ?_
  intro args hp r hp2 hF _ g w vs hR hv
  unfold F65 at hF
  split at hF
  · rename_i b rest
    simp only [Tr.val, Tr.fold, Option.some.injEq, Prod.mk.injEq] at hF
    obtain ⟨rfl, rfl⟩ := hF
    obtain ⟨blk, va, vb, fz, k1, k2, k3, k4, k5, k6⟩ := fix_two hR (id := 0) rfl
    obtain ⟨v, l, rfl, h1, h2⟩ := hv.cons_inv
    obtain rfl := h2.nil_inv
    obtain rfl := ptr_V h1 k1
    cases k4
    refine (copyCheck_fresh blk w (by simp [World.cell?, k3]) (by simp [World.shape?, k3]) (k6 0 (by omega))).mono ?_
    rintro e w' ⟨rfl, rfl⟩
    refine ⟨_, g, rfl, Gh.le.refl g, hR.setFix (id := 0) rfl (v := .ptr 0 0) (.ptr 0 0 blk k1) rfl k1, .tuple [] #[] rfl (fun i c v e => by simp at e)⟩
  · rename_i b rest
    simp only [Tr.val, Tr.fold, Option.some.injEq, Prod.mk.injEq] at hF
    obtain ⟨rfl, rfl⟩ := hF
    obtain ⟨blk, va, vb, fz, k1, k2, k3, k4, k5, k6⟩ := fix_two hR (id := 0) rfl
    obtain ⟨v, l, rfl, h1, h2⟩ := hv.cons_inv
    obtain rfl := h2.nil_inv
    obtain rfl := ptr_V h1 k1
    obtain rfl := ptr_V k4 k1
    refine (copyCheck_used blk w (by simp [World.cell?, k3])).mono ?_
    rintro e w' ⟨rfl, rfl⟩
    exact ⟨_, g, rfl, Gh.le.refl g, hR, .tuple [] #[] rfl (fun i c v e => by simp at e)⟩
  · simp [Tr.val, Tr.fold] at hF

theorem unsafeString_none (q : Option Addr) (W : World) : (Builtin.unsafeString_ #[63, 3] 9 #[.pointer q, .int .i64 0]).run Tryd.prog W = .ok (.string .empty) W := Lib.run_unsafeString_none W 63 3 9 q

set_option maxHeartbeats 2000000 in
set_option maxRecDepth 100000 in
theorem String_nil (b : Nat) (p : Value) (fz : Nat × Nat) (w : World) (hbk : w.heap[b]? = some (.cells #[p, .slice none 0 0] 51 fz)) :
    Calls Tryd.prog 31 #[.pointer (some ⟨b, 0, none⟩)] w fun e w' => e = .returned (.string ⟨#[]⟩) ∧ w' = w.drew := by
  have hUS := unsafeString_none
  have c1 : w.drew.cell? ⟨b, 1, none⟩ = some (.slice none 0 0) := by
    have : w.drew.heap[b]? = some (.cells #[p, .slice none 0 0] 51 fz) := hbk
    rw [Lib.cell_of_heap this]; rfl
  have hSD : (Builtin.unsafeSliceData_ #[30] 63 #[.slice none 0 0]).run Tryd.prog w.drew = .ok (.pointer none) w.drew := rfl
  have mixed := mixed
  go_enter Tryd.func31, Tryd.ntmps31
  go_wp2
  go_region_o
  all_goals (go_wp2; go_ret; exact ⟨rfl, rfl⟩)

set_option maxHeartbeats 2000000 in
set_option maxRecDepth 100000 in
theorem String_noroom (b g : Nat) (p : Value) (cur : Array Value) (fz fz2 : Nat × Nat) (w : World) (hbk : w.heap[b]? = some (.cells #[p, .slice (some ⟨g, 0, none⟩) 0 0] 51 fz)) (hg : w.heap[g]? = some (.cells cur 5 fz2)) :
    Calls Tryd.prog 31 #[.pointer (some ⟨b, 0, none⟩)] w fun e w' => e = .returned (.string ⟨#[]⟩) ∧ w' = w.drew.alloc (.view ⟨g, 0, none⟩ 5) := by
  have hUS := unsafeString_none
  have hlt : b < w.heap.size := by
    rcases Nat.lt_or_ge b w.heap.size with h' | h'
    · exact h'
    · simp [Array.getElem?_eq_none h'] at hbk
  have c1 : w.drew.cell? ⟨b, 1, none⟩ = some (.slice (some ⟨g, 0, none⟩) 0 0) := by
    have : w.drew.heap[b]? = some (.cells #[p, .slice (some ⟨g, 0, none⟩) 0 0] 51 fz) := hbk
    rw [Lib.cell_of_heap this]; rfl
  have hSD : (Builtin.unsafeSliceData_ #[30] 63 #[.slice (some ⟨g, 0, none⟩) 0 0]).run Tryd.prog w.drew = .ok (.pointer (some ⟨w.drew.heap.size, 0, none⟩)) (w.drew.alloc (.view ⟨g, 0, none⟩ 5)) :=
    Lib.run_unsafeSliceData_zero w.drew _ _ 5 (by kernel_rfl) ⟨g, 0, none⟩ 0 (5, cur.size) (by have hg' : w.drew.heap[g]? = some (.cells cur 5 fz2) := hg; simp [World.shape?, hg'])
  have c2 : (w.drew.alloc (.view ⟨g, 0, none⟩ 5)).cell? ⟨b, 1, none⟩ = some (.slice (some ⟨g, 0, none⟩) 0 0) := by
    have : (w.drew.alloc (.view ⟨g, 0, none⟩ 5)).heap[b]? = _ := (Lib.alloc_old w.drew _ b hlt).trans hbk
    rw [Lib.cell_of_heap this]; rfl
  have c3 : (w.alloc (.view ⟨g, 0, none⟩ 5)).drew.cell? ⟨b, 1, none⟩ = some (.slice (some ⟨g, 0, none⟩) 0 0) := c2
  have c0 : w.cell? ⟨b, 1, none⟩ = some (.slice (some ⟨g, 0, none⟩) 0 0) := c1
  have mixed := mixed
  go_enter Tryd.func31, Tryd.ntmps31
  go_wp2
  go_region_o
  all_goals (go_wp2; go_ret; exact ⟨rfl, rfl⟩)

set_option maxHeartbeats 2000000 in
set_option maxRecDepth 100000 in
theorem String_room (b g cap : Nat) (p : Value) (fz : Nat × Nat) (w : World) (hc0 : cap ≠ 0) (hbk : w.heap[b]? = some (.cells #[p, .slice (some ⟨g, 0, none⟩) 0 cap] 51 fz)) :
    Calls Tryd.prog 31 #[.pointer (some ⟨b, 0, none⟩)] w fun e w' => e = .returned (.string ⟨#[]⟩) ∧ w' = w.drew := by
  have hUS := unsafeString_none
  have c1 : w.drew.cell? ⟨b, 1, none⟩ = some (.slice (some ⟨g, 0, none⟩) 0 cap) := by
    have : w.drew.heap[b]? = some (.cells #[p, .slice (some ⟨g, 0, none⟩) 0 cap] 51 fz) := hbk
    rw [Lib.cell_of_heap this]; rfl
  have hSD : (Builtin.unsafeSliceData_ #[30] 63 #[.slice (some ⟨g, 0, none⟩) 0 cap]).run Tryd.prog w.drew = .ok (.pointer (some ⟨g, 0, none⟩)) w.drew :=
    Lib.run_unsafeSliceData_row _ _ _ _ _ _ hc0
  clear hc0
  have mixed := mixed
  go_enter Tryd.func31, Tryd.ntmps31
  go_wp2
  go_region_o
  all_goals (go_wp2; go_ret; exact ⟨rfl, rfl⟩)

set_option maxHeartbeats 2000000 in
set_option maxRecDepth 100000 in
theorem String_some (b g cap : Nat) (p : Value) (cur : Array Value) (fz fz2 : Nat × Nat) (l : List Int) (w : World) (h0 : l ≠ []) (hbk : w.heap[b]? = some (.cells #[p, .slice (some ⟨g, 0, none⟩) l.length cap] 51 fz)) (hg : w.heap[g]? = some (.cells cur 5 fz2))
    (hcap : l.length ≤ cap) (hcs : l.length ≤ cur.size) (hlim : l.length < TOP) (hcell : ∀ (j : Nat) n, l[j]? = some n → cur[j]? = some (.int .u8 n)) :
    Calls Tryd.prog 31 #[.pointer (some ⟨b, 0, none⟩)] w fun e w' => e = .returned (.string ⟨(l.map fun n => UInt8.ofNat n.toNat).toArray⟩) ∧ w' = w.drew.freeze ⟨g, 0, none⟩ l.length := by
  have hl0 : l.length ≠ 0 := by simpa using h0
  have c1 : w.drew.cell? ⟨b, 1, none⟩ = some (.slice (some ⟨g, 0, none⟩) l.length cap) := by
    have : w.drew.heap[b]? = some (.cells #[p, .slice (some ⟨g, 0, none⟩) l.length cap] 51 fz) := hbk
    rw [Lib.cell_of_heap this]; rfl
  have hSD : (Builtin.unsafeSliceData_ #[30] 63 #[.slice (some ⟨g, 0, none⟩) l.length cap]).run Tryd.prog w.drew = .ok (.pointer (some ⟨g, 0, none⟩)) w.drew :=
    Lib.run_unsafeSliceData_row _ _ _ _ _ _ (by omega)
  have hUS : (Builtin.unsafeString_ #[63, 3] 9 #[.pointer (some ⟨g, 0, none⟩), .int .i64 l.length]).run Tryd.prog w.drew = .ok (.string ⟨(l.map fun n => UInt8.ofNat n.toNat).toArray⟩) (w.drew.freeze ⟨g, 0, none⟩ l.length) := by
    refine run_unsafeString_row' w.drew 63 3 9 5 (by kernel_rfl) (by kernel_rfl) g cur.size (by have hg' : w.drew.heap[g]? = some (.cells cur 5 fz2) := hg; simp [World.shape?, hg']) l h0 hcs (by unfold TOP at hlim; omega) ?_
    intro j x hx
    have hg' : w.drew.heap[g]? = some (.cells cur 5 fz2) := hg
    rw [add_none, Nat.zero_add]
    simp only [World.cell?, hg']
    exact hcell j x hx
  have mixed := mixed
  clear hcell hcs hcap hlim hl0 h0
  go_enter Tryd.func31, Tryd.ntmps31
  go_wp2
  go_region_o
  all_goals (go_wp2; go_ret; exact ⟨rfl, rfl⟩)

/-- String: the builder's bytes; its buffer is given up. -/
def F60 : List AV → List Ob → Tr (AV × List Ob)
  | [.ptr 0 0], [.fix 51 [p, .oslice 1 0 n], .grow 5 0 1 (.int .u8) xs] => .c (n == xs.length) (.r (.str (bytesOf xs), [.fix 51 [p, .slice 1 (.int .u8) xs .ro], .dead])) .bad
  | _, _ => .bad
def S60 : Cx.Spec := heapS F60

theorem S60_ok : Sound Tryd.prog 31 S60 := by
  refine sound_heap_walk Tryd.func31 (c := Tryd.f31.body.getD .skip) (by kernel_rfl) (by kernel_rfl) ?_
  intro args hp r hp2 hF hlen g w vs hR hv
  clear hlen
  unfold F60 at hF
  split at hF
  · rename_i p n xs
    cases hn : (n == xs.length) with
    | false => rw [hn] at hF; simp [Tr.val, Tr.fold] at hF
    | true =>
      rw [hn] at hF
      simp only [Tr.val, Tr.fold, cond_true, Option.some.injEq, Prod.mk.injEq] at hF
      obtain ⟨rfl, rfl⟩ := hF
      have hn : n = xs.length := by simpa using hn
      subst hn
      obtain ⟨blk, va, vb, fz, k1, k2, k3, k4, k5, k6⟩ := fix_two hR (id := 0) rfl
      obtain ⟨v, l, rfl, h1, h2⟩ := hv.cons_inv
      obtain rfl := h2.nil_inv
      obtain rfl := ptr_V h1 k1
      obtain ⟨g', j1, j2, j3, j4⟩ := hR.give (id := 1) rfl
      have j5 := R.weakFix (cs' := [p, .slice 1 (.int .u8) xs .ro]) j2 (j := 0) rfl (fun vs hvl => by
        obtain ⟨x, l, rfl, a1, a2⟩ := hvl.cons_inv
        obtain ⟨y, l, rfl, a3, a4⟩ := a2.cons_inv
        exact VL.cons a1 (VL.cons (j3 _ _ j4 a3) a4)) (fun ho c hc => by
          simp only [List.mem_cons, List.not_mem_nil, or_false] at hc
          rcases hc with rfl | rfl
          · exact ho c (by simp)
          · rfl)
      have jd : R g' w [.fix 51 [p, .slice 1 (.int .u8) xs .ro], .dead] := j5.deaden
      have fin : ∀ (w' : World) (s : ByteArray), s = ⟨⟨bytesOf xs⟩⟩ → xs.length < TOP → R g' w' [.fix 51 [p, .slice 1 (.int .u8) xs .ro], .dead] →
          ∃ v g', Ending.returned (.string s) = .returned v ∧ g.le g' ∧ R g' w' [.fix 51 [p, .slice 1 (.int .u8) xs .ro], .dead] ∧ V g' (.str (bytesOf xs)) v := by
        rintro w' s rfl hl hR'
        exact ⟨_, g', rfl, j1, hR', .str _ (by simpa [bytesOf] using hl)⟩
      rcases grow_bytes hR (id := 1) rfl k5 with ⟨rfl, rfl⟩ | ⟨gb, c, cur, fz2, rfl, b1, b2, b3, b4, b5, b6⟩
      · refine (String_nil blk va fz w k3).mono ?_
        rintro e w' ⟨rfl, rfl⟩
        exact fin _ _ rfl (by decide) jd.drew
      · cases xs with
        | nil =>
          by_cases hc : c = 0
          · subst hc
            refine (String_noroom blk gb va cur fz fz2 w k3 b1).mono ?_
            rintro e w' ⟨rfl, rfl⟩
            exact fin _ _ rfl (by decide) (jd.drew.alloc _)
          · refine (String_room blk gb c va fz w hc k3).mono ?_
            rintro e w' ⟨rfl, rfl⟩
            exact fin _ _ rfl (by decide) jd.drew
        | cons x xs =>
          have k3' : w.heap[blk]? = some (.cells #[va, .slice (some ⟨gb, 0, none⟩) ((x :: xs).map getI).length c] 51 fz) := by simpa using k3
          refine (String_some blk gb c va cur fz fz2 ((x :: xs).map getI) w (by simp) k3' b1 (by simpa using b2) (by simpa using b3) (by simpa using b4) b6).mono ?_
          rintro e w' ⟨rfl, rfl⟩
          refine fin _ _ (by simp [bytesOf, toB, Function.comp_def]) b4 (R.freeze jd.drew (fun i hi ho => ?_) ?_)
          · have hb : own g 1 gb := b5
            cases i with
            | zero =>
              rcases ho with ho | ⟨v1, l1, c1, ho⟩
              · have := j1.blk 0 blk k1
                rw [this] at ho
                have e : blk = gb := by simpa using ho
                exact hR.inj 0 1 gb (by omega) (by simp) (by simp) (.inl (e ▸ k1)) hb
              · rw [j4] at ho
                exact hR.inj 0 1 gb (by omega) (by simp) (by simp) (.inr ⟨_, _, _, ho⟩) hb
            | succ i =>
              cases i with
              | zero => simp [gone] at hi
              | succ i =>
                have := jd.none_blk (i := i + 2) (by simp)
                rcases ho with ho | ⟨v1, l1, c1, ho⟩
                · rw [this.1] at ho; simp at ho
                · rw [this.2] at ho; simp at ho
          · have := (hR.own_lt (i := 1) (by simp) b5).1
            rw [j1.free]; exact this
  · simp [Tr.val, Tr.fold] at hF

end Go.Proofs.YtbgklljidmoahaaDoor
