/- What the printed functions come to, plainly. -/
import Derived.Test.YtfhgmpeplfjmcaaYcG3
import Derived.Test.YtfhgmpeplfjmcaaCxPl3
import Derived.Test.YtfhgmpeplfjmcaaCxAm
namespace Go.Proofs.Ytfhgmpeplfjmcaa
open Go.Cx Go.Cx.AV
set_option linter.unusedSimpArgs false
set_option linter.unusedVariables false
structure XF where
  a0 : Int
  a1 : Int
  a2 : Int
  a3 : Int
  a4 : Int
  a5 : Int
  a6 : Int
  a7 : Int
  a8 : List UInt8
  a9 : List UInt8
  a10 : List UInt8
  a11 : List UInt8
  a12 : Int
  a13 : List UInt8
  a14 : List UInt8
  a15 : List UInt8
  a16 : List UInt8
  a17 : Int
  a18 : List UInt8
  a19 : List UInt8
  a20 : Int
  a21 : List UInt8
  a22 : List AV
  a23 : List UInt8
  a24 : List UInt8
  a25 : List AV
  a26 : List AV
def XF.av (f : XF) : AV := .agg [.int .i64 f.a0, .int .i64 f.a1, .int .i64 f.a2, .int .i64 f.a3, .int .i64 f.a4, .int .u64 f.a5, .int .i64 f.a6, .int .i64 f.a7, .str f.a8, .str f.a9, .str f.a10, .str f.a11, .int .u64 f.a12, .str f.a13, .str f.a14, .str f.a15, .str f.a16, .int .i64 f.a17, .str f.a18, .str f.a19, .int .i64 f.a20, .str f.a21, .slice 2 (.agg [.int .i64, .slice 1 (.int .u8)]) f.a22 .ro, .str f.a23, .str f.a24, .slice 2 (.agg [.str, .str]) f.a25 .ro, .slice 2 (.agg [.int .i64, .slice 1 (.int .u8)]) f.a26 .ro]
theorem XF.mk_av (f : XF) : AV.agg [.int .i64 f.a0, .int .i64 f.a1, .int .i64 f.a2, .int .i64 f.a3, .int .i64 f.a4, .int .u64 f.a5, .int .i64 f.a6, .int .i64 f.a7, .str f.a8, .str f.a9, .str f.a10, .str f.a11, .int .u64 f.a12, .str f.a13, .str f.a14, .str f.a15, .str f.a16, .int .i64 f.a17, .str f.a18, .str f.a19, .int .i64 f.a20, .str f.a21, .slice 2 (.agg [.int .i64, .slice 1 (.int .u8)]) f.a22 .ro, .str f.a23, .str f.a24, .slice 2 (.agg [.str, .str]) f.a25 .ro, .slice 2 (.agg [.int .i64, .slice 1 (.int .u8)]) f.a26 .ro] = f.av := rfl
theorem XF.g0 (f : XF) : getI (getF f.av 0) = f.a0 := rfl
theorem XF.g1 (f : XF) : getI (getF f.av 1) = f.a1 := rfl
theorem XF.g2 (f : XF) : getI (getF f.av 2) = f.a2 := rfl
theorem XF.g3 (f : XF) : getI (getF f.av 3) = f.a3 := rfl
theorem XF.g4 (f : XF) : getI (getF f.av 4) = f.a4 := rfl
theorem XF.g5 (f : XF) : getI (getF f.av 5) = f.a5 := rfl
theorem XF.g6 (f : XF) : getI (getF f.av 6) = f.a6 := rfl
theorem XF.g7 (f : XF) : getI (getF f.av 7) = f.a7 := rfl
theorem XF.g8 (f : XF) : getS (getF f.av 8) = f.a8 := rfl
theorem XF.g9 (f : XF) : getS (getF f.av 9) = f.a9 := rfl
theorem XF.g10 (f : XF) : getS (getF f.av 10) = f.a10 := rfl
theorem XF.g11 (f : XF) : getS (getF f.av 11) = f.a11 := rfl
theorem XF.g12 (f : XF) : getI (getF f.av 12) = f.a12 := rfl
theorem XF.g13 (f : XF) : getS (getF f.av 13) = f.a13 := rfl
theorem XF.g14 (f : XF) : getS (getF f.av 14) = f.a14 := rfl
theorem XF.g15 (f : XF) : getS (getF f.av 15) = f.a15 := rfl
theorem XF.g16 (f : XF) : getS (getF f.av 16) = f.a16 := rfl
theorem XF.g17 (f : XF) : getI (getF f.av 17) = f.a17 := rfl
theorem XF.g18 (f : XF) : getS (getF f.av 18) = f.a18 := rfl
theorem XF.g19 (f : XF) : getS (getF f.av 19) = f.a19 := rfl
theorem XF.g20 (f : XF) : getI (getF f.av 20) = f.a20 := rfl
theorem XF.g21 (f : XF) : getS (getF f.av 21) = f.a21 := rfl
theorem XF.g22 (f : XF) : getXs (getF f.av 22) = f.a22 := rfl
theorem XF.g23 (f : XF) : getS (getF f.av 23) = f.a23 := rfl
theorem XF.g24 (f : XF) : getS (getF f.av 24) = f.a24 := rfl
theorem XF.g25 (f : XF) : getXs (getF f.av 25) = f.a25 := rfl
theorem XF.g26 (f : XF) : getXs (getF f.av 26) = f.a26 := rfl
theorem XF.getD (L : List XF) (i : Nat) (h : i < L.length) : (L.map XF.av).getD ((i : Nat) : Int).toNat (.agg [.int .i64 0, .int .i64 0, .int .i64 0, .int .i64 0, .int .i64 0, .int .u64 0, .int .i64 0, .int .i64 0, .str [], .str [], .str [], .str [], .int .u64 0, .str [], .str [], .str [], .str [], .int .i64 0, .str [], .str [], .int .i64 0, .str [], .slice 2 (.agg [.int .i64, .slice 1 (.int .u8)]) [] .ro, .str [], .str [], .slice 2 (.agg [.str, .str]) [] .ro, .slice 2 (.agg [.int .i64, .slice 1 (.int .u8)]) [] .ro]) = L[i].av := by
  simp [List.getD_eq_getElem?_getD, h]
structure PF where
  p0 : Int
  p1 : Int
  p2 : List UInt8
  p3 : List UInt8
  p4 : List UInt8
  p5 : List AV
  p6 : List AV
def PF.av (f : PF) : AV := .agg [.int .i64 f.p0, .int .u64 f.p1, .str f.p2, .str f.p3, .str f.p4, .slice 2 (.agg [.str, .str]) f.p5 .ro, .slice 2 (.agg [.int .i64, .slice 1 (.int .u8)]) f.p6 .ro]
theorem PF.mk_av (f : PF) : AV.agg [.int .i64 f.p0, .int .u64 f.p1, .str f.p2, .str f.p3, .str f.p4, .slice 2 (.agg [.str, .str]) f.p5 .ro, .slice 2 (.agg [.int .i64, .slice 1 (.int .u8)]) f.p6 .ro] = f.av := rfl
theorem PF.g0 (f : PF) : getI (getF f.av 0) = f.p0 := rfl
theorem PF.g1 (f : PF) : getI (getF f.av 1) = f.p1 := rfl
theorem PF.g2 (f : PF) : getS (getF f.av 2) = f.p2 := rfl
theorem PF.g3 (f : PF) : getS (getF f.av 3) = f.p3 := rfl
theorem PF.g4 (f : PF) : getS (getF f.av 4) = f.p4 := rfl
theorem PF.g5 (f : PF) : getXs (getF f.av 5) = f.p5 := rfl
theorem PF.g6 (f : PF) : getXs (getF f.av 6) = f.p6 := rfl
theorem PF.getD (L : List PF) (i : Nat) (h : i < L.length) : (L.map PF.av).getD ((i : Nat) : Int).toNat (.agg [.int .i64 0, .int .u64 0, .str [], .str [], .str [], .slice 2 (.agg [.str, .str]) [] .ro, .slice 2 (.agg [.int .i64, .slice 1 (.int .u8)]) [] .ro]) = L[i].av := by
  simp [List.getD_eq_getElem?_getD, h]
structure DF where
  kind : Int
  time : Int
  id : Int
  stan : Int
  x : XF
  p : PF
def DF.av (d : DF) : AV := .agg [.int .i64 d.kind, .int .u64 d.time, .int .i64 d.id, .int .i64 d.stan, .int .i64 d.x.a0, .int .i64 d.x.a1, .int .i64 d.x.a2, .int .i64 d.x.a3, .int .i64 d.x.a4, .int .u64 d.x.a5, .int .i64 d.x.a6, .int .i64 d.x.a7, .str d.x.a8, .str d.x.a9, .str d.x.a10, .str d.x.a11, .int .u64 d.x.a12, .str d.x.a13, .str d.x.a14, .str d.x.a15, .str d.x.a16, .int .i64 d.x.a17, .str d.x.a18, .str d.x.a19, .int .i64 d.x.a20, .str d.x.a21, .slice 2 (.agg [.int .i64, .slice 1 (.int .u8)]) d.x.a22 .ro, .str d.x.a23, .str d.x.a24, .slice 2 (.agg [.str, .str]) d.x.a25 .ro, .slice 2 (.agg [.int .i64, .slice 1 (.int .u8)]) d.x.a26 .ro, .int .i64 d.p.p0, .int .u64 d.p.p1, .str d.p.p2, .str d.p.p3, .str d.p.p4, .slice 2 (.agg [.str, .str]) d.p.p5 .ro, .slice 2 (.agg [.int .i64, .slice 1 (.int .u8)]) d.p.p6 .ro]
theorem DF.g0 (d : DF) : getI (getF d.av 0) = d.kind := rfl
theorem DF.g1 (d : DF) : getI (getF d.av 1) = d.time := rfl
theorem DF.g2 (d : DF) : getI (getF d.av 2) = d.id := rfl
theorem DF.g3 (d : DF) : getI (getF d.av 3) = d.stan := rfl
theorem DF.g4 (d : DF) : getI (getF d.av 4) = d.x.a0 := rfl
theorem DF.g5 (d : DF) : getI (getF d.av 5) = d.x.a1 := rfl
theorem DF.g6 (d : DF) : getI (getF d.av 6) = d.x.a2 := rfl
theorem DF.g7 (d : DF) : getI (getF d.av 7) = d.x.a3 := rfl
theorem DF.g8 (d : DF) : getI (getF d.av 8) = d.x.a4 := rfl
theorem DF.g9 (d : DF) : getI (getF d.av 9) = d.x.a5 := rfl
theorem DF.g10 (d : DF) : getI (getF d.av 10) = d.x.a6 := rfl
theorem DF.g11 (d : DF) : getI (getF d.av 11) = d.x.a7 := rfl
theorem DF.g12 (d : DF) : getS (getF d.av 12) = d.x.a8 := rfl
theorem DF.g13 (d : DF) : getS (getF d.av 13) = d.x.a9 := rfl
theorem DF.g14 (d : DF) : getS (getF d.av 14) = d.x.a10 := rfl
theorem DF.g15 (d : DF) : getS (getF d.av 15) = d.x.a11 := rfl
theorem DF.g16 (d : DF) : getI (getF d.av 16) = d.x.a12 := rfl
theorem DF.g17 (d : DF) : getS (getF d.av 17) = d.x.a13 := rfl
theorem DF.g18 (d : DF) : getS (getF d.av 18) = d.x.a14 := rfl
theorem DF.g19 (d : DF) : getS (getF d.av 19) = d.x.a15 := rfl
theorem DF.g20 (d : DF) : getS (getF d.av 20) = d.x.a16 := rfl
theorem DF.g21 (d : DF) : getI (getF d.av 21) = d.x.a17 := rfl
theorem DF.g22 (d : DF) : getS (getF d.av 22) = d.x.a18 := rfl
theorem DF.g23 (d : DF) : getS (getF d.av 23) = d.x.a19 := rfl
theorem DF.g24 (d : DF) : getI (getF d.av 24) = d.x.a20 := rfl
theorem DF.g25 (d : DF) : getS (getF d.av 25) = d.x.a21 := rfl
theorem DF.g26 (d : DF) : getXs (getF d.av 26) = d.x.a22 := rfl
theorem DF.g27 (d : DF) : getS (getF d.av 27) = d.x.a23 := rfl
theorem DF.g28 (d : DF) : getS (getF d.av 28) = d.x.a24 := rfl
theorem DF.g29 (d : DF) : getXs (getF d.av 29) = d.x.a25 := rfl
theorem DF.g30 (d : DF) : getXs (getF d.av 30) = d.x.a26 := rfl
theorem DF.g31 (d : DF) : getI (getF d.av 31) = d.p.p0 := rfl
theorem DF.g32 (d : DF) : getI (getF d.av 32) = d.p.p1 := rfl
theorem DF.g33 (d : DF) : getS (getF d.av 33) = d.p.p2 := rfl
theorem DF.g34 (d : DF) : getS (getF d.av 34) = d.p.p3 := rfl
theorem DF.g35 (d : DF) : getS (getF d.av 35) = d.p.p4 := rfl
theorem DF.g36 (d : DF) : getXs (getF d.av 36) = d.p.p5 := rfl
theorem DF.g37 (d : DF) : getXs (getF d.av 37) = d.p.p6 := rfl
theorem DF.getD (L : List DF) (i : Nat) (h : i < L.length) : (L.map DF.av).getD ((i : Nat) : Int).toNat (.agg [.int .i64 0, .int .u64 0, .int .i64 0, .int .i64 0, .int .i64 0, .int .i64 0, .int .i64 0, .int .i64 0, .int .i64 0, .int .u64 0, .int .i64 0, .int .i64 0, .str [], .str [], .str [], .str [], .int .u64 0, .str [], .str [], .str [], .str [], .int .i64 0, .str [], .str [], .int .i64 0, .str [], .slice 2 (.agg [.int .i64, .slice 1 (.int .u8)]) [] .ro, .str [], .str [], .slice 2 (.agg [.str, .str]) [] .ro, .slice 2 (.agg [.int .i64, .slice 1 (.int .u8)]) [] .ro, .int .i64 0, .int .u64 0, .str [], .str [], .str [], .slice 2 (.agg [.str, .str]) [] .ro, .slice 2 (.agg [.int .i64, .slice 1 (.int .u8)]) [] .ro]) = L[i].av := by
  simp [List.getD_eq_getElem?_getD, h]
def TagF (x : AV) : Prop := ∃ (n : Int) (b : List AV), x = .agg [.int .i64 n, .slice 1 (.int .u8) b .ro] ∧ b.length * 2 < 70368744177664
def TagsF (l : List AV) : Prop := (∀ x ∈ l, TagF x) ∧ l.length * 33 < 70368744177664
def XF.ok (f : XF) : Prop := TagsF f.a22 ∧ f.a25.length * 33 < 70368744177664 ∧ TagsF f.a26
def PF.ok (f : PF) : Prop := f.p5.length * 33 < 70368744177664 ∧ TagsF f.p6
theorem take_succ_get (l : List AV) (i : Nat) (h : i < l.length) : l.take i ++ [l[i]] = l.take (i + 1) := by
  rw [List.take_add_one]; simp [h]
theorem getD_in (l : List AV) (d : AV) (i : Nat) (h : i < l.length) : l.getD ((i : Nat) : Int).toNat d = l[i] := by simp [List.getD_eq_getElem?_getD, h]
theorem eachTag_eq (T : List AV) (h : TagsF T) : g_state_each_api_Tag_0ftag_ T = some T := by
  unfold g_state_each_api_Tag_0ftag_
  rw [run_inl (s := (((0 : Nat) : Int), T.take 0)) (by simp only [T_state_each_api_Tag_0ftag_, Tr.val_r]; rfl)]
  refine run_until (step := M_state_each_api_Tag_0ftag_ T) (f := fun i => ((i : Int), T.take i)) (n := T.length) (fun i hi => ?_) ?_
  · obtain ⟨n, b, e, hb⟩ := h.1 T[i] (List.getElem_mem hi)
    have q1 : (i : Int) < (T.length : Int) := by omega
    have q2 : (0 : Int) ≤ (i : Int) := by omega
    have w1 : IntKind.i64.wrap ((i : Int) + 1) = ((i + 1 : Nat) : Int) := by have := h.2; rw [i64_wrap (by omega) (by omega)]; omega
    have g := getD_in T (.agg [.int .i64 0, .slice 1 (.int .u8) [] .ro]) i hi
    rw [e] at g
    have e1 : getI (getF (AV.agg [AV.int .i64 n, AV.slice 1 (.int .u8) b .ro]) 0) = n := rfl
    have e2 : getXs (getF (AV.agg [AV.int .i64 n, AV.slice 1 (.int .u8) b .ro]) 1) = b := rfl
    have t : g_state_tag n b = some (n, b) := by
      unfold g_state_tag
      simp only [T_state_tag, Tr.val_c, Tr.val_r, hb, decide_true, cond_true]
    have s := take_succ_get T i hi
    rw [e] at s
    have l1 : (T.take (i + 1)).length * 33 < 70368744177664 := by have := h.2; rw [List.length_take]; omega
    simp only [M_state_each_api_Tag_0ftag_, Tr.val_c, Tr.val_r, val_opt, q1, q2, g, e1, e2, t, s, l1, w1, Option.bind_some, decide_true, beq_self_eq_true, cond_true]
  · have q1 : ¬ ((T.length : Int) < (T.length : Int)) := by omega
    simp only [M_state_each_api_Tag_0ftag_, Tr.val_c, Tr.val_r, q1, decide_false, beq_self_eq_true, cond_true, cond_false, List.take_length]
theorem eachElement_eq (T : List AV) (h : TagsF T) : g_state_each_api_Element_0felement_ T = some T := by
  unfold g_state_each_api_Element_0felement_
  rw [run_inl (s := (((0 : Nat) : Int), T.take 0)) (by simp only [T_state_each_api_Element_0felement_, Tr.val_r]; rfl)]
  refine run_until (step := M_state_each_api_Element_0felement_ T) (f := fun i => ((i : Int), T.take i)) (n := T.length) (fun i hi => ?_) ?_
  · obtain ⟨n, b, e, hb⟩ := h.1 T[i] (List.getElem_mem hi)
    have q1 : (i : Int) < (T.length : Int) := by omega
    have q2 : (0 : Int) ≤ (i : Int) := by omega
    have w1 : IntKind.i64.wrap ((i : Int) + 1) = ((i + 1 : Nat) : Int) := by have := h.2; rw [i64_wrap (by omega) (by omega)]; omega
    have g := getD_in T (.agg [.int .i64 0, .slice 1 (.int .u8) [] .ro]) i hi
    rw [e] at g
    have e1 : getI (getF (AV.agg [AV.int .i64 n, AV.slice 1 (.int .u8) b .ro]) 0) = n := rfl
    have e2 : getXs (getF (AV.agg [AV.int .i64 n, AV.slice 1 (.int .u8) b .ro]) 1) = b := rfl
    have t : g_state_element n b = some (n, b) := by
      unfold g_state_element
      simp only [T_state_element, Tr.val_c, Tr.val_r, hb, decide_true, cond_true]
    have s := take_succ_get T i hi
    rw [e] at s
    have l1 : (T.take (i + 1)).length * 33 < 70368744177664 := by have := h.2; rw [List.length_take]; omega
    simp only [M_state_each_api_Element_0felement_, Tr.val_c, Tr.val_r, val_opt, q1, q2, g, e1, e2, t, s, l1, w1, Option.bind_some, decide_true, beq_self_eq_true, cond_true]
  · have q1 : ¬ ((T.length : Int) < (T.length : Int)) := by omega
    simp only [M_state_each_api_Element_0felement_, Tr.val_c, Tr.val_r, q1, decide_false, beq_self_eq_true, cond_true, cond_false, List.take_length]
theorem exchange_eq (f : XF) (h : f.ok) : g_state_exchange f.a0 f.a1 f.a2 f.a3 f.a4 f.a5 f.a6 f.a7 f.a8 f.a9 f.a10 f.a11 f.a12 f.a13 f.a14 f.a15 f.a16 f.a17 f.a18 f.a19 f.a20 f.a21 f.a22 f.a23 f.a24 f.a25 f.a26 = some (f.a0, f.a1, f.a2, f.a3, f.a4, f.a5, f.a6, f.a7, f.a8, f.a9, f.a10, f.a11, f.a12, f.a13, f.a14, f.a15, f.a16, f.a17, f.a18, f.a19, f.a20, f.a21, f.a22, f.a23, f.a24, f.a25, f.a26) := by
  unfold g_state_exchange
  simp only [T_state_exchange, Tr.val_c, Tr.val_r, val_opt, eachTag_eq _ h.1, eachElement_eq _ h.2.2, h.2.1, Option.bind_some, decide_true, cond_true]
theorem parked_eq (f : PF) (h : f.ok) : g_state_parked f.p0 f.p1 f.p2 f.p3 f.p4 f.p5 f.p6 = some (f.p0, f.p1, f.p2, f.p3, f.p4, f.p5, f.p6) := by
  unfold g_state_parked
  simp only [T_state_parked, Tr.val_c, Tr.val_r, val_opt, eachElement_eq _ h.2, h.1, Option.bind_some, decide_true, cond_true]
theorem map_take_get {α : Type} (av : α → AV) (L : List α) (i : Nat) (h : i < L.length) : (L.take i).map av ++ [av L[i]] = (L.take (i + 1)).map av := by
  have : L.take (i + 1) = L.take i ++ [L[i]] := by rw [List.take_add_one]; simp [h]
  rw [this, List.map_append]; rfl
def ixOf {α : Type} (p : α → Bool) : List α → Nat → Int
  | [], _ => -1
  | y :: l, i => if p y = true then (i : Int) else ixOf p l (i + 1)
theorem ix_spec {α : Type} (p : α → Bool) : ∀ (l : List α) (i : Nat), (ixOf p l i = -1 ∧ ∀ y ∈ l, p y = false) ∨ ∃ a y b, l = a ++ y :: b ∧ (∀ z ∈ a, p z = false) ∧ p y = true ∧ ixOf p l i = ((i + a.length : Nat) : Int)
  | [], i => .inl ⟨rfl, fun y h => by simp at h⟩
  | y :: l, i => by
    unfold ixOf
    by_cases h : p y = true
    · exact .inr ⟨[], y, l, rfl, fun z h => by simp at h, h, by rw [if_pos h]; simp⟩
    · have h' : p y = false := by simpa using h
      rw [if_neg h]
      rcases ix_spec p l (i + 1) with ⟨h1, h2⟩ | ⟨a, z, b, h1, h2, h3, h4⟩
      · exact .inl ⟨h1, fun z hz => by
          rcases List.mem_cons.1 hz with rfl | hz
          · exact h'
          · exact h2 z hz⟩
      · exact .inr ⟨y :: a, z, b, by rw [h1]; rfl, fun x hx => by
          rcases List.mem_cons.1 hx with rfl | hx
          · exact h'
          · exact h2 x hx, h3, by rw [h4]; simp; omega⟩
def repl {α : Type} (p : α → Bool) (x : α) : List α → List α
  | [] => [x]
  | y :: l => if p y = true then x :: l else y :: repl p x l
theorem repl_none {α : Type} {p : α → Bool} {x : α} : ∀ {l : List α}, (∀ y ∈ l, p y = false) → repl p x l = l ++ [x]
  | [], _ => rfl
  | y :: l, h => by
    unfold repl
    rw [if_neg (by simp [h y (by simp)]), repl_none fun z hz => h z (by simp [hz])]; rfl
theorem repl_some {α : Type} {p : α → Bool} {x y : α} {b : List α} (hy : p y = true) : ∀ {a : List α}, (∀ z ∈ a, p z = false) → repl p x (a ++ y :: b) = a ++ x :: b
  | [], _ => by simp [repl, hy]
  | z :: a, h => by
    show repl p x (z :: (a ++ y :: b)) = _
    unfold repl
    rw [if_neg (by simp [h z (by simp)]), repl_some hy fun u hu => h u (by simp [hu])]; rfl
theorem set_mid {α : Type} (a b : List α) (x y : α) : (a ++ y :: b).set a.length x = a ++ x :: b := by
  simp [List.set_append]
theorem eachExchange_eq (L : List XF) (h : ∀ f ∈ L, f.ok) (hl : L.length < 1000000000) : g_state_each_api_Exchange_0fexchange_ (L.map XF.av) = some (L.map XF.av) := by
  unfold g_state_each_api_Exchange_0fexchange_
  rw [run_inl (s := (((0 : Nat) : Int), (L.take 0).map XF.av)) (by simp only [T_state_each_api_Exchange_0fexchange_, Tr.val_r]; rfl)]
  have lm : (L.map XF.av).length = L.length := by simp
  refine run_until (step := M_state_each_api_Exchange_0fexchange_ (L.map XF.av)) (f := fun i => ((i : Int), (L.take i).map XF.av)) (n := L.length) (fun i hi => ?_) ?_
  · have q1 : (i : Int) < ((L.map XF.av).length : Int) := by rw [lm]; omega
    have q2 : (0 : Int) ≤ (i : Int) := by omega
    have w1 : IntKind.i64.wrap ((i : Int) + 1) = ((i + 1 : Nat) : Int) := by rw [i64_wrap (by omega) (by omega)]; omega
    have g := XF.getD L i hi
    obtain ⟨f, hf⟩ : ∃ f, f = L[i] := ⟨_, rfl⟩
    have t := exchange_eq f (h f (by rw [hf]; exact List.getElem_mem hi))
    have s := map_take_get XF.av L i hi
    rw [← hf] at g s
    have mk := XF.mk_av f
    have l1 : ((L.take (i + 1)).map XF.av).length * 369 < 70368744177664 := by rw [List.length_map, List.length_take]; omega
    simp only [M_state_each_api_Exchange_0fexchange_, Tr.val_c, Tr.val_r, val_opt, q1, q2, g, XF.g0, XF.g1, XF.g2, XF.g3, XF.g4, XF.g5, XF.g6, XF.g7, XF.g8, XF.g9, XF.g10, XF.g11, XF.g12, XF.g13, XF.g14, XF.g15, XF.g16, XF.g17, XF.g18, XF.g19, XF.g20, XF.g21, XF.g22, XF.g23, XF.g24, XF.g25, XF.g26, t, mk, s, l1, w1, Option.bind_some, decide_true, beq_self_eq_true, cond_true]
  · have q1 : ¬ ((L.length : Int) < ((L.map XF.av).length : Int)) := by rw [lm]; omega
    simp only [M_state_each_api_Exchange_0fexchange_, Tr.val_c, Tr.val_r, q1, decide_false, beq_self_eq_true, cond_true, cond_false, List.take_length]
theorem ix_put (L : List XF) (d : DF) (hl : L.length < 1000000000) : ∀ (m i : Nat), L.length - i ≤ m → i ≤ L.length →
    run (M_slices_IndexFunc_api_Exchange_api_Exchange_0fput1_p500000000000000000000000000000000000000 (L.map XF.av) d.kind d.time d.id d.stan d.x.a0 d.x.a1 d.x.a2 d.x.a3 d.x.a4 d.x.a5 d.x.a6 d.x.a7 d.x.a8 d.x.a9 d.x.a10 d.x.a11 d.x.a12 d.x.a13 d.x.a14 d.x.a15 d.x.a16 d.x.a17 d.x.a18 d.x.a19 d.x.a20 d.x.a21 d.x.a22 d.x.a23 d.x.a24 d.x.a25 d.x.a26 d.p.p0 d.p.p1 d.p.p2 d.p.p3 d.p.p4 d.p.p5 d.p.p6) (M_slices_IndexFunc_api_Exchange_api_Exchange_0fput1_p500000000000000000000000000000000000000 (L.map XF.av) d.kind d.time d.id d.stan d.x.a0 d.x.a1 d.x.a2 d.x.a3 d.x.a4 d.x.a5 d.x.a6 d.x.a7 d.x.a8 d.x.a9 d.x.a10 d.x.a11 d.x.a12 d.x.a13 d.x.a14 d.x.a15 d.x.a16 d.x.a17 d.x.a18 d.x.a19 d.x.a20 d.x.a21 d.x.a22 d.x.a23 d.x.a24 d.x.a25 d.x.a26 d.p.p0 d.p.p1 d.p.p2 d.p.p3 d.p.p4 d.p.p5 d.p.p6 (i : Int)) = some (ixOf (fun y => y.a0 == d.x.a0) (L.drop i) i, L.map XF.av, d.kind, d.time, d.id, d.stan, d.x.a0, d.x.a1, d.x.a2, d.x.a3, d.x.a4, d.x.a5, d.x.a6, d.x.a7, d.x.a8, d.x.a9, d.x.a10, d.x.a11, d.x.a12, d.x.a13, d.x.a14, d.x.a15, d.x.a16, d.x.a17, d.x.a18, d.x.a19, d.x.a20, d.x.a21, d.x.a22, d.x.a23, d.x.a24, d.x.a25, d.x.a26, d.p.p0, d.p.p1, d.p.p2, d.p.p3, d.p.p4, d.p.p5, d.p.p6) := by
  have lm : (L.map XF.av).length = L.length := by simp
  intro m
  induction m with
  | zero =>
    intro i hm hi
    have q1 : ¬ ((i : Int) < ((L.map XF.av).length : Int)) := by rw [lm]; omega
    rw [List.drop_eq_nil_of_le (by omega)]
    exact run_inr (by simp only [M_slices_IndexFunc_api_Exchange_api_Exchange_0fput1_p500000000000000000000000000000000000000, Tr.val_c, Tr.val_r, q1, decide_false, cond_false]; rfl)
  | succ m ih =>
    intro i hm hi
    by_cases h : i = L.length
    · have q1 : ¬ ((i : Int) < ((L.map XF.av).length : Int)) := by rw [lm]; omega
      rw [List.drop_eq_nil_of_le (by omega)]
      exact run_inr (by simp only [M_slices_IndexFunc_api_Exchange_api_Exchange_0fput1_p500000000000000000000000000000000000000, Tr.val_c, Tr.val_r, q1, decide_false, cond_false]; rfl)
    · have hi' : i < L.length := by omega
      have q1 : (i : Int) < ((L.map XF.av).length : Int) := by rw [lm]; omega
      have q2 : (0 : Int) ≤ (i : Int) := by omega
      have q3 : (i : Int).toNat < (L.map XF.av).length := by rw [lm]; omega
      have w1 : IntKind.i64.wrap ((i : Int) + 1) = ((i + 1 : Nat) : Int) := by rw [i64_wrap (by omega) (by omega)]; omega
      have g := XF.getD L i hi'
      rw [List.drop_eq_getElem_cons hi', ixOf]
      by_cases hp : (L[i].a0 == d.x.a0) = true
      · rw [if_pos hp]
        exact run_inr (by simp only [M_slices_IndexFunc_api_Exchange_api_Exchange_0fput1_p500000000000000000000000000000000000000, Tr.val_c, Tr.val_r, q1, q2, q3, g, XF.g0, hp, decide_true, beq_self_eq_true, cond_true])
      · rw [if_neg hp]
        have hp' : (L[i].a0 == d.x.a0) = false := by simpa using hp
        rw [run_inl (s := ((i + 1 : Nat) : Int)) (by simp only [M_slices_IndexFunc_api_Exchange_api_Exchange_0fput1_p500000000000000000000000000000000000000, Tr.val_c, Tr.val_r, q1, q2, q3, g, XF.g0, hp', w1, decide_true, beq_self_eq_true, cond_true, cond_false])]
        exact ih (i + 1) (by omega) (by omega)
theorem index_put (L : List XF) (d : DF) (hl : L.length < 1000000000) : g_slices_IndexFunc_api_Exchange_api_Exchange_0fput1_p500000000000000000000000000000000000000 (L.map XF.av) d.kind d.time d.id d.stan d.x.a0 d.x.a1 d.x.a2 d.x.a3 d.x.a4 d.x.a5 d.x.a6 d.x.a7 d.x.a8 d.x.a9 d.x.a10 d.x.a11 d.x.a12 d.x.a13 d.x.a14 d.x.a15 d.x.a16 d.x.a17 d.x.a18 d.x.a19 d.x.a20 d.x.a21 d.x.a22 d.x.a23 d.x.a24 d.x.a25 d.x.a26 d.p.p0 d.p.p1 d.p.p2 d.p.p3 d.p.p4 d.p.p5 d.p.p6 = some (ixOf (fun y => y.a0 == d.x.a0) L 0, L.map XF.av, d.kind, d.time, d.id, d.stan, d.x.a0, d.x.a1, d.x.a2, d.x.a3, d.x.a4, d.x.a5, d.x.a6, d.x.a7, d.x.a8, d.x.a9, d.x.a10, d.x.a11, d.x.a12, d.x.a13, d.x.a14, d.x.a15, d.x.a16, d.x.a17, d.x.a18, d.x.a19, d.x.a20, d.x.a21, d.x.a22, d.x.a23, d.x.a24, d.x.a25, d.x.a26, d.p.p0, d.p.p1, d.p.p2, d.p.p3, d.p.p4, d.p.p5, d.p.p6) := by
  unfold g_slices_IndexFunc_api_Exchange_api_Exchange_0fput1_p500000000000000000000000000000000000000
  rw [run_inl (s := ((0 : Nat) : Int)) (by simp only [T_slices_IndexFunc_api_Exchange_api_Exchange_0fput1_p500000000000000000000000000000000000000, Tr.val_r]; rfl)]
  exact ix_put L d hl L.length 0 (by omega) (by omega)
theorem ix_drop (L : List XF) (d : DF) (hl : L.length < 1000000000) : ∀ (m i : Nat), L.length - i ≤ m → i ≤ L.length →
    run (M_slices_IndexFunc_api_Exchange_api_Exchange_0fdrop1_p500000000000000000000000000000000000000 (L.map XF.av) d.kind d.time d.id d.stan d.x.a0 d.x.a1 d.x.a2 d.x.a3 d.x.a4 d.x.a5 d.x.a6 d.x.a7 d.x.a8 d.x.a9 d.x.a10 d.x.a11 d.x.a12 d.x.a13 d.x.a14 d.x.a15 d.x.a16 d.x.a17 d.x.a18 d.x.a19 d.x.a20 d.x.a21 d.x.a22 d.x.a23 d.x.a24 d.x.a25 d.x.a26 d.p.p0 d.p.p1 d.p.p2 d.p.p3 d.p.p4 d.p.p5 d.p.p6) (M_slices_IndexFunc_api_Exchange_api_Exchange_0fdrop1_p500000000000000000000000000000000000000 (L.map XF.av) d.kind d.time d.id d.stan d.x.a0 d.x.a1 d.x.a2 d.x.a3 d.x.a4 d.x.a5 d.x.a6 d.x.a7 d.x.a8 d.x.a9 d.x.a10 d.x.a11 d.x.a12 d.x.a13 d.x.a14 d.x.a15 d.x.a16 d.x.a17 d.x.a18 d.x.a19 d.x.a20 d.x.a21 d.x.a22 d.x.a23 d.x.a24 d.x.a25 d.x.a26 d.p.p0 d.p.p1 d.p.p2 d.p.p3 d.p.p4 d.p.p5 d.p.p6 (i : Int)) = some (ixOf (fun y => y.a0 == d.id) (L.drop i) i, L.map XF.av, d.kind, d.time, d.id, d.stan, d.x.a0, d.x.a1, d.x.a2, d.x.a3, d.x.a4, d.x.a5, d.x.a6, d.x.a7, d.x.a8, d.x.a9, d.x.a10, d.x.a11, d.x.a12, d.x.a13, d.x.a14, d.x.a15, d.x.a16, d.x.a17, d.x.a18, d.x.a19, d.x.a20, d.x.a21, d.x.a22, d.x.a23, d.x.a24, d.x.a25, d.x.a26, d.p.p0, d.p.p1, d.p.p2, d.p.p3, d.p.p4, d.p.p5, d.p.p6) := by
  have lm : (L.map XF.av).length = L.length := by simp
  intro m
  induction m with
  | zero =>
    intro i hm hi
    have q1 : ¬ ((i : Int) < ((L.map XF.av).length : Int)) := by rw [lm]; omega
    rw [List.drop_eq_nil_of_le (by omega)]
    exact run_inr (by simp only [M_slices_IndexFunc_api_Exchange_api_Exchange_0fdrop1_p500000000000000000000000000000000000000, Tr.val_c, Tr.val_r, q1, decide_false, cond_false]; rfl)
  | succ m ih =>
    intro i hm hi
    by_cases h : i = L.length
    · have q1 : ¬ ((i : Int) < ((L.map XF.av).length : Int)) := by rw [lm]; omega
      rw [List.drop_eq_nil_of_le (by omega)]
      exact run_inr (by simp only [M_slices_IndexFunc_api_Exchange_api_Exchange_0fdrop1_p500000000000000000000000000000000000000, Tr.val_c, Tr.val_r, q1, decide_false, cond_false]; rfl)
    · have hi' : i < L.length := by omega
      have q1 : (i : Int) < ((L.map XF.av).length : Int) := by rw [lm]; omega
      have q2 : (0 : Int) ≤ (i : Int) := by omega
      have q3 : (i : Int).toNat < (L.map XF.av).length := by rw [lm]; omega
      have w1 : IntKind.i64.wrap ((i : Int) + 1) = ((i + 1 : Nat) : Int) := by rw [i64_wrap (by omega) (by omega)]; omega
      have g := XF.getD L i hi'
      rw [List.drop_eq_getElem_cons hi', ixOf]
      by_cases hp : (L[i].a0 == d.id) = true
      · rw [if_pos hp]
        exact run_inr (by simp only [M_slices_IndexFunc_api_Exchange_api_Exchange_0fdrop1_p500000000000000000000000000000000000000, Tr.val_c, Tr.val_r, q1, q2, q3, g, XF.g0, hp, decide_true, beq_self_eq_true, cond_true])
      · rw [if_neg hp]
        have hp' : (L[i].a0 == d.id) = false := by simpa using hp
        rw [run_inl (s := ((i + 1 : Nat) : Int)) (by simp only [M_slices_IndexFunc_api_Exchange_api_Exchange_0fdrop1_p500000000000000000000000000000000000000, Tr.val_c, Tr.val_r, q1, q2, q3, g, XF.g0, hp', w1, decide_true, beq_self_eq_true, cond_true, cond_false])]
        exact ih (i + 1) (by omega) (by omega)
theorem index_drop (L : List XF) (d : DF) (hl : L.length < 1000000000) : g_slices_IndexFunc_api_Exchange_api_Exchange_0fdrop1_p500000000000000000000000000000000000000 (L.map XF.av) d.kind d.time d.id d.stan d.x.a0 d.x.a1 d.x.a2 d.x.a3 d.x.a4 d.x.a5 d.x.a6 d.x.a7 d.x.a8 d.x.a9 d.x.a10 d.x.a11 d.x.a12 d.x.a13 d.x.a14 d.x.a15 d.x.a16 d.x.a17 d.x.a18 d.x.a19 d.x.a20 d.x.a21 d.x.a22 d.x.a23 d.x.a24 d.x.a25 d.x.a26 d.p.p0 d.p.p1 d.p.p2 d.p.p3 d.p.p4 d.p.p5 d.p.p6 = some (ixOf (fun y => y.a0 == d.id) L 0, L.map XF.av, d.kind, d.time, d.id, d.stan, d.x.a0, d.x.a1, d.x.a2, d.x.a3, d.x.a4, d.x.a5, d.x.a6, d.x.a7, d.x.a8, d.x.a9, d.x.a10, d.x.a11, d.x.a12, d.x.a13, d.x.a14, d.x.a15, d.x.a16, d.x.a17, d.x.a18, d.x.a19, d.x.a20, d.x.a21, d.x.a22, d.x.a23, d.x.a24, d.x.a25, d.x.a26, d.p.p0, d.p.p1, d.p.p2, d.p.p3, d.p.p4, d.p.p5, d.p.p6) := by
  unfold g_slices_IndexFunc_api_Exchange_api_Exchange_0fdrop1_p500000000000000000000000000000000000000
  rw [run_inl (s := ((0 : Nat) : Int)) (by simp only [T_slices_IndexFunc_api_Exchange_api_Exchange_0fdrop1_p500000000000000000000000000000000000000, Tr.val_r]; rfl)]
  exact ix_drop L d hl L.length 0 (by omega) (by omega)
theorem replace_put (f : XF) (L : List XF) (d : DF) (hl : L.length < 1000000000) : g_state_replace_api_Exchange_00fput1_p500000000000000000000000000000000000000 f.a0 f.a1 f.a2 f.a3 f.a4 f.a5 f.a6 f.a7 f.a8 f.a9 f.a10 f.a11 f.a12 f.a13 f.a14 f.a15 f.a16 f.a17 f.a18 f.a19 f.a20 f.a21 f.a22 f.a23 f.a24 f.a25 f.a26 (L.map XF.av) d.kind d.time d.id d.stan d.x.a0 d.x.a1 d.x.a2 d.x.a3 d.x.a4 d.x.a5 d.x.a6 d.x.a7 d.x.a8 d.x.a9 d.x.a10 d.x.a11 d.x.a12 d.x.a13 d.x.a14 d.x.a15 d.x.a16 d.x.a17 d.x.a18 d.x.a19 d.x.a20 d.x.a21 d.x.a22 d.x.a23 d.x.a24 d.x.a25 d.x.a26 d.p.p0 d.p.p1 d.p.p2 d.p.p3 d.p.p4 d.p.p5 d.p.p6 = some (d.kind, d.time, d.id, d.stan, d.x.a0, d.x.a1, d.x.a2, d.x.a3, d.x.a4, d.x.a5, d.x.a6, d.x.a7, d.x.a8, d.x.a9, d.x.a10, d.x.a11, d.x.a12, d.x.a13, d.x.a14, d.x.a15, d.x.a16, d.x.a17, d.x.a18, d.x.a19, d.x.a20, d.x.a21, d.x.a22, d.x.a23, d.x.a24, d.x.a25, d.x.a26, d.p.p0, d.p.p1, d.p.p2, d.p.p3, d.p.p4, d.p.p5, d.p.p6, (repl (fun y => y.a0 == d.x.a0) f L).map XF.av) := by
  have lm : (L.map XF.av).length = L.length := by simp
  have ix := index_put L d hl
  have mk := XF.mk_av f
  unfold g_state_replace_api_Exchange_00fput1_p500000000000000000000000000000000000000
  rcases ix_spec (fun y : XF => y.a0 == d.x.a0) L 0 with ⟨h1, h2⟩ | ⟨a, y, b, h1, h2, h3, h4⟩
  · rw [h1] at ix
    have q1 : (-1 : Int) < 0 := by decide
    have e : L.map XF.av ++ [f.av] = (repl (fun y => y.a0 == d.x.a0) f L).map XF.av := by rw [repl_none h2]; simp
    have l1 : ((repl (fun y => y.a0 == d.x.a0) f L).map XF.av).length * 369 < 70368744177664 := by rw [repl_none h2]; simp; omega
    simp only [T_state_replace_api_Exchange_00fput1_p500000000000000000000000000000000000000, Tr.val_c, Tr.val_r, val_opt, ix, q1, mk, e, l1, Option.bind_some, decide_true, beq_self_eq_true, cond_true]
  · rw [h4] at ix
    have ll : L.length = a.length + (b.length + 1) := by rw [h1]; simp
    have q1 : ¬ (((0 + a.length : Nat) : Int) < 0) := by omega
    have q2 : (0 : Int) ≤ ((0 + a.length : Nat) : Int) := by omega
    have q3 : ((0 + a.length : Nat) : Int) < ((L.map XF.av).length : Int) := by rw [lm]; omega
    have q4 : ((0 + a.length : Nat) : Int).toNat < (L.map XF.av).length := by rw [lm]; omega
    have e : (L.map XF.av).set ((0 + a.length : Nat) : Int).toNat f.av = (repl (fun y => y.a0 == d.x.a0) f L).map XF.av := by
      rw [h1, repl_some (p := fun y : XF => y.a0 == d.x.a0) h3 h2, Int.toNat_natCast, Nat.zero_add]
      simp
    have l1 : ((repl (fun y => y.a0 == d.x.a0) f L).map XF.av).length = (L.map XF.av).length := by rw [h1, repl_some (p := fun y : XF => y.a0 == d.x.a0) h3 h2]; simp
    simp only [T_state_replace_api_Exchange_00fput1_p500000000000000000000000000000000000000, Tr.val_c, Tr.val_r, val_opt, ix, q1, q2, q3, q4, mk, e, l1, Option.bind_some, decide_true, decide_false, beq_self_eq_true, cond_true, cond_false]
theorem del_drop {M0 : List AV} (d : DF) : ∀ (B A J : List XF), J ≠ [] → (A ++ J ++ B).length < 1000000000 →
    run (M_slices_DeleteFunc_api_Exchange_api_Exchange_0fdrop1_p500000000000000000000000000000000000000 M0 d.kind d.time d.id d.stan d.x.a0 d.x.a1 d.x.a2 d.x.a3 d.x.a4 d.x.a5 d.x.a6 d.x.a7 d.x.a8 d.x.a9 d.x.a10 d.x.a11 d.x.a12 d.x.a13 d.x.a14 d.x.a15 d.x.a16 d.x.a17 d.x.a18 d.x.a19 d.x.a20 d.x.a21 d.x.a22 d.x.a23 d.x.a24 d.x.a25 d.x.a26 d.p.p0 d.p.p1 d.p.p2 d.p.p3 d.p.p4 d.p.p5 d.p.p6) (M_slices_DeleteFunc_api_Exchange_api_Exchange_0fdrop1_p500000000000000000000000000000000000000 M0 d.kind d.time d.id d.stan d.x.a0 d.x.a1 d.x.a2 d.x.a3 d.x.a4 d.x.a5 d.x.a6 d.x.a7 d.x.a8 d.x.a9 d.x.a10 d.x.a11 d.x.a12 d.x.a13 d.x.a14 d.x.a15 d.x.a16 d.x.a17 d.x.a18 d.x.a19 d.x.a20 d.x.a21 d.x.a22 d.x.a23 d.x.a24 d.x.a25 d.x.a26 d.p.p0 d.p.p1 d.p.p2 d.p.p3 d.p.p4 d.p.p5 d.p.p6 ((A.length : Int), ((A.length + J.length : Nat) : Int), d.kind, d.time, d.id, d.stan, d.x.a0, d.x.a1, d.x.a2, d.x.a3, d.x.a4, d.x.a5, d.x.a6, d.x.a7, d.x.a8, d.x.a9, d.x.a10, d.x.a11, d.x.a12, d.x.a13, d.x.a14, d.x.a15, d.x.a16, d.x.a17, d.x.a18, d.x.a19, d.x.a20, d.x.a21, d.x.a22, d.x.a23, d.x.a24, d.x.a25, d.x.a26, d.p.p0, d.p.p1, d.p.p2, d.p.p3, d.p.p4, d.p.p5, d.p.p6, (A ++ J ++ B).map XF.av)) = some (d.kind, d.time, d.id, d.stan, d.x.a0, d.x.a1, d.x.a2, d.x.a3, d.x.a4, d.x.a5, d.x.a6, d.x.a7, d.x.a8, d.x.a9, d.x.a10, d.x.a11, d.x.a12, d.x.a13, d.x.a14, d.x.a15, d.x.a16, d.x.a17, d.x.a18, d.x.a19, d.x.a20, d.x.a21, d.x.a22, d.x.a23, d.x.a24, d.x.a25, d.x.a26, d.p.p0, d.p.p1, d.p.p2, d.p.p3, d.p.p4, d.p.p5, d.p.p6, (A ++ B.filter fun y => !(y.a0 == d.id)).map XF.av)
  | [], A, J, hJ, hl => by
    have lm : ((A ++ J ++ []).map XF.av).length = A.length + J.length := by simp
    have q1 : ¬ (((A.length + J.length : Nat) : Int) < (((A ++ J ++ []).map XF.av).length : Int)) := by rw [lm]; omega
    have q2 : (0 : Int) ≤ (A.length : Int) := by omega
    have q3 : (A.length : Int) ≤ (((A ++ J ++ []).map XF.av).length : Int) := by rw [lm]; omega
    have e : List.take (A.length : Int).toNat ((A ++ J ++ []).map XF.av) = A.map XF.av := by simp
    have e2 : ∀ z : AV, List.take (A.length : Int).toNat (A.map XF.av ++ List.replicate (((A ++ J ++ []).map XF.av).length - (A.length : Int).toNat) z) = A.map XF.av := fun z => by
      rw [Int.toNat_natCast, show A.length = (A.map XF.av).length by simp, List.take_left]
    have e3 : ∀ z : AV, (A.map XF.av ++ List.replicate (((A ++ J ++ []).map XF.av).length - (A.length : Int).toNat) z).length = ((A ++ J ++ []).map XF.av).length := fun z => by
      rw [List.length_append, List.length_replicate, lm, Int.toNat_natCast, List.length_map]; omega
    have e4 : (A ++ List.filter (fun y => !(y.a0 == d.id)) ([] : List XF)).map XF.av = A.map XF.av := by simp
    rw [e4]
    exact run_inr (by simp only [M_slices_DeleteFunc_api_Exchange_api_Exchange_0fdrop1_p500000000000000000000000000000000000000, Tr.val_c, Tr.val_r, q1, q2, q3, e, e2, e3, decide_true, decide_false, beq_self_eq_true, cond_true, cond_false])
  | z :: B, A, w :: J, hJ, hl => by
    have lm : ((A ++ (w :: J) ++ z :: B).map XF.av).length = A.length + (w :: J).length + (B.length + 1) := by simp; omega
    have hl' : A.length + (w :: J).length + (B.length + 1) < 1000000000 := by rw [← lm]; simpa using hl
    have q1 : ((A.length + (w :: J).length : Nat) : Int) < (((A ++ (w :: J) ++ z :: B).map XF.av).length : Int) := by rw [lm]; omega
    have q2 : (0 : Int) ≤ ((A.length + (w :: J).length : Nat) : Int) := by omega
    have q3 : ((A.length + (w :: J).length : Nat) : Int).toNat < ((A ++ (w :: J) ++ z :: B).map XF.av).length := by rw [lm]; omega
    have g := XF.getD (A ++ (w :: J) ++ z :: B) (A.length + (w :: J).length) (by simp)
    have gz : (A ++ (w :: J) ++ z :: B)[A.length + (w :: J).length]'(by simp) = z := by
      rw [List.getElem_append_right (by simp)]; simp
    rw [gz] at g
    have w1 : IntKind.i64.wrap (((A.length + (w :: J).length : Nat) : Int) + 1) = ((A.length + (w :: J).length + 1 : Nat) : Int) := by rw [i64_wrap (by omega) (by omega)]; omega
    by_cases hz : (z.a0 == d.id) = true
    · have f : (z :: B).filter (fun y => !(y.a0 == d.id)) = B.filter (fun y => !(y.a0 == d.id)) := by simp [List.filter_cons, hz]
      rw [f]
      have := del_drop (M0 := M0) d B A ((w :: J) ++ [z]) (by simp) (by simp at hl ⊢; omega)
      have e : A ++ ((w :: J) ++ [z]) ++ B = A ++ (w :: J) ++ z :: B := by simp
      rw [e] at this
      have e5 : ((A.length + ((w :: J) ++ [z]).length : Nat) : Int) = ((A.length + (w :: J).length + 1 : Nat) : Int) := by simp; omega
      rw [e5] at this
      rw [← this]
      exact run_inl (by simp only [M_slices_DeleteFunc_api_Exchange_api_Exchange_0fdrop1_p500000000000000000000000000000000000000, Tr.val_c, Tr.val_r, q1, q2, q3, g, XF.g0, hz, w1, decide_true, beq_self_eq_true, Bool.not_true, cond_true, cond_false])
    · have hz' : (z.a0 == d.id) = false := by simpa using hz
      have f : (z :: B).filter (fun y => !(y.a0 == d.id)) = z :: B.filter (fun y => !(y.a0 == d.id)) := by simp [List.filter_cons, hz']
      rw [f]
      have := del_drop (M0 := M0) d B (A ++ [z]) (J ++ [z]) (by simp) (by simp at hl ⊢; omega)
      have e : (A ++ (w :: J) ++ z :: B).set A.length z = A ++ [z] ++ (J ++ [z]) ++ B := by
        simp
      have q4 : (0 : Int) ≤ (A.length : Int) := by omega
      have q5 : (A.length : Int) < (((A ++ (w :: J) ++ z :: B).map XF.av).length : Int) := by rw [lm]; omega
      have q6 : (A.length : Int).toNat < ((A ++ (w :: J) ++ z :: B).map XF.av).length := by rw [lm]; omega
      have mk := XF.mk_av z
      have e1 : ((A ++ (w :: J) ++ z :: B).map XF.av).set (A.length : Int).toNat z.av = (A ++ [z] ++ (J ++ [z]) ++ B).map XF.av := by rw [← e, List.map_set, Int.toNat_natCast]
      have e2 : ((A ++ [z] ++ (J ++ [z]) ++ B).map XF.av).length = ((A ++ (w :: J) ++ z :: B).map XF.av).length := by rw [lm]; simp; omega
      have w2 : IntKind.i64.wrap ((A.length : Int) + 1) = (((A ++ [z]).length : Nat) : Int) := by rw [i64_wrap (by omega) (by omega)]; simp
      have e5 : (((A ++ [z]).length + (J ++ [z]).length : Nat) : Int) = ((A.length + (w :: J).length + 1 : Nat) : Int) := by simp; omega
      rw [e5] at this
      have e6 : (A ++ [z] ++ B.filter (fun y => !(y.a0 == d.id))) = A ++ z :: B.filter (fun y => !(y.a0 == d.id)) := by simp
      rw [e6] at this
      rw [← this]
      exact run_inl (by simp only [M_slices_DeleteFunc_api_Exchange_api_Exchange_0fdrop1_p500000000000000000000000000000000000000, Tr.val_c, Tr.val_r, q1, q2, q3, q4, q5, q6, g, XF.g0, XF.g1, XF.g2, XF.g3, XF.g4, XF.g5, XF.g6, XF.g7, XF.g8, XF.g9, XF.g10, XF.g11, XF.g12, XF.g13, XF.g14, XF.g15, XF.g16, XF.g17, XF.g18, XF.g19, XF.g20, XF.g21, XF.g22, XF.g23, XF.g24, XF.g25, XF.g26, hz', mk, e1, e2, w1, w2, decide_true, beq_self_eq_true, Bool.not_false, cond_true])
theorem delete_drop (L : List XF) (d : DF) (hl : L.length < 1000000000) : g_slices_DeleteFunc_api_Exchange_api_Exchange_0fdrop1_p500000000000000000000000000000000000000 (L.map XF.av) d.kind d.time d.id d.stan d.x.a0 d.x.a1 d.x.a2 d.x.a3 d.x.a4 d.x.a5 d.x.a6 d.x.a7 d.x.a8 d.x.a9 d.x.a10 d.x.a11 d.x.a12 d.x.a13 d.x.a14 d.x.a15 d.x.a16 d.x.a17 d.x.a18 d.x.a19 d.x.a20 d.x.a21 d.x.a22 d.x.a23 d.x.a24 d.x.a25 d.x.a26 d.p.p0 d.p.p1 d.p.p2 d.p.p3 d.p.p4 d.p.p5 d.p.p6 = some (d.kind, d.time, d.id, d.stan, d.x.a0, d.x.a1, d.x.a2, d.x.a3, d.x.a4, d.x.a5, d.x.a6, d.x.a7, d.x.a8, d.x.a9, d.x.a10, d.x.a11, d.x.a12, d.x.a13, d.x.a14, d.x.a15, d.x.a16, d.x.a17, d.x.a18, d.x.a19, d.x.a20, d.x.a21, d.x.a22, d.x.a23, d.x.a24, d.x.a25, d.x.a26, d.p.p0, d.p.p1, d.p.p2, d.p.p3, d.p.p4, d.p.p5, d.p.p6, (L.filter fun y => !(y.a0 == d.id)).map XF.av) := by
  have ix := index_drop L d hl
  unfold g_slices_DeleteFunc_api_Exchange_api_Exchange_0fdrop1_p500000000000000000000000000000000000000
  rcases ix_spec (fun y : XF => y.a0 == d.id) L 0 with ⟨h1, h2⟩ | ⟨a, y, b, h1, h2, h3, h4⟩
  · rw [h1] at ix
    have e : L.filter (fun y => !(y.a0 == d.id)) = L := List.filter_eq_self.2 fun y hy => by simp [h2 y hy]
    rw [e]
    exact run_inr (by simp only [T_slices_DeleteFunc_api_Exchange_api_Exchange_0fdrop1_p500000000000000000000000000000000000000, Tr.val_c, Tr.val_r, val_opt, ix, Option.bind_some, beq_self_eq_true, cond_true])
  · rw [h4] at ix
    have ne : (((0 + a.length : Nat) : Int) == -1) = false := by rw [beq_eq_false_iff_ne]; omega
    have ll : L.length = a.length + (b.length + 1) := by rw [h1]; simp
    have w1 : IntKind.i64.wrap (((0 + a.length : Nat) : Int) + 1) = ((a.length + [y].length : Nat) : Int) := by rw [i64_wrap (by omega) (by omega)]; simp
    have w0 : ((0 + a.length : Nat) : Int) = (a.length : Int) := by omega
    have e : a ++ [y] ++ b = L := by rw [h1]; simp
    have := del_drop (M0 := L.map XF.av) d b a [y] (by simp) (by rw [e]; exact hl)
    rw [e] at this
    have e2 : L.filter (fun y => !(y.a0 == d.id)) = a ++ b.filter (fun y => !(y.a0 == d.id)) := by
      rw [h1, List.filter_append, List.filter_cons]
      have : a.filter (fun y => !(y.a0 == d.id)) = a := List.filter_eq_self.2 fun y hy => by simp [h2 y hy]
      rw [this]; simp only [h3, Bool.not_true, Bool.false_eq_true, if_false]
    rw [e2, ← this]
    rw [w0] at ix ne w1
    exact run_inl (by simp only [T_slices_DeleteFunc_api_Exchange_api_Exchange_0fdrop1_p500000000000000000000000000000000000000, Tr.val_c, Tr.val_r, val_opt, ix, ne, w1, Option.bind_some, beq_self_eq_true, cond_true, cond_false])
theorem eachParked_eq (L : List PF) (h : ∀ f ∈ L, f.ok) (hl : L.length < 1000000000) : g_state_each_api_Parked_0fparked_ (L.map PF.av) = some (L.map PF.av) := by
  unfold g_state_each_api_Parked_0fparked_
  rw [run_inl (s := (((0 : Nat) : Int), (L.take 0).map PF.av)) (by simp only [T_state_each_api_Parked_0fparked_, Tr.val_r]; rfl)]
  have lm : (L.map PF.av).length = L.length := by simp
  refine run_until (step := M_state_each_api_Parked_0fparked_ (L.map PF.av)) (f := fun i => ((i : Int), (L.take i).map PF.av)) (n := L.length) (fun i hi => ?_) ?_
  · have q1 : (i : Int) < ((L.map PF.av).length : Int) := by rw [lm]; omega
    have q2 : (0 : Int) ≤ (i : Int) := by omega
    have w1 : IntKind.i64.wrap ((i : Int) + 1) = ((i + 1 : Nat) : Int) := by rw [i64_wrap (by omega) (by omega)]; omega
    have g := PF.getD L i hi
    obtain ⟨f, hf⟩ : ∃ f, f = L[i] := ⟨_, rfl⟩
    have t := parked_eq f (h f (by rw [hf]; exact List.getElem_mem hi))
    have s := map_take_get PF.av L i hi
    rw [← hf] at g s
    have mk := PF.mk_av f
    have l1 : ((L.take (i + 1)).map PF.av).length * 113 < 70368744177664 := by rw [List.length_map, List.length_take]; omega
    simp only [M_state_each_api_Parked_0fparked_, Tr.val_c, Tr.val_r, val_opt, q1, q2, g, PF.g0, PF.g1, PF.g2, PF.g3, PF.g4, PF.g5, PF.g6, t, mk, s, l1, w1, Option.bind_some, decide_true, beq_self_eq_true, cond_true]
  · have q1 : ¬ ((L.length : Int) < ((L.map PF.av).length : Int)) := by rw [lm]; omega
    simp only [M_state_each_api_Parked_0fparked_, Tr.val_c, Tr.val_r, q1, decide_false, beq_self_eq_true, cond_true, cond_false, List.take_length]
theorem ix_park (L : List PF) (d : DF) (hl : L.length < 1000000000) : ∀ (m i : Nat), L.length - i ≤ m → i ≤ L.length →
    run (M_slices_IndexFunc_api_Parked_api_Parked_0fpark1_p500000000000000000000000000000000000000 (L.map PF.av) d.kind d.time d.id d.stan d.x.a0 d.x.a1 d.x.a2 d.x.a3 d.x.a4 d.x.a5 d.x.a6 d.x.a7 d.x.a8 d.x.a9 d.x.a10 d.x.a11 d.x.a12 d.x.a13 d.x.a14 d.x.a15 d.x.a16 d.x.a17 d.x.a18 d.x.a19 d.x.a20 d.x.a21 d.x.a22 d.x.a23 d.x.a24 d.x.a25 d.x.a26 d.p.p0 d.p.p1 d.p.p2 d.p.p3 d.p.p4 d.p.p5 d.p.p6) (M_slices_IndexFunc_api_Parked_api_Parked_0fpark1_p500000000000000000000000000000000000000 (L.map PF.av) d.kind d.time d.id d.stan d.x.a0 d.x.a1 d.x.a2 d.x.a3 d.x.a4 d.x.a5 d.x.a6 d.x.a7 d.x.a8 d.x.a9 d.x.a10 d.x.a11 d.x.a12 d.x.a13 d.x.a14 d.x.a15 d.x.a16 d.x.a17 d.x.a18 d.x.a19 d.x.a20 d.x.a21 d.x.a22 d.x.a23 d.x.a24 d.x.a25 d.x.a26 d.p.p0 d.p.p1 d.p.p2 d.p.p3 d.p.p4 d.p.p5 d.p.p6 (i : Int)) = some (ixOf (fun y => y.p0 == d.p.p0) (L.drop i) i, L.map PF.av, d.kind, d.time, d.id, d.stan, d.x.a0, d.x.a1, d.x.a2, d.x.a3, d.x.a4, d.x.a5, d.x.a6, d.x.a7, d.x.a8, d.x.a9, d.x.a10, d.x.a11, d.x.a12, d.x.a13, d.x.a14, d.x.a15, d.x.a16, d.x.a17, d.x.a18, d.x.a19, d.x.a20, d.x.a21, d.x.a22, d.x.a23, d.x.a24, d.x.a25, d.x.a26, d.p.p0, d.p.p1, d.p.p2, d.p.p3, d.p.p4, d.p.p5, d.p.p6) := by
  have lm : (L.map PF.av).length = L.length := by simp
  intro m
  induction m with
  | zero =>
    intro i hm hi
    have q1 : ¬ ((i : Int) < ((L.map PF.av).length : Int)) := by rw [lm]; omega
    rw [List.drop_eq_nil_of_le (by omega)]
    exact run_inr (by simp only [M_slices_IndexFunc_api_Parked_api_Parked_0fpark1_p500000000000000000000000000000000000000, Tr.val_c, Tr.val_r, q1, decide_false, cond_false]; rfl)
  | succ m ih =>
    intro i hm hi
    by_cases h : i = L.length
    · have q1 : ¬ ((i : Int) < ((L.map PF.av).length : Int)) := by rw [lm]; omega
      rw [List.drop_eq_nil_of_le (by omega)]
      exact run_inr (by simp only [M_slices_IndexFunc_api_Parked_api_Parked_0fpark1_p500000000000000000000000000000000000000, Tr.val_c, Tr.val_r, q1, decide_false, cond_false]; rfl)
    · have hi' : i < L.length := by omega
      have q1 : (i : Int) < ((L.map PF.av).length : Int) := by rw [lm]; omega
      have q2 : (0 : Int) ≤ (i : Int) := by omega
      have q3 : (i : Int).toNat < (L.map PF.av).length := by rw [lm]; omega
      have w1 : IntKind.i64.wrap ((i : Int) + 1) = ((i + 1 : Nat) : Int) := by rw [i64_wrap (by omega) (by omega)]; omega
      have g := PF.getD L i hi'
      rw [List.drop_eq_getElem_cons hi', ixOf]
      by_cases hp : (L[i].p0 == d.p.p0) = true
      · rw [if_pos hp]
        exact run_inr (by simp only [M_slices_IndexFunc_api_Parked_api_Parked_0fpark1_p500000000000000000000000000000000000000, Tr.val_c, Tr.val_r, q1, q2, q3, g, PF.g0, hp, decide_true, beq_self_eq_true, cond_true])
      · rw [if_neg hp]
        have hp' : (L[i].p0 == d.p.p0) = false := by simpa using hp
        rw [run_inl (s := ((i + 1 : Nat) : Int)) (by simp only [M_slices_IndexFunc_api_Parked_api_Parked_0fpark1_p500000000000000000000000000000000000000, Tr.val_c, Tr.val_r, q1, q2, q3, g, PF.g0, hp', w1, decide_true, beq_self_eq_true, cond_true, cond_false])]
        exact ih (i + 1) (by omega) (by omega)
theorem index_park (L : List PF) (d : DF) (hl : L.length < 1000000000) : g_slices_IndexFunc_api_Parked_api_Parked_0fpark1_p500000000000000000000000000000000000000 (L.map PF.av) d.kind d.time d.id d.stan d.x.a0 d.x.a1 d.x.a2 d.x.a3 d.x.a4 d.x.a5 d.x.a6 d.x.a7 d.x.a8 d.x.a9 d.x.a10 d.x.a11 d.x.a12 d.x.a13 d.x.a14 d.x.a15 d.x.a16 d.x.a17 d.x.a18 d.x.a19 d.x.a20 d.x.a21 d.x.a22 d.x.a23 d.x.a24 d.x.a25 d.x.a26 d.p.p0 d.p.p1 d.p.p2 d.p.p3 d.p.p4 d.p.p5 d.p.p6 = some (ixOf (fun y => y.p0 == d.p.p0) L 0, L.map PF.av, d.kind, d.time, d.id, d.stan, d.x.a0, d.x.a1, d.x.a2, d.x.a3, d.x.a4, d.x.a5, d.x.a6, d.x.a7, d.x.a8, d.x.a9, d.x.a10, d.x.a11, d.x.a12, d.x.a13, d.x.a14, d.x.a15, d.x.a16, d.x.a17, d.x.a18, d.x.a19, d.x.a20, d.x.a21, d.x.a22, d.x.a23, d.x.a24, d.x.a25, d.x.a26, d.p.p0, d.p.p1, d.p.p2, d.p.p3, d.p.p4, d.p.p5, d.p.p6) := by
  unfold g_slices_IndexFunc_api_Parked_api_Parked_0fpark1_p500000000000000000000000000000000000000
  rw [run_inl (s := ((0 : Nat) : Int)) (by simp only [T_slices_IndexFunc_api_Parked_api_Parked_0fpark1_p500000000000000000000000000000000000000, Tr.val_r]; rfl)]
  exact ix_park L d hl L.length 0 (by omega) (by omega)
theorem ix_unpark (L : List PF) (d : DF) (hl : L.length < 1000000000) : ∀ (m i : Nat), L.length - i ≤ m → i ≤ L.length →
    run (M_slices_IndexFunc_api_Parked_api_Parked_0funpark1_p500000000000000000000000000000000000000 (L.map PF.av) d.kind d.time d.id d.stan d.x.a0 d.x.a1 d.x.a2 d.x.a3 d.x.a4 d.x.a5 d.x.a6 d.x.a7 d.x.a8 d.x.a9 d.x.a10 d.x.a11 d.x.a12 d.x.a13 d.x.a14 d.x.a15 d.x.a16 d.x.a17 d.x.a18 d.x.a19 d.x.a20 d.x.a21 d.x.a22 d.x.a23 d.x.a24 d.x.a25 d.x.a26 d.p.p0 d.p.p1 d.p.p2 d.p.p3 d.p.p4 d.p.p5 d.p.p6) (M_slices_IndexFunc_api_Parked_api_Parked_0funpark1_p500000000000000000000000000000000000000 (L.map PF.av) d.kind d.time d.id d.stan d.x.a0 d.x.a1 d.x.a2 d.x.a3 d.x.a4 d.x.a5 d.x.a6 d.x.a7 d.x.a8 d.x.a9 d.x.a10 d.x.a11 d.x.a12 d.x.a13 d.x.a14 d.x.a15 d.x.a16 d.x.a17 d.x.a18 d.x.a19 d.x.a20 d.x.a21 d.x.a22 d.x.a23 d.x.a24 d.x.a25 d.x.a26 d.p.p0 d.p.p1 d.p.p2 d.p.p3 d.p.p4 d.p.p5 d.p.p6 (i : Int)) = some (ixOf (fun y => y.p0 == d.id) (L.drop i) i, L.map PF.av, d.kind, d.time, d.id, d.stan, d.x.a0, d.x.a1, d.x.a2, d.x.a3, d.x.a4, d.x.a5, d.x.a6, d.x.a7, d.x.a8, d.x.a9, d.x.a10, d.x.a11, d.x.a12, d.x.a13, d.x.a14, d.x.a15, d.x.a16, d.x.a17, d.x.a18, d.x.a19, d.x.a20, d.x.a21, d.x.a22, d.x.a23, d.x.a24, d.x.a25, d.x.a26, d.p.p0, d.p.p1, d.p.p2, d.p.p3, d.p.p4, d.p.p5, d.p.p6) := by
  have lm : (L.map PF.av).length = L.length := by simp
  intro m
  induction m with
  | zero =>
    intro i hm hi
    have q1 : ¬ ((i : Int) < ((L.map PF.av).length : Int)) := by rw [lm]; omega
    rw [List.drop_eq_nil_of_le (by omega)]
    exact run_inr (by simp only [M_slices_IndexFunc_api_Parked_api_Parked_0funpark1_p500000000000000000000000000000000000000, Tr.val_c, Tr.val_r, q1, decide_false, cond_false]; rfl)
  | succ m ih =>
    intro i hm hi
    by_cases h : i = L.length
    · have q1 : ¬ ((i : Int) < ((L.map PF.av).length : Int)) := by rw [lm]; omega
      rw [List.drop_eq_nil_of_le (by omega)]
      exact run_inr (by simp only [M_slices_IndexFunc_api_Parked_api_Parked_0funpark1_p500000000000000000000000000000000000000, Tr.val_c, Tr.val_r, q1, decide_false, cond_false]; rfl)
    · have hi' : i < L.length := by omega
      have q1 : (i : Int) < ((L.map PF.av).length : Int) := by rw [lm]; omega
      have q2 : (0 : Int) ≤ (i : Int) := by omega
      have q3 : (i : Int).toNat < (L.map PF.av).length := by rw [lm]; omega
      have w1 : IntKind.i64.wrap ((i : Int) + 1) = ((i + 1 : Nat) : Int) := by rw [i64_wrap (by omega) (by omega)]; omega
      have g := PF.getD L i hi'
      rw [List.drop_eq_getElem_cons hi', ixOf]
      by_cases hp : (L[i].p0 == d.id) = true
      · rw [if_pos hp]
        exact run_inr (by simp only [M_slices_IndexFunc_api_Parked_api_Parked_0funpark1_p500000000000000000000000000000000000000, Tr.val_c, Tr.val_r, q1, q2, q3, g, PF.g0, hp, decide_true, beq_self_eq_true, cond_true])
      · rw [if_neg hp]
        have hp' : (L[i].p0 == d.id) = false := by simpa using hp
        rw [run_inl (s := ((i + 1 : Nat) : Int)) (by simp only [M_slices_IndexFunc_api_Parked_api_Parked_0funpark1_p500000000000000000000000000000000000000, Tr.val_c, Tr.val_r, q1, q2, q3, g, PF.g0, hp', w1, decide_true, beq_self_eq_true, cond_true, cond_false])]
        exact ih (i + 1) (by omega) (by omega)
theorem index_unpark (L : List PF) (d : DF) (hl : L.length < 1000000000) : g_slices_IndexFunc_api_Parked_api_Parked_0funpark1_p500000000000000000000000000000000000000 (L.map PF.av) d.kind d.time d.id d.stan d.x.a0 d.x.a1 d.x.a2 d.x.a3 d.x.a4 d.x.a5 d.x.a6 d.x.a7 d.x.a8 d.x.a9 d.x.a10 d.x.a11 d.x.a12 d.x.a13 d.x.a14 d.x.a15 d.x.a16 d.x.a17 d.x.a18 d.x.a19 d.x.a20 d.x.a21 d.x.a22 d.x.a23 d.x.a24 d.x.a25 d.x.a26 d.p.p0 d.p.p1 d.p.p2 d.p.p3 d.p.p4 d.p.p5 d.p.p6 = some (ixOf (fun y => y.p0 == d.id) L 0, L.map PF.av, d.kind, d.time, d.id, d.stan, d.x.a0, d.x.a1, d.x.a2, d.x.a3, d.x.a4, d.x.a5, d.x.a6, d.x.a7, d.x.a8, d.x.a9, d.x.a10, d.x.a11, d.x.a12, d.x.a13, d.x.a14, d.x.a15, d.x.a16, d.x.a17, d.x.a18, d.x.a19, d.x.a20, d.x.a21, d.x.a22, d.x.a23, d.x.a24, d.x.a25, d.x.a26, d.p.p0, d.p.p1, d.p.p2, d.p.p3, d.p.p4, d.p.p5, d.p.p6) := by
  unfold g_slices_IndexFunc_api_Parked_api_Parked_0funpark1_p500000000000000000000000000000000000000
  rw [run_inl (s := ((0 : Nat) : Int)) (by simp only [T_slices_IndexFunc_api_Parked_api_Parked_0funpark1_p500000000000000000000000000000000000000, Tr.val_r]; rfl)]
  exact ix_unpark L d hl L.length 0 (by omega) (by omega)
theorem replace_park (f : PF) (L : List PF) (d : DF) (hl : L.length < 1000000000) : g_state_replace_api_Parked_00fpark1_p500000000000000000000000000000000000000 f.p0 f.p1 f.p2 f.p3 f.p4 f.p5 f.p6 (L.map PF.av) d.kind d.time d.id d.stan d.x.a0 d.x.a1 d.x.a2 d.x.a3 d.x.a4 d.x.a5 d.x.a6 d.x.a7 d.x.a8 d.x.a9 d.x.a10 d.x.a11 d.x.a12 d.x.a13 d.x.a14 d.x.a15 d.x.a16 d.x.a17 d.x.a18 d.x.a19 d.x.a20 d.x.a21 d.x.a22 d.x.a23 d.x.a24 d.x.a25 d.x.a26 d.p.p0 d.p.p1 d.p.p2 d.p.p3 d.p.p4 d.p.p5 d.p.p6 = some (d.kind, d.time, d.id, d.stan, d.x.a0, d.x.a1, d.x.a2, d.x.a3, d.x.a4, d.x.a5, d.x.a6, d.x.a7, d.x.a8, d.x.a9, d.x.a10, d.x.a11, d.x.a12, d.x.a13, d.x.a14, d.x.a15, d.x.a16, d.x.a17, d.x.a18, d.x.a19, d.x.a20, d.x.a21, d.x.a22, d.x.a23, d.x.a24, d.x.a25, d.x.a26, d.p.p0, d.p.p1, d.p.p2, d.p.p3, d.p.p4, d.p.p5, d.p.p6, (repl (fun y => y.p0 == d.p.p0) f L).map PF.av) := by
  have lm : (L.map PF.av).length = L.length := by simp
  have ix := index_park L d hl
  have mk := PF.mk_av f
  unfold g_state_replace_api_Parked_00fpark1_p500000000000000000000000000000000000000
  rcases ix_spec (fun y : PF => y.p0 == d.p.p0) L 0 with ⟨h1, h2⟩ | ⟨a, y, b, h1, h2, h3, h4⟩
  · rw [h1] at ix
    have q1 : (-1 : Int) < 0 := by decide
    have e : L.map PF.av ++ [f.av] = (repl (fun y => y.p0 == d.p.p0) f L).map PF.av := by rw [repl_none h2]; simp
    have l1 : ((repl (fun y => y.p0 == d.p.p0) f L).map PF.av).length * 113 < 70368744177664 := by rw [repl_none h2]; simp; omega
    simp only [T_state_replace_api_Parked_00fpark1_p500000000000000000000000000000000000000, Tr.val_c, Tr.val_r, val_opt, ix, q1, mk, e, l1, Option.bind_some, decide_true, beq_self_eq_true, cond_true]
  · rw [h4] at ix
    have ll : L.length = a.length + (b.length + 1) := by rw [h1]; simp
    have q1 : ¬ (((0 + a.length : Nat) : Int) < 0) := by omega
    have q2 : (0 : Int) ≤ ((0 + a.length : Nat) : Int) := by omega
    have q3 : ((0 + a.length : Nat) : Int) < ((L.map PF.av).length : Int) := by rw [lm]; omega
    have q4 : ((0 + a.length : Nat) : Int).toNat < (L.map PF.av).length := by rw [lm]; omega
    have e : (L.map PF.av).set ((0 + a.length : Nat) : Int).toNat f.av = (repl (fun y => y.p0 == d.p.p0) f L).map PF.av := by
      rw [h1, repl_some (p := fun y : PF => y.p0 == d.p.p0) h3 h2, Int.toNat_natCast, Nat.zero_add]
      simp
    have l1 : ((repl (fun y => y.p0 == d.p.p0) f L).map PF.av).length = (L.map PF.av).length := by rw [h1, repl_some (p := fun y : PF => y.p0 == d.p.p0) h3 h2]; simp
    simp only [T_state_replace_api_Parked_00fpark1_p500000000000000000000000000000000000000, Tr.val_c, Tr.val_r, val_opt, ix, q1, q2, q3, q4, mk, e, l1, Option.bind_some, decide_true, decide_false, beq_self_eq_true, cond_true, cond_false]
theorem del_unpark {M0 : List AV} (d : DF) : ∀ (B A J : List PF), J ≠ [] → (A ++ J ++ B).length < 1000000000 →
    run (M_slices_DeleteFunc_api_Parked_api_Parked_0funpark1_p500000000000000000000000000000000000000 M0 d.kind d.time d.id d.stan d.x.a0 d.x.a1 d.x.a2 d.x.a3 d.x.a4 d.x.a5 d.x.a6 d.x.a7 d.x.a8 d.x.a9 d.x.a10 d.x.a11 d.x.a12 d.x.a13 d.x.a14 d.x.a15 d.x.a16 d.x.a17 d.x.a18 d.x.a19 d.x.a20 d.x.a21 d.x.a22 d.x.a23 d.x.a24 d.x.a25 d.x.a26 d.p.p0 d.p.p1 d.p.p2 d.p.p3 d.p.p4 d.p.p5 d.p.p6) (M_slices_DeleteFunc_api_Parked_api_Parked_0funpark1_p500000000000000000000000000000000000000 M0 d.kind d.time d.id d.stan d.x.a0 d.x.a1 d.x.a2 d.x.a3 d.x.a4 d.x.a5 d.x.a6 d.x.a7 d.x.a8 d.x.a9 d.x.a10 d.x.a11 d.x.a12 d.x.a13 d.x.a14 d.x.a15 d.x.a16 d.x.a17 d.x.a18 d.x.a19 d.x.a20 d.x.a21 d.x.a22 d.x.a23 d.x.a24 d.x.a25 d.x.a26 d.p.p0 d.p.p1 d.p.p2 d.p.p3 d.p.p4 d.p.p5 d.p.p6 ((A.length : Int), ((A.length + J.length : Nat) : Int), d.kind, d.time, d.id, d.stan, d.x.a0, d.x.a1, d.x.a2, d.x.a3, d.x.a4, d.x.a5, d.x.a6, d.x.a7, d.x.a8, d.x.a9, d.x.a10, d.x.a11, d.x.a12, d.x.a13, d.x.a14, d.x.a15, d.x.a16, d.x.a17, d.x.a18, d.x.a19, d.x.a20, d.x.a21, d.x.a22, d.x.a23, d.x.a24, d.x.a25, d.x.a26, d.p.p0, d.p.p1, d.p.p2, d.p.p3, d.p.p4, d.p.p5, d.p.p6, (A ++ J ++ B).map PF.av)) = some (d.kind, d.time, d.id, d.stan, d.x.a0, d.x.a1, d.x.a2, d.x.a3, d.x.a4, d.x.a5, d.x.a6, d.x.a7, d.x.a8, d.x.a9, d.x.a10, d.x.a11, d.x.a12, d.x.a13, d.x.a14, d.x.a15, d.x.a16, d.x.a17, d.x.a18, d.x.a19, d.x.a20, d.x.a21, d.x.a22, d.x.a23, d.x.a24, d.x.a25, d.x.a26, d.p.p0, d.p.p1, d.p.p2, d.p.p3, d.p.p4, d.p.p5, d.p.p6, (A ++ B.filter fun y => !(y.p0 == d.id)).map PF.av)
  | [], A, J, hJ, hl => by
    have lm : ((A ++ J ++ []).map PF.av).length = A.length + J.length := by simp
    have q1 : ¬ (((A.length + J.length : Nat) : Int) < (((A ++ J ++ []).map PF.av).length : Int)) := by rw [lm]; omega
    have q2 : (0 : Int) ≤ (A.length : Int) := by omega
    have q3 : (A.length : Int) ≤ (((A ++ J ++ []).map PF.av).length : Int) := by rw [lm]; omega
    have e : List.take (A.length : Int).toNat ((A ++ J ++ []).map PF.av) = A.map PF.av := by simp
    have e2 : ∀ z : AV, List.take (A.length : Int).toNat (A.map PF.av ++ List.replicate (((A ++ J ++ []).map PF.av).length - (A.length : Int).toNat) z) = A.map PF.av := fun z => by
      rw [Int.toNat_natCast, show A.length = (A.map PF.av).length by simp, List.take_left]
    have e3 : ∀ z : AV, (A.map PF.av ++ List.replicate (((A ++ J ++ []).map PF.av).length - (A.length : Int).toNat) z).length = ((A ++ J ++ []).map PF.av).length := fun z => by
      rw [List.length_append, List.length_replicate, lm, Int.toNat_natCast, List.length_map]; omega
    have e4 : (A ++ List.filter (fun y => !(y.p0 == d.id)) ([] : List PF)).map PF.av = A.map PF.av := by simp
    rw [e4]
    exact run_inr (by simp only [M_slices_DeleteFunc_api_Parked_api_Parked_0funpark1_p500000000000000000000000000000000000000, Tr.val_c, Tr.val_r, q1, q2, q3, e, e2, e3, decide_true, decide_false, beq_self_eq_true, cond_true, cond_false])
  | z :: B, A, w :: J, hJ, hl => by
    have lm : ((A ++ (w :: J) ++ z :: B).map PF.av).length = A.length + (w :: J).length + (B.length + 1) := by simp; omega
    have hl' : A.length + (w :: J).length + (B.length + 1) < 1000000000 := by rw [← lm]; simpa using hl
    have q1 : ((A.length + (w :: J).length : Nat) : Int) < (((A ++ (w :: J) ++ z :: B).map PF.av).length : Int) := by rw [lm]; omega
    have q2 : (0 : Int) ≤ ((A.length + (w :: J).length : Nat) : Int) := by omega
    have q3 : ((A.length + (w :: J).length : Nat) : Int).toNat < ((A ++ (w :: J) ++ z :: B).map PF.av).length := by rw [lm]; omega
    have g := PF.getD (A ++ (w :: J) ++ z :: B) (A.length + (w :: J).length) (by simp)
    have gz : (A ++ (w :: J) ++ z :: B)[A.length + (w :: J).length]'(by simp) = z := by
      rw [List.getElem_append_right (by simp)]; simp
    rw [gz] at g
    have w1 : IntKind.i64.wrap (((A.length + (w :: J).length : Nat) : Int) + 1) = ((A.length + (w :: J).length + 1 : Nat) : Int) := by rw [i64_wrap (by omega) (by omega)]; omega
    by_cases hz : (z.p0 == d.id) = true
    · have f : (z :: B).filter (fun y => !(y.p0 == d.id)) = B.filter (fun y => !(y.p0 == d.id)) := by simp [List.filter_cons, hz]
      rw [f]
      have := del_unpark (M0 := M0) d B A ((w :: J) ++ [z]) (by simp) (by simp at hl ⊢; omega)
      have e : A ++ ((w :: J) ++ [z]) ++ B = A ++ (w :: J) ++ z :: B := by simp
      rw [e] at this
      have e5 : ((A.length + ((w :: J) ++ [z]).length : Nat) : Int) = ((A.length + (w :: J).length + 1 : Nat) : Int) := by simp; omega
      rw [e5] at this
      rw [← this]
      exact run_inl (by simp only [M_slices_DeleteFunc_api_Parked_api_Parked_0funpark1_p500000000000000000000000000000000000000, Tr.val_c, Tr.val_r, q1, q2, q3, g, PF.g0, hz, w1, decide_true, beq_self_eq_true, Bool.not_true, cond_true, cond_false])
    · have hz' : (z.p0 == d.id) = false := by simpa using hz
      have f : (z :: B).filter (fun y => !(y.p0 == d.id)) = z :: B.filter (fun y => !(y.p0 == d.id)) := by simp [List.filter_cons, hz']
      rw [f]
      have := del_unpark (M0 := M0) d B (A ++ [z]) (J ++ [z]) (by simp) (by simp at hl ⊢; omega)
      have e : (A ++ (w :: J) ++ z :: B).set A.length z = A ++ [z] ++ (J ++ [z]) ++ B := by
        simp
      have q4 : (0 : Int) ≤ (A.length : Int) := by omega
      have q5 : (A.length : Int) < (((A ++ (w :: J) ++ z :: B).map PF.av).length : Int) := by rw [lm]; omega
      have q6 : (A.length : Int).toNat < ((A ++ (w :: J) ++ z :: B).map PF.av).length := by rw [lm]; omega
      have mk := PF.mk_av z
      have e1 : ((A ++ (w :: J) ++ z :: B).map PF.av).set (A.length : Int).toNat z.av = (A ++ [z] ++ (J ++ [z]) ++ B).map PF.av := by rw [← e, List.map_set, Int.toNat_natCast]
      have e2 : ((A ++ [z] ++ (J ++ [z]) ++ B).map PF.av).length = ((A ++ (w :: J) ++ z :: B).map PF.av).length := by rw [lm]; simp; omega
      have w2 : IntKind.i64.wrap ((A.length : Int) + 1) = (((A ++ [z]).length : Nat) : Int) := by rw [i64_wrap (by omega) (by omega)]; simp
      have e5 : (((A ++ [z]).length + (J ++ [z]).length : Nat) : Int) = ((A.length + (w :: J).length + 1 : Nat) : Int) := by simp; omega
      rw [e5] at this
      have e6 : (A ++ [z] ++ B.filter (fun y => !(y.p0 == d.id))) = A ++ z :: B.filter (fun y => !(y.p0 == d.id)) := by simp
      rw [e6] at this
      rw [← this]
      exact run_inl (by simp only [M_slices_DeleteFunc_api_Parked_api_Parked_0funpark1_p500000000000000000000000000000000000000, Tr.val_c, Tr.val_r, q1, q2, q3, q4, q5, q6, g, PF.g0, PF.g1, PF.g2, PF.g3, PF.g4, PF.g5, PF.g6, hz', mk, e1, e2, w1, w2, decide_true, beq_self_eq_true, Bool.not_false, cond_true])
theorem delete_unpark (L : List PF) (d : DF) (hl : L.length < 1000000000) : g_slices_DeleteFunc_api_Parked_api_Parked_0funpark1_p500000000000000000000000000000000000000 (L.map PF.av) d.kind d.time d.id d.stan d.x.a0 d.x.a1 d.x.a2 d.x.a3 d.x.a4 d.x.a5 d.x.a6 d.x.a7 d.x.a8 d.x.a9 d.x.a10 d.x.a11 d.x.a12 d.x.a13 d.x.a14 d.x.a15 d.x.a16 d.x.a17 d.x.a18 d.x.a19 d.x.a20 d.x.a21 d.x.a22 d.x.a23 d.x.a24 d.x.a25 d.x.a26 d.p.p0 d.p.p1 d.p.p2 d.p.p3 d.p.p4 d.p.p5 d.p.p6 = some (d.kind, d.time, d.id, d.stan, d.x.a0, d.x.a1, d.x.a2, d.x.a3, d.x.a4, d.x.a5, d.x.a6, d.x.a7, d.x.a8, d.x.a9, d.x.a10, d.x.a11, d.x.a12, d.x.a13, d.x.a14, d.x.a15, d.x.a16, d.x.a17, d.x.a18, d.x.a19, d.x.a20, d.x.a21, d.x.a22, d.x.a23, d.x.a24, d.x.a25, d.x.a26, d.p.p0, d.p.p1, d.p.p2, d.p.p3, d.p.p4, d.p.p5, d.p.p6, (L.filter fun y => !(y.p0 == d.id)).map PF.av) := by
  have ix := index_unpark L d hl
  unfold g_slices_DeleteFunc_api_Parked_api_Parked_0funpark1_p500000000000000000000000000000000000000
  rcases ix_spec (fun y : PF => y.p0 == d.id) L 0 with ⟨h1, h2⟩ | ⟨a, y, b, h1, h2, h3, h4⟩
  · rw [h1] at ix
    have e : L.filter (fun y => !(y.p0 == d.id)) = L := List.filter_eq_self.2 fun y hy => by simp [h2 y hy]
    rw [e]
    exact run_inr (by simp only [T_slices_DeleteFunc_api_Parked_api_Parked_0funpark1_p500000000000000000000000000000000000000, Tr.val_c, Tr.val_r, val_opt, ix, Option.bind_some, beq_self_eq_true, cond_true])
  · rw [h4] at ix
    have ne : (((0 + a.length : Nat) : Int) == -1) = false := by rw [beq_eq_false_iff_ne]; omega
    have ll : L.length = a.length + (b.length + 1) := by rw [h1]; simp
    have w1 : IntKind.i64.wrap (((0 + a.length : Nat) : Int) + 1) = ((a.length + [y].length : Nat) : Int) := by rw [i64_wrap (by omega) (by omega)]; simp
    have w0 : ((0 + a.length : Nat) : Int) = (a.length : Int) := by omega
    have e : a ++ [y] ++ b = L := by rw [h1]; simp
    have := del_unpark (M0 := L.map PF.av) d b a [y] (by simp) (by rw [e]; exact hl)
    rw [e] at this
    have e2 : L.filter (fun y => !(y.p0 == d.id)) = a ++ b.filter (fun y => !(y.p0 == d.id)) := by
      rw [h1, List.filter_append, List.filter_cons]
      have : a.filter (fun y => !(y.p0 == d.id)) = a := List.filter_eq_self.2 fun y hy => by simp [h2 y hy]
      rw [this]; simp only [h3, Bool.not_true, Bool.false_eq_true, if_false]
    rw [e2, ← this]
    rw [w0] at ix ne w1
    exact run_inl (by simp only [T_slices_DeleteFunc_api_Parked_api_Parked_0funpark1_p500000000000000000000000000000000000000, Tr.val_c, Tr.val_r, val_opt, ix, ne, w1, Option.bind_some, beq_self_eq_true, cond_true, cond_false])
theorem put_eq (d : DF) (h : d.x.ok) (t n s : Int) (L : List XF) (M : List PF) (hl : L.length < 1000000000) : g_state_book_put_p0500000 d.kind d.time d.id d.stan d.x.a0 d.x.a1 d.x.a2 d.x.a3 d.x.a4 d.x.a5 d.x.a6 d.x.a7 d.x.a8 d.x.a9 d.x.a10 d.x.a11 d.x.a12 d.x.a13 d.x.a14 d.x.a15 d.x.a16 d.x.a17 d.x.a18 d.x.a19 d.x.a20 d.x.a21 d.x.a22 d.x.a23 d.x.a24 d.x.a25 d.x.a26 d.p.p0 d.p.p1 d.p.p2 d.p.p3 d.p.p4 d.p.p5 d.p.p6 t n s (L.map XF.av) (M.map PF.av) = some (t, n, s, (repl (fun y => y.a0 == d.x.a0) d.x L).map XF.av, M.map PF.av) := by
  unfold g_state_book_put_p0500000
  simp only [T_state_book_put_p0500000, Tr.val_c, Tr.val_r, val_opt, exchange_eq d.x h, replace_put d.x L d hl, Option.bind_some, beq_self_eq_true, cond_true]
theorem park_eq (d : DF) (h : d.p.ok) (t n s : Int) (L : List XF) (M : List PF) (hl : M.length < 1000000000) : g_state_book_park_p0500000 d.kind d.time d.id d.stan d.x.a0 d.x.a1 d.x.a2 d.x.a3 d.x.a4 d.x.a5 d.x.a6 d.x.a7 d.x.a8 d.x.a9 d.x.a10 d.x.a11 d.x.a12 d.x.a13 d.x.a14 d.x.a15 d.x.a16 d.x.a17 d.x.a18 d.x.a19 d.x.a20 d.x.a21 d.x.a22 d.x.a23 d.x.a24 d.x.a25 d.x.a26 d.p.p0 d.p.p1 d.p.p2 d.p.p3 d.p.p4 d.p.p5 d.p.p6 t n s (L.map XF.av) (M.map PF.av) = some (t, n, s, L.map XF.av, (repl (fun y => y.p0 == d.p.p0) d.p M).map PF.av) := by
  unfold g_state_book_park_p0500000
  simp only [T_state_book_park_p0500000, Tr.val_c, Tr.val_r, val_opt, parked_eq d.p h, replace_park d.p M d hl, Option.bind_some, beq_self_eq_true, cond_true]
theorem drop_eq (d : DF) (t n s : Int) (L : List XF) (M : List PF) (hl : L.length < 1000000000) : g_state_book_drop_p0500000 d.kind d.time d.id d.stan d.x.a0 d.x.a1 d.x.a2 d.x.a3 d.x.a4 d.x.a5 d.x.a6 d.x.a7 d.x.a8 d.x.a9 d.x.a10 d.x.a11 d.x.a12 d.x.a13 d.x.a14 d.x.a15 d.x.a16 d.x.a17 d.x.a18 d.x.a19 d.x.a20 d.x.a21 d.x.a22 d.x.a23 d.x.a24 d.x.a25 d.x.a26 d.p.p0 d.p.p1 d.p.p2 d.p.p3 d.p.p4 d.p.p5 d.p.p6 t n s (L.map XF.av) (M.map PF.av) = some (t, n, s, (L.filter fun y => !(y.a0 == d.id)).map XF.av, M.map PF.av) := by
  unfold g_state_book_drop_p0500000
  simp only [T_state_book_drop_p0500000, Tr.val_c, Tr.val_r, val_opt, delete_drop L d hl, Option.bind_some, beq_self_eq_true, cond_true]
theorem unpark_eq (d : DF) (t n s : Int) (L : List XF) (M : List PF) (hl : M.length < 1000000000) : g_state_book_unpark_p0500000 d.kind d.time d.id d.stan d.x.a0 d.x.a1 d.x.a2 d.x.a3 d.x.a4 d.x.a5 d.x.a6 d.x.a7 d.x.a8 d.x.a9 d.x.a10 d.x.a11 d.x.a12 d.x.a13 d.x.a14 d.x.a15 d.x.a16 d.x.a17 d.x.a18 d.x.a19 d.x.a20 d.x.a21 d.x.a22 d.x.a23 d.x.a24 d.x.a25 d.x.a26 d.p.p0 d.p.p1 d.p.p2 d.p.p3 d.p.p4 d.p.p5 d.p.p6 t n s (L.map XF.av) (M.map PF.av) = some (t, n, s, L.map XF.av, (M.filter fun y => !(y.p0 == d.id)).map PF.av) := by
  unfold g_state_book_unpark_p0500000
  simp only [T_state_book_unpark_p0500000, Tr.val_c, Tr.val_r, val_opt, delete_unpark M d hl, Option.bind_some, beq_self_eq_true, cond_true]
theorem time_eq (d : DF) (t n s : Int) (L : List XF) (M : List PF) : g_state_book_time_p0500000 d.kind d.time d.id d.stan d.x.a0 d.x.a1 d.x.a2 d.x.a3 d.x.a4 d.x.a5 d.x.a6 d.x.a7 d.x.a8 d.x.a9 d.x.a10 d.x.a11 d.x.a12 d.x.a13 d.x.a14 d.x.a15 d.x.a16 d.x.a17 d.x.a18 d.x.a19 d.x.a20 d.x.a21 d.x.a22 d.x.a23 d.x.a24 d.x.a25 d.x.a26 d.p.p0 d.p.p1 d.p.p2 d.p.p3 d.p.p4 d.p.p5 d.p.p6 t n s (L.map XF.av) (M.map PF.av) = some (d.time, n, s, L.map XF.av, M.map PF.av) := by
  unfold g_state_book_time_p0500000
  simp only [T_state_book_time_p0500000, Tr.val_c, Tr.val_r, beq_self_eq_true, cond_true]
theorem next_eq (d : DF) (t n s : Int) (L : List XF) (M : List PF) : g_state_book_next_p0500000 d.kind d.time d.id d.stan d.x.a0 d.x.a1 d.x.a2 d.x.a3 d.x.a4 d.x.a5 d.x.a6 d.x.a7 d.x.a8 d.x.a9 d.x.a10 d.x.a11 d.x.a12 d.x.a13 d.x.a14 d.x.a15 d.x.a16 d.x.a17 d.x.a18 d.x.a19 d.x.a20 d.x.a21 d.x.a22 d.x.a23 d.x.a24 d.x.a25 d.x.a26 d.p.p0 d.p.p1 d.p.p2 d.p.p3 d.p.p4 d.p.p5 d.p.p6 t n s (L.map XF.av) (M.map PF.av) = some (t, d.id, d.stan, L.map XF.av, M.map PF.av) := by
  unfold g_state_book_next_p0500000
  simp only [T_state_book_next_p0500000, Tr.val_c, Tr.val_r, beq_self_eq_true, cond_true]
structure PS where
  t : Int
  n : Int
  s : Int
  L : List XF
  M : List PF
def appD (d : DF) (b : PS) : PS :=
  if d.kind = 1 then { b with t := d.time } else if d.kind = 2 then { b with n := d.id, s := d.stan }
  else if d.kind = 3 then { b with L := repl (fun y => y.a0 == d.x.a0) d.x b.L } else if d.kind = 4 then { b with L := b.L.filter fun y => !(y.a0 == d.id) }
  else if d.kind = 5 then { b with M := repl (fun y => y.p0 == d.p.p0) d.p b.M } else if d.kind = 6 then { b with M := b.M.filter fun y => !(y.p0 == d.id) } else b
def DF.ok (d : DF) : Prop := d.x.ok ∧ d.p.ok
theorem apply_eq (d : DF) (h : d.ok) (b : PS) (hl : b.L.length < 1000000000) (hm : b.M.length < 1000000000) : g_state_book_apply_p0500000 d.kind d.time d.id d.stan d.x.a0 d.x.a1 d.x.a2 d.x.a3 d.x.a4 d.x.a5 d.x.a6 d.x.a7 d.x.a8 d.x.a9 d.x.a10 d.x.a11 d.x.a12 d.x.a13 d.x.a14 d.x.a15 d.x.a16 d.x.a17 d.x.a18 d.x.a19 d.x.a20 d.x.a21 d.x.a22 d.x.a23 d.x.a24 d.x.a25 d.x.a26 d.p.p0 d.p.p1 d.p.p2 d.p.p3 d.p.p4 d.p.p5 d.p.p6 b.t b.n b.s (b.L.map XF.av) (b.M.map PF.av) = some ((appD d b).t, (appD d b).n, (appD d b).s, (appD d b).L.map XF.av, (appD d b).M.map PF.av) := by
  unfold g_state_book_apply_p0500000 appD
  by_cases k1 : d.kind = 1
  · have b1 : (d.kind == 1) = true := by rw [beq_iff_eq]; exact k1
    rw [if_pos k1]
    simp only [T_state_book_apply_p0500000, Tr.val_c, Tr.val_r, val_opt, b1, time_eq d, Option.bind_some, beq_self_eq_true, cond_true]
  have b1 : (d.kind == 1) = false := by rw [beq_eq_false_iff_ne]; exact k1
  rw [if_neg k1]
  by_cases k2 : d.kind = 2
  · have b2 : (d.kind == 2) = true := by rw [beq_iff_eq]; exact k2
    rw [if_pos k2]
    simp only [T_state_book_apply_p0500000, Tr.val_c, Tr.val_r, val_opt, b1, b2, next_eq d, Option.bind_some, beq_self_eq_true, cond_true, cond_false]
  have b2 : (d.kind == 2) = false := by rw [beq_eq_false_iff_ne]; exact k2
  rw [if_neg k2]
  by_cases k3 : d.kind = 3
  · have b3 : (d.kind == 3) = true := by rw [beq_iff_eq]; exact k3
    rw [if_pos k3]
    simp only [T_state_book_apply_p0500000, Tr.val_c, Tr.val_r, val_opt, b1, b2, b3, put_eq d h.1 b.t b.n b.s b.L b.M hl, Option.bind_some, beq_self_eq_true, cond_true, cond_false]
  have b3 : (d.kind == 3) = false := by rw [beq_eq_false_iff_ne]; exact k3
  rw [if_neg k3]
  by_cases k4 : d.kind = 4
  · have b4 : (d.kind == 4) = true := by rw [beq_iff_eq]; exact k4
    rw [if_pos k4]
    simp only [T_state_book_apply_p0500000, Tr.val_c, Tr.val_r, val_opt, b1, b2, b3, b4, drop_eq d b.t b.n b.s b.L b.M hl, Option.bind_some, beq_self_eq_true, cond_true, cond_false]
  have b4 : (d.kind == 4) = false := by rw [beq_eq_false_iff_ne]; exact k4
  rw [if_neg k4]
  by_cases k5 : d.kind = 5
  · have b5 : (d.kind == 5) = true := by rw [beq_iff_eq]; exact k5
    rw [if_pos k5]
    simp only [T_state_book_apply_p0500000, Tr.val_c, Tr.val_r, val_opt, b1, b2, b3, b4, b5, park_eq d h.2 b.t b.n b.s b.L b.M hm, Option.bind_some, beq_self_eq_true, cond_true, cond_false]
  have b5 : (d.kind == 5) = false := by rw [beq_eq_false_iff_ne]; exact k5
  rw [if_neg k5]
  by_cases k6 : d.kind = 6
  · have b6 : (d.kind == 6) = true := by rw [beq_iff_eq]; exact k6
    rw [if_pos k6]
    simp only [T_state_book_apply_p0500000, Tr.val_c, Tr.val_r, val_opt, b1, b2, b3, b4, b5, b6, unpark_eq d b.t b.n b.s b.L b.M hm, Option.bind_some, beq_self_eq_true, cond_true, cond_false]
  have b6 : (d.kind == 6) = false := by rw [beq_eq_false_iff_ne]; exact k6
  rw [if_neg k6]
  simp only [T_state_book_apply_p0500000, Tr.val_c, Tr.val_r, b1, b2, b3, b4, b5, b6, beq_self_eq_true, cond_true, cond_false]
theorem repl_mem {α : Type} {p : α → Bool} {x y : α} : ∀ {l : List α}, y ∈ repl p x l → y = x ∨ y ∈ l
  | [], h => by simpa [repl] using h
  | z :: l, h => by
    unfold repl at h
    split at h
    · rcases List.mem_cons.1 h with h | h
      · exact .inl h
      · exact .inr (by simp [h])
    · rcases List.mem_cons.1 h with h | h
      · exact .inr (by simp [h])
      · rcases repl_mem h with h | h
        · exact .inl h
        · exact .inr (by simp [h])
theorem repl_len {α : Type} {p : α → Bool} {x : α} : ∀ {l : List α}, (repl p x l).length ≤ l.length + 1
  | [] => by simp [repl]
  | z :: l => by
    unfold repl
    split
    · simp
    · have := repl_len (p := p) (x := x) (l := l); simp; omega
def PS.ok (b : PS) : Prop := (∀ f ∈ b.L, f.ok) ∧ ∀ f ∈ b.M, f.ok
theorem appD_ok (d : DF) (h : d.ok) (b : PS) (hb : b.ok) : (appD d b).ok ∧ (appD d b).L.length ≤ b.L.length + 1 ∧ (appD d b).M.length ≤ b.M.length + 1 := by
  unfold appD
  repeat' split
  all_goals first
    | exact ⟨hb, by simp, by simp⟩
    | exact ⟨⟨fun f hf => by
        rcases repl_mem hf with rfl | hf
        · exact h.1
        · exact hb.1 f hf, hb.2⟩, repl_len, by simp⟩
    | exact ⟨⟨hb.1, fun f hf => by
        rcases repl_mem hf with rfl | hf
        · exact h.2
        · exact hb.2 f hf⟩, by simp, repl_len⟩
    | exact ⟨⟨fun f hf => hb.1 f (List.mem_filter.1 hf).1, hb.2⟩, Nat.le_succ_of_le (List.length_filter_le _ _), by simp⟩
    | exact ⟨⟨hb.1, fun f hf => hb.2 f (List.mem_filter.1 hf).1⟩, by simp, Nat.le_succ_of_le (List.length_filter_le _ _)⟩
theorem appAll_from (D : List DF) (hD : ∀ d ∈ D, d.ok) (hlen : D.length < 100000000) (x0 x1 x2 : Int) (x3 x4 : List AV) : ∀ (m i : Nat) (b : PS), D.length - i ≤ m → i ≤ D.length → b.ok → b.L.length + (D.length - i) < 900000000 → b.M.length + (D.length - i) < 900000000 →
    run (M_state_Apply x0 x1 x2 x3 x4 (D.map DF.av)) (M_state_Apply x0 x1 x2 x3 x4 (D.map DF.av) ((i : Int), b.t, b.n, b.s, b.L.map XF.av, b.M.map PF.av)) =
      some (((D.drop i).foldl (fun b d => appD d b) b).t, ((D.drop i).foldl (fun b d => appD d b) b).n, ((D.drop i).foldl (fun b d => appD d b) b).s, ((D.drop i).foldl (fun b d => appD d b) b).L.map XF.av, ((D.drop i).foldl (fun b d => appD d b) b).M.map PF.av) := by
  have lm : (D.map DF.av).length = D.length := by simp
  intro m
  have fin : ∀ (i : Nat) (b : PS), D.length ≤ i → run (M_state_Apply x0 x1 x2 x3 x4 (D.map DF.av)) (M_state_Apply x0 x1 x2 x3 x4 (D.map DF.av) ((i : Int), b.t, b.n, b.s, b.L.map XF.av, b.M.map PF.av)) =
      some (((D.drop i).foldl (fun b d => appD d b) b).t, ((D.drop i).foldl (fun b d => appD d b) b).n, ((D.drop i).foldl (fun b d => appD d b) b).s, ((D.drop i).foldl (fun b d => appD d b) b).L.map XF.av, ((D.drop i).foldl (fun b d => appD d b) b).M.map PF.av) := by
    intro i b hi
    have q1 : ¬ ((i : Int) < ((D.map DF.av).length : Int)) := by rw [lm]; omega
    rw [List.drop_eq_nil_of_le hi]
    exact run_inr (by simp only [M_state_Apply, Tr.val_c, Tr.val_r, q1, decide_false, beq_self_eq_true, cond_true, cond_false, List.foldl_nil])
  induction m with
  | zero => intro i b hm hi hb h1 h2; exact fin i b (by omega)
  | succ m ih =>
    intro i b hm hi hb h1 h2
    by_cases he : D.length ≤ i
    · exact fin i b he
    · have hi' : i < D.length := by omega
      have q1 : (i : Int) < ((D.map DF.av).length : Int) := by rw [lm]; omega
      have q2 : (0 : Int) ≤ (i : Int) := by omega
      have w1 : IntKind.i64.wrap ((i : Int) + 1) = ((i + 1 : Nat) : Int) := by rw [i64_wrap (by omega) (by omega)]; omega
      have g := DF.getD D i hi'
      obtain ⟨d, hd⟩ : ∃ d, d = D[i] := ⟨_, rfl⟩
      rw [← hd] at g
      have hok := hD d (by rw [hd]; exact List.getElem_mem hi')
      have a := apply_eq d hok b (by omega) (by omega)
      obtain ⟨k1, k2, k3⟩ := appD_ok d hok b hb
      rw [List.drop_eq_getElem_cons hi', ← hd, List.foldl_cons, ← ih (i + 1) (appD d b) (by omega) (by omega) k1 (by omega) (by omega)]
      exact run_inl (by simp only [M_state_Apply, Tr.val_c, Tr.val_r, val_opt, q1, q2, g, DF.g0, DF.g1, DF.g2, DF.g3, DF.g4, DF.g5, DF.g6, DF.g7, DF.g8, DF.g9, DF.g10, DF.g11, DF.g12, DF.g13, DF.g14, DF.g15, DF.g16, DF.g17, DF.g18, DF.g19, DF.g20, DF.g21, DF.g22, DF.g23, DF.g24, DF.g25, DF.g26, DF.g27, DF.g28, DF.g29, DF.g30, DF.g31, DF.g32, DF.g33, DF.g34, DF.g35, DF.g36, DF.g37, a, w1, Option.bind_some, decide_true, beq_self_eq_true, cond_true])
theorem Apply_eq (D : List DF) (hD : ∀ d ∈ D, d.ok) (b : PS) (hb : b.ok) (h : D.length < 100000000) (hl : b.L.length < 100000000) (hm : b.M.length < 100000000) :
    g_state_Apply b.t b.n b.s (b.L.map XF.av) (b.M.map PF.av) (D.map DF.av) = some ((D.foldl (fun b d => appD d b) b).t, (D.foldl (fun b d => appD d b) b).n, (D.foldl (fun b d => appD d b) b).s, (D.foldl (fun b d => appD d b) b).L.map XF.av, (D.foldl (fun b d => appD d b) b).M.map PF.av) := by
  unfold g_state_Apply
  have e1 := eachExchange_eq b.L hb.1 (by omega)
  have e2 := eachParked_eq b.M hb.2 (by omega)
  rw [run_inl (s := (((0 : Nat) : Int), b.t, b.n, b.s, b.L.map XF.av, b.M.map PF.av)) (by simp only [T_state_Apply, Tr.val_r, val_opt, e1, e2, Option.bind_some]; rfl)]
  exact appAll_from D hD h _ _ _ _ _ D.length 0 b (by omega) (by omega) hb (by omega) (by omega)
theorem find_from (L : List XF) (hL : ∀ f ∈ L, f.ok) (hl : L.length < 1000000000) (k x0 x1 x2 : Int) (x4 : List AV) : ∀ (m i : Nat), L.length - i ≤ m → i ≤ L.length →
    run (M_state_Find x0 x1 x2 (L.map XF.av) x4 k) (M_state_Find x0 x1 x2 (L.map XF.av) x4 k (i : Int)) = some (match (L.drop i).find? (fun y => y.a0 == k) with
      | some f => (f.a0, f.a1, f.a2, f.a3, f.a4, f.a5, f.a6, f.a7, f.a8, f.a9, f.a10, f.a11, f.a12, f.a13, f.a14, f.a15, f.a16, f.a17, f.a18, f.a19, f.a20, f.a21, f.a22, f.a23, f.a24, f.a25, f.a26, true)
      | none => (0, 0, 0, 0, 0, 0, 0, 0, [], [], [], [], 0, [], [], [], [], 0, [], [], 0, [], [], [], [], [], [], false)) := by
  have lm : (L.map XF.av).length = L.length := by simp
  intro m
  induction m with
  | zero =>
    intro i hm hi
    have q1 : ¬ ((i : Int) < ((L.map XF.av).length : Int)) := by rw [lm]; omega
    rw [List.drop_eq_nil_of_le (by omega)]
    exact run_inr (by simp only [M_state_Find, Tr.val_c, Tr.val_r, q1, decide_false, cond_false]; rfl)
  | succ m ih =>
    intro i hm hi
    by_cases h : i = L.length
    · have q1 : ¬ ((i : Int) < ((L.map XF.av).length : Int)) := by rw [lm]; omega
      rw [List.drop_eq_nil_of_le (by omega)]
      exact run_inr (by simp only [M_state_Find, Tr.val_c, Tr.val_r, q1, decide_false, cond_false]; rfl)
    · have hi' : i < L.length := by omega
      have q1 : (i : Int) < ((L.map XF.av).length : Int) := by rw [lm]; omega
      have q2 : (0 : Int) ≤ (i : Int) := by omega
      have w1 : IntKind.i64.wrap ((i : Int) + 1) = ((i + 1 : Nat) : Int) := by rw [i64_wrap (by omega) (by omega)]; omega
      have g := XF.getD L i hi'
      obtain ⟨f, hf⟩ : ∃ f, f = L[i] := ⟨_, rfl⟩
      rw [List.drop_eq_getElem_cons hi', ← hf, List.find?_cons]
      rw [← hf] at g
      have ex := exchange_eq f (hL f (by rw [hf]; exact List.getElem_mem hi'))
      cases hp : (f.a0 == k) with
      | true => exact run_inr (by simp only [M_state_Find, Tr.val_c, Tr.val_r, val_opt, q1, q2, g, XF.g0, XF.g1, XF.g2, XF.g3, XF.g4, XF.g5, XF.g6, XF.g7, XF.g8, XF.g9, XF.g10, XF.g11, XF.g12, XF.g13, XF.g14, XF.g15, XF.g16, XF.g17, XF.g18, XF.g19, XF.g20, XF.g21, XF.g22, XF.g23, XF.g24, XF.g25, XF.g26, ex, hp, Option.bind_some, decide_true, cond_true])
      | false =>
        rw [run_inl (s := ((i + 1 : Nat) : Int)) (by simp only [M_state_Find, Tr.val_c, Tr.val_r, val_opt, q1, q2, g, XF.g0, XF.g1, XF.g2, XF.g3, XF.g4, XF.g5, XF.g6, XF.g7, XF.g8, XF.g9, XF.g10, XF.g11, XF.g12, XF.g13, XF.g14, XF.g15, XF.g16, XF.g17, XF.g18, XF.g19, XF.g20, XF.g21, XF.g22, XF.g23, XF.g24, XF.g25, XF.g26, hp, w1, decide_true, cond_true, cond_false])]
        exact ih (i + 1) (by omega) (by omega)
theorem Find_eq (L : List XF) (hL : ∀ f ∈ L, f.ok) (hl : L.length < 1000000000) (k x0 x1 x2 : Int) (x4 : List AV) : g_state_Find x0 x1 x2 (L.map XF.av) x4 k = some (match L.find? (fun y => y.a0 == k) with
      | some f => (f.a0, f.a1, f.a2, f.a3, f.a4, f.a5, f.a6, f.a7, f.a8, f.a9, f.a10, f.a11, f.a12, f.a13, f.a14, f.a15, f.a16, f.a17, f.a18, f.a19, f.a20, f.a21, f.a22, f.a23, f.a24, f.a25, f.a26, true)
      | none => (0, 0, 0, 0, 0, 0, 0, 0, [], [], [], [], 0, [], [], [], [], 0, [], [], 0, [], [], [], [], [], [], false)) := by
  unfold g_state_Find
  rw [run_inl (s := ((0 : Nat) : Int)) (by simp only [T_state_Find, Tr.val_r]; rfl)]
  exact find_from L hL hl k x0 x1 x2 x4 L.length 0 (by omega) (by omega)
def XF.zero : XF := ⟨0, 0, 0, 0, 0, 0, 0, 0, [], [], [], [], 0, [], [], [], [], 0, [], [], 0, [], [], [], [], [], []⟩
def PF.zero : PF := ⟨0, 0, [], [], [], [], []⟩
theorem TagsF.nil : TagsF [] := ⟨fun x h => by simp at h, by decide⟩
def xk (k i : Int) : XF := ⟨k, i, 0, 0, 0, 0, 0, 0, [], [], [], [], 0, [], [], [], [], 0, [], [], 0, [], [], [], [], [], []⟩
def pk (k u : Int) : PF := ⟨k, u, [], [], [], [], []⟩
theorem xk_ok (k i : Int) : (xk k i).ok := ⟨TagsF.nil, by show (0 : Nat) * 33 < 70368744177664; decide, TagsF.nil⟩
theorem pk_ok (k i : Int) : (pk k i).ok := ⟨by show (0 : Nat) * 33 < 70368744177664; decide, TagsF.nil⟩
theorem xz_ok : XF.zero.ok := xk_ok 0 0
theorem pz_ok : PF.zero.ok := pk_ok 0 0
def dPut (k i : Int) : DF := ⟨3, 0, 0, 0, xk k i, PF.zero⟩
def dPark (k u : Int) : DF := ⟨5, 0, 0, 0, XF.zero, pk k u⟩
def dDrop (k : Int) : DF := ⟨4, 0, k, 0, XF.zero, PF.zero⟩
def dUnpark (k : Int) : DF := ⟨6, 0, k, 0, XF.zero, PF.zero⟩
theorem dPut_ok (k i : Int) : (dPut k i).ok := ⟨xk_ok k i, pz_ok⟩
theorem dPark_ok (k i : Int) : (dPark k i).ok := ⟨xz_ok, pk_ok k i⟩
theorem dDrop_ok (k : Int) : (dDrop k).ok := ⟨xz_ok, pz_ok⟩
theorem dUnpark_ok (k : Int) : (dUnpark k).ok := ⟨xz_ok, pz_ok⟩
theorem two_put (b : PS) (k i u : Int) : [dPut k i, dPark k u].foldl (fun b d => appD d b) b = { b with L := repl (fun y => y.a0 == k) (xk k i) b.L, M := repl (fun y => y.p0 == k) (pk k u) b.M } := rfl
theorem two_drop (b : PS) (k : Int) : [dDrop k, dUnpark k].foldl (fun b d => appD d b) b = { b with L := b.L.filter (fun y => !(y.a0 == k)), M := b.M.filter (fun y => !(y.p0 == k)) } := rfl
theorem put_Apply (b : PS) (hb : b.ok) (hl : b.L.length < 100000000) (hm : b.M.length < 100000000) (k i u : Int) : g_state_Apply b.t b.n b.s (b.L.map XF.av) (b.M.map PF.av) [.agg [.int .i64 3, .int .u64 0, .int .i64 0, .int .i64 0, .int .i64 k, .int .i64 i, .int .i64 0, .int .i64 0, .int .i64 0, .int .u64 0, .int .i64 0, .int .i64 0, .str [], .str [], .str [], .str [], .int .u64 0, .str [], .str [], .str [], .str [], .int .i64 0, .str [], .str [], .int .i64 0, .str [], .slice 2 (.agg [.int .i64, .slice 1 (.int .u8)]) [] .ro, .str [], .str [], .slice 2 (.agg [.str, .str]) [] .ro, .slice 2 (.agg [.int .i64, .slice 1 (.int .u8)]) [] .ro, .int .i64 0, .int .u64 0, .str [], .str [], .str [], .slice 2 (.agg [.str, .str]) [] .ro, .slice 2 (.agg [.int .i64, .slice 1 (.int .u8)]) [] .ro], .agg [.int .i64 5, .int .u64 0, .int .i64 0, .int .i64 0, .int .i64 0, .int .i64 0, .int .i64 0, .int .i64 0, .int .i64 0, .int .u64 0, .int .i64 0, .int .i64 0, .str [], .str [], .str [], .str [], .int .u64 0, .str [], .str [], .str [], .str [], .int .i64 0, .str [], .str [], .int .i64 0, .str [], .slice 2 (.agg [.int .i64, .slice 1 (.int .u8)]) [] .ro, .str [], .str [], .slice 2 (.agg [.str, .str]) [] .ro, .slice 2 (.agg [.int .i64, .slice 1 (.int .u8)]) [] .ro, .int .i64 k, .int .u64 u, .str [], .str [], .str [], .slice 2 (.agg [.str, .str]) [] .ro, .slice 2 (.agg [.int .i64, .slice 1 (.int .u8)]) [] .ro]] = some (b.t, b.n, b.s, (repl (fun y => y.a0 == k) (xk k i) b.L).map XF.av, (repl (fun y => y.p0 == k) (pk k u) b.M).map PF.av) := by
  have := Apply_eq [dPut k i, dPark k u] (fun d hd => by
    simp only [List.mem_cons, List.not_mem_nil, or_false] at hd
    rcases hd with rfl | rfl
    · exact dPut_ok k i
    · exact dPark_ok k u) b hb (by simp) hl hm
  rw [two_put] at this
  exact this
theorem drop_Apply (b : PS) (hb : b.ok) (hl : b.L.length < 100000000) (hm : b.M.length < 100000000) (k : Int) : g_state_Apply b.t b.n b.s (b.L.map XF.av) (b.M.map PF.av) [.agg [.int .i64 4, .int .u64 0, .int .i64 k, .int .i64 0, .int .i64 0, .int .i64 0, .int .i64 0, .int .i64 0, .int .i64 0, .int .u64 0, .int .i64 0, .int .i64 0, .str [], .str [], .str [], .str [], .int .u64 0, .str [], .str [], .str [], .str [], .int .i64 0, .str [], .str [], .int .i64 0, .str [], .slice 2 (.agg [.int .i64, .slice 1 (.int .u8)]) [] .ro, .str [], .str [], .slice 2 (.agg [.str, .str]) [] .ro, .slice 2 (.agg [.int .i64, .slice 1 (.int .u8)]) [] .ro, .int .i64 0, .int .u64 0, .str [], .str [], .str [], .slice 2 (.agg [.str, .str]) [] .ro, .slice 2 (.agg [.int .i64, .slice 1 (.int .u8)]) [] .ro], .agg [.int .i64 6, .int .u64 0, .int .i64 k, .int .i64 0, .int .i64 0, .int .i64 0, .int .i64 0, .int .i64 0, .int .i64 0, .int .u64 0, .int .i64 0, .int .i64 0, .str [], .str [], .str [], .str [], .int .u64 0, .str [], .str [], .str [], .str [], .int .i64 0, .str [], .str [], .int .i64 0, .str [], .slice 2 (.agg [.int .i64, .slice 1 (.int .u8)]) [] .ro, .str [], .str [], .slice 2 (.agg [.str, .str]) [] .ro, .slice 2 (.agg [.int .i64, .slice 1 (.int .u8)]) [] .ro, .int .i64 0, .int .u64 0, .str [], .str [], .str [], .slice 2 (.agg [.str, .str]) [] .ro, .slice 2 (.agg [.int .i64, .slice 1 (.int .u8)]) [] .ro]] = some (b.t, b.n, b.s, (b.L.filter fun y => !(y.a0 == k)).map XF.av, (b.M.filter fun y => !(y.p0 == k)).map PF.av) := by
  have := Apply_eq [dDrop k, dUnpark k] (fun d hd => by
    simp only [List.mem_cons, List.not_mem_nil, or_false] at hd
    rcases hd with rfl | rfl
    · exact dDrop_ok k
    · exact dUnpark_ok k) b hb (by simp) hl hm
  rw [two_drop] at this
  exact this
theorem repl_map {α : Type} {f : α → Int} {k : Int} {x : α} (hx : f x = k) : ∀ (L : List α), (repl (fun y => f y == k) x L).map f = if k ∈ L.map f then L.map f else L.map f ++ [k]
  | [] => by simp [repl, hx]
  | y :: l => by
    unfold repl
    by_cases h : f y = k
    · simp [h, hx]
    · have h1 : ¬ (f y == k) = true := by simpa using h
      have h2 : (k = f y) = False := by simp; exact fun e => h e.symm
      rw [if_neg h1, List.map_cons, repl_map hx l]
      simp only [List.map_cons, List.mem_cons, h2, false_or]
      split <;> rfl
theorem repl_find {α : Type} {f : α → Int} {k : Int} {x : α} (hx : f x = k) : ∀ (L : List α), (repl (fun y => f y == k) x L).find? (fun y => f y == k) = some x
  | [] => by simp [repl, hx]
  | y :: l => by
    unfold repl
    by_cases h : f y = k
    · simp [h, hx]
    · have h1 : ¬ (f y == k) = true := by simpa using h
      rw [if_neg h1, List.find?_cons]
      have h2 : (f y == k) = false := by simpa using h
      rw [h2]; exact repl_find hx l
theorem filter_nodup (k : Int) : ∀ (W : List Int), W.Nodup → (W.filter fun y => !(y == k)).length + (if k ∈ W then 1 else 0) = W.length
  | [], _ => rfl
  | y :: l, h => by
    have ih := filter_nodup k l (List.nodup_cons.1 h).2
    have hn := (List.nodup_cons.1 h).1
    rw [List.filter_cons]
    by_cases e : y = k
    · subst e
      rw [if_neg hn] at ih
      simp; simpa using ih
    · have e1 : (!(y == k)) = true := by simpa using e
      have e2 : (k = y) = False := by simp; exact fun h => e h.symm
      rw [if_pos e1]
      simp only [List.mem_cons, e2, false_or, List.length_cons]
      omega
theorem In_from (W : List Int) (k : Int) (hl : W.length < 1000000000) : ∀ (m i : Nat), W.length - i ≤ m → i ≤ W.length →
    run (M_comptoirhelp_In_int (W.map (AV.int .i64)) k) (M_comptoirhelp_In_int (W.map (AV.int .i64)) k (i : Int)) = some (decide (k ∈ W.drop i)) := by
  have lm : (W.map (AV.int .i64)).length = W.length := by simp
  intro m
  have fin : ∀ i : Nat, W.length ≤ i → run (M_comptoirhelp_In_int (W.map (AV.int .i64)) k) (M_comptoirhelp_In_int (W.map (AV.int .i64)) k (i : Int)) = some (decide (k ∈ W.drop i)) := by
    intro i hi
    have q1 : ¬ ((i : Int) < ((W.map (AV.int .i64)).length : Int)) := by rw [lm]; omega
    rw [List.drop_eq_nil_of_le hi]
    exact run_inr (by simp only [M_comptoirhelp_In_int, Tr.val_c, Tr.val_r, q1, decide_false, cond_false]; simp)
  induction m with
  | zero => intro i hm hi; exact fin i (by omega)
  | succ m ih =>
    intro i hm hi
    by_cases h : W.length ≤ i
    · exact fin i h
    · have hi' : i < W.length := by omega
      have q1 : (i : Int) < ((W.map (AV.int .i64)).length : Int) := by rw [lm]; omega
      have q2 : (0 : Int) ≤ (i : Int) := by omega
      have w1 : IntKind.i64.wrap ((i : Int) + 1) = ((i + 1 : Nat) : Int) := by rw [i64_wrap (by omega) (by omega)]; omega
      have g : getI ((W.map (AV.int .i64)).getD (i : Int).toNat (.int .i64 0)) = W[i] := by
        simp [List.getD_eq_getElem?_getD, hi']
      rw [List.drop_eq_getElem_cons hi']
      by_cases hp : W[i] = k
      · have e : decide (k ∈ W[i] :: W.drop (i + 1)) = true := by simp [hp]
        have hp' : (W[i] == k) = true := by simpa using hp
        rw [e]
        exact run_inr (by simp only [M_comptoirhelp_In_int, Tr.val_c, Tr.val_r, q1, q2, g, hp', decide_true, cond_true])
      · have hp' : (W[i] == k) = false := by simpa using hp
        have e : decide (k ∈ W[i] :: W.drop (i + 1)) = decide (k ∈ W.drop (i + 1)) := by
          have : (k = W[i]) = False := by simp; exact fun h => hp h.symm
          simp only [List.mem_cons, this, false_or]
        rw [e, ← ih (i + 1) (by omega) (by omega)]
        exact run_inl (by simp only [M_comptoirhelp_In_int, Tr.val_c, Tr.val_r, q1, q2, g, hp', w1, decide_true, cond_true, cond_false])
theorem In_eq (W : List Int) (k : Int) (hl : W.length < 1000000000) : g_comptoirhelp_In_int (W.map (AV.int .i64)) k = some (decide (k ∈ W)) := by
  unfold g_comptoirhelp_In_int
  rw [run_inl (s := ((0 : Nat) : Int)) (by simp only [T_comptoirhelp_In_int, Tr.val_r]; rfl)]
  exact In_from W k hl W.length 0 (by omega) (by omega)
theorem awake24 : g_comptoirlaw24_awake = some true := by
  have A := Apply_eq [⟨1, 5, 0, 0, XF.zero, PF.zero⟩, dPut 3 0] (fun d hd => by
    simp only [List.mem_cons, List.not_mem_nil, or_false] at hd
    rcases hd with rfl | rfl
    · exact ⟨xz_ok, pz_ok⟩
    · exact dPut_ok 3 0) ⟨0, 1, 1, [], []⟩ ⟨fun f h => by simp at h, fun f h => by simp at h⟩ (by simp) (by simp) (by simp)
  have e : [(⟨1, 5, 0, 0, XF.zero, PF.zero⟩ : DF), dPut 3 0].foldl (fun b d => appD d b) ⟨0, 1, 1, [], []⟩ = ⟨5, 1, 1, [xk 3 0], []⟩ := rfl
  rw [e] at A
  simp only [List.map_cons, List.map_nil, DF.av, dPut, XF.zero, PF.zero, xk] at A
  have F := Find_eq [xk 3 0] (fun f h => by rw [List.mem_singleton] at h; subst h; exact xk_ok 3 0) (by simp) 3 5 1 1 []
  have e2 : [xk 3 0].find? (fun y => y.a0 == 3) = some (xk 3 0) := rfl
  rw [e2] at F
  simp only [List.map_cons, List.map_nil, xk] at F
  unfold g_comptoirlaw24_awake
  simp only [T_comptoirlaw24_awake, Tr.val_c, Tr.val_r, val_opt, A, F, Option.bind_some, beq_self_eq_true, cond_true, List.length_cons, List.length_nil]
  rfl
theorem once_last (x0 : List AV) (x1 : Int) (b : PS) (hb : b.ok) (W : List Int) (hL : b.L.map XF.a0 = W) (hM : b.M.map PF.p0 = W) (hn : W.Nodup) (hl : W.length ≤ 40) : ∀ (m j : Nat), W.length - j ≤ m → j ≤ W.length →
    run (M_comptoirlaw24_StateOnce x0 x1) (M_comptoirlaw24_StateOnce x0 x1 (.inr (.inr (.inr (.inr (.inr (.inr (.inl (b.t, b.n, b.s, b.L.map XF.av, b.M.map PF.av, W.map (AV.int .i64), (j : Int)))))))))) = some true := by
  have lL : b.L.length = W.length := by rw [← hL]; simp
  have lM : b.M.length = W.length := by rw [← hM]; simp
  have lmW : (W.map (AV.int .i64)).length = W.length := by simp
  have lmL : (b.L.map XF.av).length = W.length := by simp [lL]
  have lmM : (b.M.map PF.av).length = W.length := by simp [lM]
  intro m
  have fin : ∀ j : Nat, W.length ≤ j → run (M_comptoirlaw24_StateOnce x0 x1) (M_comptoirlaw24_StateOnce x0 x1 (.inr (.inr (.inr (.inr (.inr (.inr (.inl (b.t, b.n, b.s, b.L.map XF.av, b.M.map PF.av, W.map (AV.int .i64), (j : Int)))))))))) = some true := by
    intro j hj
    have q1 : ¬ ((j : Int) < ((W.map (AV.int .i64)).length : Int)) := by rw [lmW]; omega
    obtain ⟨k, hk⟩ : ∃ k, IntKind.i64.wrap (Int.tmod (IntKind.u64.wrap x1) 6) = k := ⟨_, rfl⟩
    have A := drop_Apply b hb (by omega) (by omega) k
    have F := Find_eq (b.L.filter (fun y => !(y.a0 == k))) (fun f h => hb.1 f (List.mem_filter.1 h).1) (by have := List.length_filter_le (fun y : XF => !(y.a0 == k)) b.L; omega) k b.t b.n b.s ((b.M.filter (fun y => !(y.p0 == k))).map PF.av)
    have e2 : (b.L.filter (fun y => !(y.a0 == k))).find? (fun y => y.a0 == k) = none := by
      rw [List.find?_eq_none]; intro y hy; have := (List.mem_filter.1 hy).2; simpa using this
    rw [e2] at F
    have I := In_eq W k (by omega)
    have f1 : ((b.L.filter (fun y => !(y.a0 == k))).map XF.av).length + (if k ∈ W then 1 else 0) = W.length := by
      have := filter_nodup k W hn
      have e : (W.filter fun y => !(y == k)).length = (b.L.filter (fun y => !(y.a0 == k))).length := by
        rw [← hL, List.filter_map, List.length_map]; rfl
      rw [List.length_map, ← e]; exact this
    have f2 : ((b.M.filter (fun y => !(y.p0 == k))).map PF.av).length + (if k ∈ W then 1 else 0) = W.length := by
      have := filter_nodup k W hn
      have e : (W.filter fun y => !(y == k)).length = (b.M.filter (fun y => !(y.p0 == k))).length := by
        rw [← hM, List.filter_map, List.length_map]; rfl
      rw [List.length_map, ← e]; exact this
    have tail : ∀ n : Int, n = ((W.length : Int) - (if k ∈ W then 1 else 0)) → run (M_comptoirlaw24_StateOnce x0 x1) (M_comptoirlaw24_StateOnce x0 x1 (.inr (.inr (.inr (.inr (.inr (.inr (.inr (.inr (false, n, b.t, b.n, b.s, (b.L.filter (fun y => !(y.a0 == k))).map XF.av, (b.M.filter (fun y => !(y.p0 == k))).map PF.av)))))))))) = some true := by
      intro n hn
      have g1 : ((((b.L.filter (fun y => !(y.a0 == k))).map XF.av).length : Int) == n) = true := by
        rw [beq_iff_eq, hn]; split at f1 <;> rename_i h <;> simp only [h, if_true, if_false] <;> omega
      have g2 : ((((b.M.filter (fun y => !(y.p0 == k))).map PF.av).length : Int) == n) = true := by
        rw [beq_iff_eq, hn]; split at f2 <;> rename_i h <;> simp only [h, if_true, if_false] <;> omega
      exact run_inr (by simp only [M_comptoirlaw24_StateOnce, Tr.val_c, Tr.val_r, val_opt, awake24, g1, g2, Option.bind_some, Bool.not_false, cond_true])
    by_cases hm : k ∈ W
    · have I' : decide (k ∈ W) = true := by simpa using hm
      rw [I'] at I
      have w1 : IntKind.i64.wrap ((((W.map (AV.int .i64)).length : Nat) : Int) - 1) = (W.length : Int) - 1 := by rw [lmW, i64_wrap (by omega) (by omega)]
      rw [← tail ((W.length : Int) - 1) (by rw [if_pos hm])]
      exact run_inl (by simp only [M_comptoirlaw24_StateOnce, Tr.val_c, Tr.val_r, val_opt, q1, hk, A, F, I, w1, Option.bind_some, decide_false, beq_self_eq_true, cond_true, cond_false])
    · have I' : decide (k ∈ W) = false := by simpa using hm
      rw [I'] at I
      have q1w : ¬ ((j : Int) < (W.length : Int)) := by omega
      rw [← tail (W.length : Int) (by rw [if_neg hm]; omega)]
      exact run_inl (by simp only [M_comptoirlaw24_StateOnce, Tr.val_c, Tr.val_r, val_opt, q1, q1w, hk, A, F, I, lmW, Option.bind_some, decide_false, beq_self_eq_true, cond_true, cond_false])
  induction m with
  | zero => intro j hm hj; exact fin j (by omega)
  | succ m ih =>
    intro j hm hj
    by_cases h : W.length ≤ j
    · exact fin j h
    · have q0 : (0 : Int) ≤ (j : Int) := by omega
      have q1 : (j : Int) < ((W.map (AV.int .i64)).length : Int) := by rw [lmW]; omega
      have q2 : (j : Int) < ((b.L.map XF.av).length : Int) := by rw [lmL]; omega
      have q3 : (j : Int) < ((b.M.map PF.av).length : Int) := by rw [lmM]; omega
      have q4 : (j : Int).toNat < (W.map (AV.int .i64)).length := by rw [lmW]; omega
      have gW : getI ((W.map (AV.int .i64)).getD (j : Int).toNat (.int .i64 0)) = W[j]'(by omega) := by
        simp [List.getD_eq_getElem?_getD, show j < W.length by omega]
      have gL := XF.getD b.L j (by omega)
      have gM := PF.getD b.M j (by omega)
      have eL : (b.L[j]'(by omega)).a0 = W[j]'(by omega) := by simp [← hL]
      have eM : (b.M[j]'(by omega)).p0 = W[j]'(by omega) := by simp [← hM]
      have w1 : IntKind.i64.wrap ((j : Int) + 1) = ((j + 1 : Nat) : Int) := by rw [i64_wrap (by omega) (by omega)]; omega
      rw [run_inl (s := .inr (.inr (.inr (.inr (.inr (.inr (.inr (.inl (b.t, b.n, b.s, b.L.map XF.av, b.M.map PF.av, W.map (AV.int .i64), false, (j : Int)))))))))) (by
        simp only [M_comptoirlaw24_StateOnce, Tr.val_c, Tr.val_r, q0, q1, q2, q3, q4, gW, gL, gM, XF.g0, PF.g0, eL, eM, decide_true, beq_self_eq_true, bne_self_eq_false, cond_true, cond_false])]
      rw [run_inl (s := .inr (.inr (.inr (.inr (.inr (.inr (.inl (b.t, b.n, b.s, b.L.map XF.av, b.M.map PF.av, W.map (AV.int .i64), ((j + 1 : Nat) : Int))))))))) (by
        simp only [M_comptoirlaw24_StateOnce, Tr.val_c, Tr.val_r, w1, cond_false])]
      exact ih (j + 1) (by omega) (by omega)
theorem once_from (x0 : List AV) (x1 : Int) : ∀ (m i : Nat) (b : PS) (W : List Int), 40 - i ≤ m → i ≤ 40 → b.ok → b.L.map XF.a0 = W → b.M.map PF.p0 = W → W.Nodup → W.length ≤ i →
    run (M_comptoirlaw24_StateOnce x0 x1) (M_comptoirlaw24_StateOnce x0 x1 (.inl ((i : Int), b.t, b.n, b.s, b.L.map XF.av, b.M.map PF.av, W.map (AV.int .i64)))) = some true := by
  have fin : ∀ (i : Nat) (b : PS) (W : List Int), i ≤ 40 → ¬ ((i : Int) < (x0.length : Int) ∧ (i : Int) < 40) → b.ok → b.L.map XF.a0 = W → b.M.map PF.p0 = W → W.Nodup → W.length ≤ i →
      run (M_comptoirlaw24_StateOnce x0 x1) (M_comptoirlaw24_StateOnce x0 x1 (.inl ((i : Int), b.t, b.n, b.s, b.L.map XF.av, b.M.map PF.av, W.map (AV.int .i64)))) = some true := by
    intro i b W hi hx hb hL hM hn hl
    have lL : b.L.length = W.length := by rw [← hL]; simp
    have lM : b.M.length = W.length := by rw [← hM]; simp
    have e1 : (((b.L.map XF.av).length : Int) != ((W.map (AV.int .i64)).length : Int)) = false := by simp [lL]
    have e2 : (((b.M.map PF.av).length : Int) != ((W.map (AV.int .i64)).length : Int)) = false := by simp [lM]
    have s1 : (M_comptoirlaw24_StateOnce x0 x1 (.inl ((i : Int), b.t, b.n, b.s, b.L.map XF.av, b.M.map PF.av, W.map (AV.int .i64)))).val = some (.inl (.inr (.inr (.inl (b.t, b.n, b.s, b.L.map XF.av, b.M.map PF.av, W.map (AV.int .i64)))))) := by
      by_cases h1 : (i : Int) < (x0.length : Int)
      · have h2 : ¬ (i : Int) < 40 := fun h => hx ⟨h1, h⟩
        simp only [M_comptoirlaw24_StateOnce, Tr.val_c, Tr.val_r, h1, h2, decide_true, decide_false, cond_true, cond_false]
      · simp only [M_comptoirlaw24_StateOnce, Tr.val_c, Tr.val_r, h1, decide_false, cond_false]
    rw [run_inl s1]
    rw [run_inl (s := .inr (.inr (.inr (.inr (.inl (false, b.t, b.n, b.s, b.L.map XF.av, b.M.map PF.av, W.map (AV.int .i64))))))) (by
      simp only [M_comptoirlaw24_StateOnce, Tr.val_c, Tr.val_r, e1, e2, cond_false])]
    rw [run_inl (s := .inr (.inr (.inr (.inr (.inr (.inr (.inl (b.t, b.n, b.s, b.L.map XF.av, b.M.map PF.av, W.map (AV.int .i64), ((0 : Nat) : Int))))))))) (by
      simp only [M_comptoirlaw24_StateOnce, Tr.val_c, Tr.val_r, cond_false]; rfl)]
    exact once_last x0 x1 b hb W hL hM hn (by omega) W.length 0 (by omega) (by omega)
  intro m
  induction m with
  | zero => intro i b W hm hi hb hL hM hn hl; exact fin i b W hi (by omega) hb hL hM hn hl
  | succ m ih =>
    intro i b W hm hi hb hL hM hn hl
    by_cases hx : (i : Int) < (x0.length : Int) ∧ (i : Int) < 40
    · obtain ⟨h1, h2⟩ := hx
      have lL : b.L.length = W.length := by rw [← hL]; simp
      have lM : b.M.length = W.length := by rw [← hM]; simp
      have q0 : (0 : Int) ≤ (i : Int) := by omega
      obtain ⟨k, hk⟩ : ∃ k, IntKind.i64.wrap (Int.tmod (IntKind.u64.wrap (getI (x0.getD (i : Int).toNat (.int .i64 0)))) 6) = k := ⟨_, rfl⟩
      have A := put_Apply b hb (by omega) (by omega) k (i : Int) (IntKind.u64.wrap (i : Int))
      have I := In_eq W k (by omega)
      obtain ⟨b2, hb2⟩ : ∃ b2 : PS, b2 = { b with L := repl (fun y => y.a0 == k) (xk k (i : Int)) b.L, M := repl (fun y => y.p0 == k) (pk k (IntKind.u64.wrap (i : Int))) b.M } := ⟨_, rfl⟩
      have ok2 : b2.ok := by
        rw [hb2]
        exact ⟨fun f hf => by
          rcases repl_mem hf with rfl | hf
          · exact xk_ok k _
          · exact hb.1 f hf, fun f hf => by
          rcases repl_mem hf with rfl | hf
          · exact pk_ok k _
          · exact hb.2 f hf⟩
      have bt : b2.t = b.t := by rw [hb2]
      have bn : b2.n = b.n := by rw [hb2]
      have bs : b2.s = b.s := by rw [hb2]
      have bL : b2.L = repl (fun y => y.a0 == k) (xk k (i : Int)) b.L := by rw [hb2]
      have bM : b2.M = repl (fun y => y.p0 == k) (pk k (IntKind.u64.wrap (i : Int))) b.M := by rw [hb2]
      have mL : b2.L.map XF.a0 = if k ∈ W then W else W ++ [k] := by rw [bL, repl_map (f := XF.a0) (k := k) (x := xk k (i : Int)) rfl, hL]
      have mM : b2.M.map PF.p0 = if k ∈ W then W else W ++ [k] := by rw [bM, repl_map (f := PF.p0) (k := k) (x := pk k (IntKind.u64.wrap (i : Int))) rfl, hM]
      have l2 : b2.L.length ≤ 41 := by
        have := repl_len (p := fun y : XF => y.a0 == k) (x := xk k (i : Int)) (l := b.L)
        rw [← bL] at this; omega
      have F := Find_eq b2.L ok2.1 (by omega) k b2.t b2.n b2.s (b2.M.map PF.av)
      have e2 : b2.L.find? (fun y => y.a0 == k) = some (xk k (i : Int)) := by rw [bL]; exact repl_find (f := XF.a0) (k := k) rfl b.L
      rw [e2] at F
      simp only at F
      have ne : ((xk k (i : Int)).a1 != (i : Int)) = false := by show ((i : Int) != (i : Int)) = false; simp
      have w1 : IntKind.i64.wrap ((i : Int) + 1) = ((i + 1 : Nat) : Int) := by rw [i64_wrap (by omega) (by omega)]; omega
      rw [run_inl (s := .inr (.inl ((i : Int), b.t, b.n, b.s, b.L.map XF.av, b.M.map PF.av, W.map (AV.int .i64)))) (by
        simp only [M_comptoirlaw24_StateOnce, Tr.val_c, Tr.val_r, h1, h2, decide_true, cond_true])]
      have next : ∀ W2 : List Int, W2 = (if k ∈ W then W else W ++ [k]) → run (M_comptoirlaw24_StateOnce x0 x1) (M_comptoirlaw24_StateOnce x0 x1 (.inr (.inr (.inr (.inl (k, b2.t, b2.n, b2.s, b2.L.map XF.av, b2.M.map PF.av, W2.map (AV.int .i64), (i : Int))))))) = some true := by
        intro W2 hW2
        rw [run_inl (s := .inr (.inr (.inr (.inr (.inr (.inl (b2.t, b2.n, b2.s, b2.L.map XF.av, b2.M.map PF.av, W2.map (AV.int .i64), false, (i : Int)))))))) (by
          simp only [M_comptoirlaw24_StateOnce, Tr.val_c, Tr.val_r, val_opt, F, ne, Option.bind_some, Bool.not_true, cond_false])]
        rw [run_inl (s := .inl (((i + 1 : Nat) : Int), b2.t, b2.n, b2.s, b2.L.map XF.av, b2.M.map PF.av, W2.map (AV.int .i64))) (by
          simp only [M_comptoirlaw24_StateOnce, Tr.val_c, Tr.val_r, w1, cond_false])]
        refine ih (i + 1) b2 W2 (by omega) (by omega) ok2 (by rw [mL, hW2]) (by rw [mM, hW2]) ?_ ?_
        · rw [hW2]; split
          · exact hn
          · rename_i hk; rw [List.nodup_append]; exact ⟨hn, by simp, fun a ha c hc => by rw [List.mem_singleton] at hc; subst hc; intro e; subst e; exact hk ha⟩
        · rw [hW2]; split
          · omega
          · simp; omega
      by_cases hm : k ∈ W
      · have I' : decide (k ∈ W) = true := by simpa using hm
        rw [I'] at I
        rw [← next W (by rw [if_pos hm]), bt, bn, bs, bL, bM]
        exact run_inl (by simp only [M_comptoirlaw24_StateOnce, Tr.val_c, Tr.val_r, val_opt, q0, h1, hk, A, I, Option.bind_some, Bool.not_true, decide_true, beq_self_eq_true, cond_true, cond_false])
      · have I' : decide (k ∈ W) = false := by simpa using hm
        rw [I'] at I
        have ea : W.map (AV.int .i64) ++ [AV.int .i64 k] = (W ++ [k]).map (AV.int .i64) := by simp
        have l9 : ((W ++ [k]).map (AV.int .i64)).length * 9 < 70368744177664 := by simp; omega
        rw [← next (W ++ [k]) (by rw [if_neg hm]), bt, bn, bs, bL, bM]
        exact run_inl (by simp only [M_comptoirlaw24_StateOnce, Tr.val_c, Tr.val_r, val_opt, q0, h1, hk, A, I, ea, l9, Option.bind_some, Bool.not_false, decide_true, beq_self_eq_true, cond_true, cond_false])
    · exact fin i b W hi hx hb hL hM hn hl
theorem once_eq (x0 : List AV) (x1 : Int) : g_comptoirlaw24_StateOnce x0 x1 = some true := by
  unfold g_comptoirlaw24_StateOnce
  rw [run_inl (s := .inl (((0 : Nat) : Int), 0, 1, 1, [], [], [])) (by simp only [T_comptoirlaw24_StateOnce, Tr.val_r]; rfl)]
  exact once_from x0 x1 40 0 ⟨0, 1, 1, [], []⟩ [] (by omega) (by omega) ⟨fun f h => by simp at h, fun f h => by simp at h⟩ rfl rfl (by simp) (by simp)
end Go.Proofs.Ytfhgmpeplfjmcaa
