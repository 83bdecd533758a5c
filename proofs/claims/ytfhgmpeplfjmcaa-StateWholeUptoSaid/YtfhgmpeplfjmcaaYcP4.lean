/- What the printed functions come to, plainly. -/
import Derived.Test.YtfhgmpeplfjmcaaYcG4
import Derived.Test.YtfhgmpeplfjmcaaCxPl3
import Derived.Test.YtfhgmpeplfjmcaaCxAm
namespace Go.Proofs.Ytfhgmpeplfjmcaa
open Go.Cx Go.Cx.AV
set_option linter.unusedSimpArgs false
set_option linter.unusedVariables false
structure XF where
  a0 : Int
  a1 : Int
  a2 : Int
  a3 : Int
  a4 : Int
  a5 : Int
  a6 : Int
  a7 : Int
  a8 : List UInt8
  a9 : List UInt8
  a10 : List UInt8
  a11 : List UInt8
  a12 : Int
  a13 : List UInt8
  a14 : List UInt8
  a15 : List UInt8
  a16 : List UInt8
  a17 : Int
  a18 : List UInt8
  a19 : List UInt8
  a20 : Int
  a21 : List UInt8
  a22 : List AV
  a23 : List UInt8
  a24 : List UInt8
  a25 : List AV
  a26 : List AV
def XF.av (f : XF) : AV := .agg [.int .i64 f.a0, .int .i64 f.a1, .int .i64 f.a2, .int .i64 f.a3, .int .i64 f.a4, .int .u64 f.a5, .int .i64 f.a6, .int .i64 f.a7, .str f.a8, .str f.a9, .str f.a10, .str f.a11, .int .u64 f.a12, .str f.a13, .str f.a14, .str f.a15, .str f.a16, .int .i64 f.a17, .str f.a18, .str f.a19, .int .i64 f.a20, .str f.a21, .slice 2 (.agg [.int .i64, .slice 1 (.int .u8)]) f.a22 .ro, .str f.a23, .str f.a24, .slice 2 (.agg [.str, .str]) f.a25 .ro, .slice 2 (.agg [.int .i64, .slice 1 (.int .u8)]) f.a26 .ro]
theorem XF.mk_av (f : XF) : AV.agg [.int .i64 f.a0, .int .i64 f.a1, .int .i64 f.a2, .int .i64 f.a3, .int .i64 f.a4, .int .u64 f.a5, .int .i64 f.a6, .int .i64 f.a7, .str f.a8, .str f.a9, .str f.a10, .str f.a11, .int .u64 f.a12, .str f.a13, .str f.a14, .str f.a15, .str f.a16, .int .i64 f.a17, .str f.a18, .str f.a19, .int .i64 f.a20, .str f.a21, .slice 2 (.agg [.int .i64, .slice 1 (.int .u8)]) f.a22 .ro, .str f.a23, .str f.a24, .slice 2 (.agg [.str, .str]) f.a25 .ro, .slice 2 (.agg [.int .i64, .slice 1 (.int .u8)]) f.a26 .ro] = f.av := rfl
theorem XF.g0 (f : XF) : getI (getF f.av 0) = f.a0 := rfl
theorem XF.g1 (f : XF) : getI (getF f.av 1) = f.a1 := rfl
theorem XF.g2 (f : XF) : getI (getF f.av 2) = f.a2 := rfl
theorem XF.g3 (f : XF) : getI (getF f.av 3) = f.a3 := rfl
theorem XF.g4 (f : XF) : getI (getF f.av 4) = f.a4 := rfl
theorem XF.g5 (f : XF) : getI (getF f.av 5) = f.a5 := rfl
theorem XF.g6 (f : XF) : getI (getF f.av 6) = f.a6 := rfl
theorem XF.g7 (f : XF) : getI (getF f.av 7) = f.a7 := rfl
theorem XF.g8 (f : XF) : getS (getF f.av 8) = f.a8 := rfl
theorem XF.g9 (f : XF) : getS (getF f.av 9) = f.a9 := rfl
theorem XF.g10 (f : XF) : getS (getF f.av 10) = f.a10 := rfl
theorem XF.g11 (f : XF) : getS (getF f.av 11) = f.a11 := rfl
theorem XF.g12 (f : XF) : getI (getF f.av 12) = f.a12 := rfl
theorem XF.g13 (f : XF) : getS (getF f.av 13) = f.a13 := rfl
theorem XF.g14 (f : XF) : getS (getF f.av 14) = f.a14 := rfl
theorem XF.g15 (f : XF) : getS (getF f.av 15) = f.a15 := rfl
theorem XF.g16 (f : XF) : getS (getF f.av 16) = f.a16 := rfl
theorem XF.g17 (f : XF) : getI (getF f.av 17) = f.a17 := rfl
theorem XF.g18 (f : XF) : getS (getF f.av 18) = f.a18 := rfl
theorem XF.g19 (f : XF) : getS (getF f.av 19) = f.a19 := rfl
theorem XF.g20 (f : XF) : getI (getF f.av 20) = f.a20 := rfl
theorem XF.g21 (f : XF) : getS (getF f.av 21) = f.a21 := rfl
theorem XF.g22 (f : XF) : getXs (getF f.av 22) = f.a22 := rfl
theorem XF.g23 (f : XF) : getS (getF f.av 23) = f.a23 := rfl
theorem XF.g24 (f : XF) : getS (getF f.av 24) = f.a24 := rfl
theorem XF.g25 (f : XF) : getXs (getF f.av 25) = f.a25 := rfl
theorem XF.g26 (f : XF) : getXs (getF f.av 26) = f.a26 := rfl
theorem XF.getD (L : List XF) (i : Nat) (h : i < L.length) : (L.map XF.av).getD ((i : Nat) : Int).toNat (.agg [.int .i64 0, .int .i64 0, .int .i64 0, .int .i64 0, .int .i64 0, .int .u64 0, .int .i64 0, .int .i64 0, .str [], .str [], .str [], .str [], .int .u64 0, .str [], .str [], .str [], .str [], .int .i64 0, .str [], .str [], .int .i64 0, .str [], .slice 2 (.agg [.int .i64, .slice 1 (.int .u8)]) [] .ro, .str [], .str [], .slice 2 (.agg [.str, .str]) [] .ro, .slice 2 (.agg [.int .i64, .slice 1 (.int .u8)]) [] .ro]) = L[i].av := by
  simp [List.getD_eq_getElem?_getD, h]
structure PF where
  p0 : Int
  p1 : Int
  p2 : List UInt8
  p3 : List UInt8
  p4 : List UInt8
  p5 : List AV
  p6 : List AV
def PF.av (f : PF) : AV := .agg [.int .i64 f.p0, .int .u64 f.p1, .str f.p2, .str f.p3, .str f.p4, .slice 2 (.agg [.str, .str]) f.p5 .ro, .slice 2 (.agg [.int .i64, .slice 1 (.int .u8)]) f.p6 .ro]
theorem PF.mk_av (f : PF) : AV.agg [.int .i64 f.p0, .int .u64 f.p1, .str f.p2, .str f.p3, .str f.p4, .slice 2 (.agg [.str, .str]) f.p5 .ro, .slice 2 (.agg [.int .i64, .slice 1 (.int .u8)]) f.p6 .ro] = f.av := rfl
theorem PF.g0 (f : PF) : getI (getF f.av 0) = f.p0 := rfl
theorem PF.g1 (f : PF) : getI (getF f.av 1) = f.p1 := rfl
theorem PF.g2 (f : PF) : getS (getF f.av 2) = f.p2 := rfl
theorem PF.g3 (f : PF) : getS (getF f.av 3) = f.p3 := rfl
theorem PF.g4 (f : PF) : getS (getF f.av 4) = f.p4 := rfl
theorem PF.g5 (f : PF) : getXs (getF f.av 5) = f.p5 := rfl
theorem PF.g6 (f : PF) : getXs (getF f.av 6) = f.p6 := rfl
theorem PF.getD (L : List PF) (i : Nat) (h : i < L.length) : (L.map PF.av).getD ((i : Nat) : Int).toNat (.agg [.int .i64 0, .int .u64 0, .str [], .str [], .str [], .slice 2 (.agg [.str, .str]) [] .ro, .slice 2 (.agg [.int .i64, .slice 1 (.int .u8)]) [] .ro]) = L[i].av := by
  simp [List.getD_eq_getElem?_getD, h]
structure DF where
  kind : Int
  time : Int
  id : Int
  stan : Int
  x : XF
  p : PF
def DF.av (d : DF) : AV := .agg [.int .i64 d.kind, .int .u64 d.time, .int .i64 d.id, .int .i64 d.stan, .int .i64 d.x.a0, .int .i64 d.x.a1, .int .i64 d.x.a2, .int .i64 d.x.a3, .int .i64 d.x.a4, .int .u64 d.x.a5, .int .i64 d.x.a6, .int .i64 d.x.a7, .str d.x.a8, .str d.x.a9, .str d.x.a10, .str d.x.a11, .int .u64 d.x.a12, .str d.x.a13, .str d.x.a14, .str d.x.a15, .str d.x.a16, .int .i64 d.x.a17, .str d.x.a18, .str d.x.a19, .int .i64 d.x.a20, .str d.x.a21, .slice 2 (.agg [.int .i64, .slice 1 (.int .u8)]) d.x.a22 .ro, .str d.x.a23, .str d.x.a24, .slice 2 (.agg [.str, .str]) d.x.a25 .ro, .slice 2 (.agg [.int .i64, .slice 1 (.int .u8)]) d.x.a26 .ro, .int .i64 d.p.p0, .int .u64 d.p.p1, .str d.p.p2, .str d.p.p3, .str d.p.p4, .slice 2 (.agg [.str, .str]) d.p.p5 .ro, .slice 2 (.agg [.int .i64, .slice 1 (.int .u8)]) d.p.p6 .ro]
theorem DF.g0 (d : DF) : getI (getF d.av 0) = d.kind := rfl
theorem DF.g1 (d : DF) : getI (getF d.av 1) = d.time := rfl
theorem DF.g2 (d : DF) : getI (getF d.av 2) = d.id := rfl
theorem DF.g3 (d : DF) : getI (getF d.av 3) = d.stan := rfl
theorem DF.g4 (d : DF) : getI (getF d.av 4) = d.x.a0 := rfl
theorem DF.g5 (d : DF) : getI (getF d.av 5) = d.x.a1 := rfl
theorem DF.g6 (d : DF) : getI (getF d.av 6) = d.x.a2 := rfl
theorem DF.g7 (d : DF) : getI (getF d.av 7) = d.x.a3 := rfl
theorem DF.g8 (d : DF) : getI (getF d.av 8) = d.x.a4 := rfl
theorem DF.g9 (d : DF) : getI (getF d.av 9) = d.x.a5 := rfl
theorem DF.g10 (d : DF) : getI (getF d.av 10) = d.x.a6 := rfl
theorem DF.g11 (d : DF) : getI (getF d.av 11) = d.x.a7 := rfl
theorem DF.g12 (d : DF) : getS (getF d.av 12) = d.x.a8 := rfl
theorem DF.g13 (d : DF) : getS (getF d.av 13) = d.x.a9 := rfl
theorem DF.g14 (d : DF) : getS (getF d.av 14) = d.x.a10 := rfl
theorem DF.g15 (d : DF) : getS (getF d.av 15) = d.x.a11 := rfl
theorem DF.g16 (d : DF) : getI (getF d.av 16) = d.x.a12 := rfl
theorem DF.g17 (d : DF) : getS (getF d.av 17) = d.x.a13 := rfl
theorem DF.g18 (d : DF) : getS (getF d.av 18) = d.x.a14 := rfl
theorem DF.g19 (d : DF) : getS (getF d.av 19) = d.x.a15 := rfl
theorem DF.g20 (d : DF) : getS (getF d.av 20) = d.x.a16 := rfl
theorem DF.g21 (d : DF) : getI (getF d.av 21) = d.x.a17 := rfl
theorem DF.g22 (d : DF) : getS (getF d.av 22) = d.x.a18 := rfl
theorem DF.g23 (d : DF) : getS (getF d.av 23) = d.x.a19 := rfl
theorem DF.g24 (d : DF) : getI (getF d.av 24) = d.x.a20 := rfl
theorem DF.g25 (d : DF) : getS (getF d.av 25) = d.x.a21 := rfl
theorem DF.g26 (d : DF) : getXs (getF d.av 26) = d.x.a22 := rfl
theorem DF.g27 (d : DF) : getS (getF d.av 27) = d.x.a23 := rfl
theorem DF.g28 (d : DF) : getS (getF d.av 28) = d.x.a24 := rfl
theorem DF.g29 (d : DF) : getXs (getF d.av 29) = d.x.a25 := rfl
theorem DF.g30 (d : DF) : getXs (getF d.av 30) = d.x.a26 := rfl
theorem DF.g31 (d : DF) : getI (getF d.av 31) = d.p.p0 := rfl
theorem DF.g32 (d : DF) : getI (getF d.av 32) = d.p.p1 := rfl
theorem DF.g33 (d : DF) : getS (getF d.av 33) = d.p.p2 := rfl
theorem DF.g34 (d : DF) : getS (getF d.av 34) = d.p.p3 := rfl
theorem DF.g35 (d : DF) : getS (getF d.av 35) = d.p.p4 := rfl
theorem DF.g36 (d : DF) : getXs (getF d.av 36) = d.p.p5 := rfl
theorem DF.g37 (d : DF) : getXs (getF d.av 37) = d.p.p6 := rfl
theorem DF.getD (L : List DF) (i : Nat) (h : i < L.length) : (L.map DF.av).getD ((i : Nat) : Int).toNat (.agg [.int .i64 0, .int .u64 0, .int .i64 0, .int .i64 0, .int .i64 0, .int .i64 0, .int .i64 0, .int .i64 0, .int .i64 0, .int .u64 0, .int .i64 0, .int .i64 0, .str [], .str [], .str [], .str [], .int .u64 0, .str [], .str [], .str [], .str [], .int .i64 0, .str [], .str [], .int .i64 0, .str [], .slice 2 (.agg [.int .i64, .slice 1 (.int .u8)]) [] .ro, .str [], .str [], .slice 2 (.agg [.str, .str]) [] .ro, .slice 2 (.agg [.int .i64, .slice 1 (.int .u8)]) [] .ro, .int .i64 0, .int .u64 0, .str [], .str [], .str [], .slice 2 (.agg [.str, .str]) [] .ro, .slice 2 (.agg [.int .i64, .slice 1 (.int .u8)]) [] .ro]) = L[i].av := by
  simp [List.getD_eq_getElem?_getD, h]
def TagF (x : AV) : Prop := ∃ (n : Int) (b : List AV), x = .agg [.int .i64 n, .slice 1 (.int .u8) b .ro] ∧ b.length * 2 < 70368744177664
def TagsF (l : List AV) : Prop := (∀ x ∈ l, TagF x) ∧ l.length * 33 < 70368744177664
def XF.ok (f : XF) : Prop := TagsF f.a22 ∧ f.a25.length * 33 < 70368744177664 ∧ TagsF f.a26
def PF.ok (f : PF) : Prop := f.p5.length * 33 < 70368744177664 ∧ TagsF f.p6
theorem take_succ_get (l : List AV) (i : Nat) (h : i < l.length) : l.take i ++ [l[i]] = l.take (i + 1) := by
  rw [List.take_add_one]; simp [h]
theorem getD_in (l : List AV) (d : AV) (i : Nat) (h : i < l.length) : l.getD ((i : Nat) : Int).toNat d = l[i] := by simp [List.getD_eq_getElem?_getD, h]
theorem eachTag_eq (T : List AV) (h : TagsF T) : g_sE_Tag_0ftag_ T = some T := by
  unfold g_sE_Tag_0ftag_
  rw [run_inl (s := (((0 : Nat) : Int), T.take 0)) (by simp only [T_sE_Tag_0ftag_, Tr.val_r]; rfl)]
  refine run_until (step := M_sE_Tag_0ftag_ T) (f := fun i => ((i : Int), T.take i)) (n := T.length) (fun i hi => ?_) ?_
  · obtain ⟨n, b, e, hb⟩ := h.1 T[i] (List.getElem_mem hi)
    have q1 : (i : Int) < (T.length : Int) := by omega
    have q2 : (0 : Int) ≤ (i : Int) := by omega
    have w1 : IntKind.i64.wrap ((i : Int) + 1) = ((i + 1 : Nat) : Int) := by have := h.2; rw [i64_wrap (by omega) (by omega)]; omega
    have g := getD_in T (.agg [.int .i64 0, .slice 1 (.int .u8) [] .ro]) i hi
    rw [e] at g
    have e1 : getI (getF (AV.agg [AV.int .i64 n, AV.slice 1 (.int .u8) b .ro]) 0) = n := rfl
    have e2 : getXs (getF (AV.agg [AV.int .i64 n, AV.slice 1 (.int .u8) b .ro]) 1) = b := rfl
    have t : g_state_tag n b = some (n, b) := by
      unfold g_state_tag
      simp only [T_state_tag, Tr.val_c, Tr.val_r, hb, decide_true, cond_true]
    have s := take_succ_get T i hi
    rw [e] at s
    have l1 : (T.take (i + 1)).length * 33 < 70368744177664 := by have := h.2; rw [List.length_take]; omega
    simp only [M_sE_Tag_0ftag_, Tr.val_c, Tr.val_r, val_opt, q1, q2, g, e1, e2, t, s, l1, w1, Option.bind_some, decide_true, beq_self_eq_true, cond_true]
  · have q1 : ¬ ((T.length : Int) < (T.length : Int)) := by omega
    simp only [M_sE_Tag_0ftag_, Tr.val_c, Tr.val_r, q1, decide_false, beq_self_eq_true, cond_true, cond_false, List.take_length]
theorem eachElement_eq (T : List AV) (h : TagsF T) : g_sE_Element_0felement_ T = some T := by
  unfold g_sE_Element_0felement_
  rw [run_inl (s := (((0 : Nat) : Int), T.take 0)) (by simp only [T_sE_Element_0felement_, Tr.val_r]; rfl)]
  refine run_until (step := M_sE_Element_0felement_ T) (f := fun i => ((i : Int), T.take i)) (n := T.length) (fun i hi => ?_) ?_
  · obtain ⟨n, b, e, hb⟩ := h.1 T[i] (List.getElem_mem hi)
    have q1 : (i : Int) < (T.length : Int) := by omega
    have q2 : (0 : Int) ≤ (i : Int) := by omega
    have w1 : IntKind.i64.wrap ((i : Int) + 1) = ((i + 1 : Nat) : Int) := by have := h.2; rw [i64_wrap (by omega) (by omega)]; omega
    have g := getD_in T (.agg [.int .i64 0, .slice 1 (.int .u8) [] .ro]) i hi
    rw [e] at g
    have e1 : getI (getF (AV.agg [AV.int .i64 n, AV.slice 1 (.int .u8) b .ro]) 0) = n := rfl
    have e2 : getXs (getF (AV.agg [AV.int .i64 n, AV.slice 1 (.int .u8) b .ro]) 1) = b := rfl
    have t : g_state_element n b = some (n, b) := by
      unfold g_state_element
      simp only [T_state_element, Tr.val_c, Tr.val_r, hb, decide_true, cond_true]
    have s := take_succ_get T i hi
    rw [e] at s
    have l1 : (T.take (i + 1)).length * 33 < 70368744177664 := by have := h.2; rw [List.length_take]; omega
    simp only [M_sE_Element_0felement_, Tr.val_c, Tr.val_r, val_opt, q1, q2, g, e1, e2, t, s, l1, w1, Option.bind_some, decide_true, beq_self_eq_true, cond_true]
  · have q1 : ¬ ((T.length : Int) < (T.length : Int)) := by omega
    simp only [M_sE_Element_0felement_, Tr.val_c, Tr.val_r, q1, decide_false, beq_self_eq_true, cond_true, cond_false, List.take_length]
theorem exchange_eq (f : XF) (h : f.ok) : g_state_exchange f.a0 f.a1 f.a2 f.a3 f.a4 f.a5 f.a6 f.a7 f.a8 f.a9 f.a10 f.a11 f.a12 f.a13 f.a14 f.a15 f.a16 f.a17 f.a18 f.a19 f.a20 f.a21 f.a22 f.a23 f.a24 f.a25 f.a26 = some (f.a0, f.a1, f.a2, f.a3, f.a4, f.a5, f.a6, f.a7, f.a8, f.a9, f.a10, f.a11, f.a12, f.a13, f.a14, f.a15, f.a16, f.a17, f.a18, f.a19, f.a20, f.a21, f.a22, f.a23, f.a24, f.a25, f.a26) := by
  unfold g_state_exchange
  simp only [T_state_exchange, Tr.val_c, Tr.val_r, val_opt, eachTag_eq _ h.1, eachElement_eq _ h.2.2, h.2.1, Option.bind_some, decide_true, cond_true]
theorem parked_eq (f : PF) (h : f.ok) : g_state_parked f.p0 f.p1 f.p2 f.p3 f.p4 f.p5 f.p6 = some (f.p0, f.p1, f.p2, f.p3, f.p4, f.p5, f.p6) := by
  unfold g_state_parked
  simp only [T_state_parked, Tr.val_c, Tr.val_r, val_opt, eachElement_eq _ h.2, h.1, Option.bind_some, decide_true, cond_true]
theorem map_take_get {α : Type} (av : α → AV) (L : List α) (i : Nat) (h : i < L.length) : (L.take i).map av ++ [av L[i]] = (L.take (i + 1)).map av := by
  have : L.take (i + 1) = L.take i ++ [L[i]] := by rw [List.take_add_one]; simp [h]
  rw [this, List.map_append]; rfl
def ixOf {α : Type} (p : α → Bool) : List α → Nat → Int
  | [], _ => -1
  | y :: l, i => if p y = true then (i : Int) else ixOf p l (i + 1)
theorem ix_spec {α : Type} (p : α → Bool) : ∀ (l : List α) (i : Nat), (ixOf p l i = -1 ∧ ∀ y ∈ l, p y = false) ∨ ∃ a y b, l = a ++ y :: b ∧ (∀ z ∈ a, p z = false) ∧ p y = true ∧ ixOf p l i = ((i + a.length : Nat) : Int)
  | [], i => .inl ⟨rfl, fun y h => by simp at h⟩
  | y :: l, i => by
    unfold ixOf
    by_cases h : p y = true
    · exact .inr ⟨[], y, l, rfl, fun z h => by simp at h, h, by rw [if_pos h]; simp⟩
    · have h' : p y = false := by simpa using h
      rw [if_neg h]
      rcases ix_spec p l (i + 1) with ⟨h1, h2⟩ | ⟨a, z, b, h1, h2, h3, h4⟩
      · exact .inl ⟨h1, fun z hz => by
          rcases List.mem_cons.1 hz with rfl | hz
          · exact h'
          · exact h2 z hz⟩
      · exact .inr ⟨y :: a, z, b, by rw [h1]; rfl, fun x hx => by
          rcases List.mem_cons.1 hx with rfl | hx
          · exact h'
          · exact h2 x hx, h3, by rw [h4]; simp; omega⟩
def repl {α : Type} (p : α → Bool) (x : α) : List α → List α
  | [] => [x]
  | y :: l => if p y = true then x :: l else y :: repl p x l
theorem repl_none {α : Type} {p : α → Bool} {x : α} : ∀ {l : List α}, (∀ y ∈ l, p y = false) → repl p x l = l ++ [x]
  | [], _ => rfl
  | y :: l, h => by
    unfold repl
    rw [if_neg (by simp [h y (by simp)]), repl_none fun z hz => h z (by simp [hz])]; rfl
theorem repl_some {α : Type} {p : α → Bool} {x y : α} {b : List α} (hy : p y = true) : ∀ {a : List α}, (∀ z ∈ a, p z = false) → repl p x (a ++ y :: b) = a ++ x :: b
  | [], _ => by simp [repl, hy]
  | z :: a, h => by
    show repl p x (z :: (a ++ y :: b)) = _
    unfold repl
    rw [if_neg (by simp [h z (by simp)]), repl_some hy fun u hu => h u (by simp [hu])]; rfl
theorem set_mid {α : Type} (a b : List α) (x y : α) : (a ++ y :: b).set a.length x = a ++ x :: b := by
  simp [List.set_append]
theorem eachExchange_eq (L : List XF) (h : ∀ f ∈ L, f.ok) (hl : L.length < 1000000000) : g_sE_Exchange_0fexchange_ (L.map XF.av) = some (L.map XF.av) := by
  unfold g_sE_Exchange_0fexchange_
  rw [run_inl (s := (((0 : Nat) : Int), (L.take 0).map XF.av)) (by simp only [T_sE_Exchange_0fexchange_, Tr.val_r]; rfl)]
  have lm : (L.map XF.av).length = L.length := by simp
  refine run_until (step := M_sE_Exchange_0fexchange_ (L.map XF.av)) (f := fun i => ((i : Int), (L.take i).map XF.av)) (n := L.length) (fun i hi => ?_) ?_
  · have q1 : (i : Int) < ((L.map XF.av).length : Int) := by rw [lm]; omega
    have q2 : (0 : Int) ≤ (i : Int) := by omega
    have w1 : IntKind.i64.wrap ((i : Int) + 1) = ((i + 1 : Nat) : Int) := by rw [i64_wrap (by omega) (by omega)]; omega
    have g := XF.getD L i hi
    obtain ⟨f, hf⟩ : ∃ f, f = L[i] := ⟨_, rfl⟩
    have t := exchange_eq f (h f (by rw [hf]; exact List.getElem_mem hi))
    have s := map_take_get XF.av L i hi
    rw [← hf] at g s
    have mk := XF.mk_av f
    have l1 : ((L.take (i + 1)).map XF.av).length * 369 < 70368744177664 := by rw [List.length_map, List.length_take]; omega
    simp only [M_sE_Exchange_0fexchange_, Tr.val_c, Tr.val_r, val_opt, q1, q2, g, XF.g0, XF.g1, XF.g2, XF.g3, XF.g4, XF.g5, XF.g6, XF.g7, XF.g8, XF.g9, XF.g10, XF.g11, XF.g12, XF.g13, XF.g14, XF.g15, XF.g16, XF.g17, XF.g18, XF.g19, XF.g20, XF.g21, XF.g22, XF.g23, XF.g24, XF.g25, XF.g26, t, mk, s, l1, w1, Option.bind_some, decide_true, beq_self_eq_true, cond_true]
  · have q1 : ¬ ((L.length : Int) < ((L.map XF.av).length : Int)) := by rw [lm]; omega
    simp only [M_sE_Exchange_0fexchange_, Tr.val_c, Tr.val_r, q1, decide_false, beq_self_eq_true, cond_true, cond_false, List.take_length]
theorem ix_put (L : List XF) (d : DF) (hl : L.length < 1000000000) : ∀ (m i : Nat), L.length - i ≤ m → i ≤ L.length →
    run (M_sIx_aXput1_pz (L.map XF.av) d.kind d.time d.id d.stan d.x.a0 d.x.a1 d.x.a2 d.x.a3 d.x.a4 d.x.a5 d.x.a6 d.x.a7 d.x.a8 d.x.a9 d.x.a10 d.x.a11 d.x.a12 d.x.a13 d.x.a14 d.x.a15 d.x.a16 d.x.a17 d.x.a18 d.x.a19 d.x.a20 d.x.a21 d.x.a22 d.x.a23 d.x.a24 d.x.a25 d.x.a26 d.p.p0 d.p.p1 d.p.p2 d.p.p3 d.p.p4 d.p.p5 d.p.p6) (M_sIx_aXput1_pz (L.map XF.av) d.kind d.time d.id d.stan d.x.a0 d.x.a1 d.x.a2 d.x.a3 d.x.a4 d.x.a5 d.x.a6 d.x.a7 d.x.a8 d.x.a9 d.x.a10 d.x.a11 d.x.a12 d.x.a13 d.x.a14 d.x.a15 d.x.a16 d.x.a17 d.x.a18 d.x.a19 d.x.a20 d.x.a21 d.x.a22 d.x.a23 d.x.a24 d.x.a25 d.x.a26 d.p.p0 d.p.p1 d.p.p2 d.p.p3 d.p.p4 d.p.p5 d.p.p6 (i : Int)) = some (ixOf (fun y => y.a0 == d.x.a0) (L.drop i) i, L.map XF.av, d.kind, d.time, d.id, d.stan, d.x.a0, d.x.a1, d.x.a2, d.x.a3, d.x.a4, d.x.a5, d.x.a6, d.x.a7, d.x.a8, d.x.a9, d.x.a10, d.x.a11, d.x.a12, d.x.a13, d.x.a14, d.x.a15, d.x.a16, d.x.a17, d.x.a18, d.x.a19, d.x.a20, d.x.a21, d.x.a22, d.x.a23, d.x.a24, d.x.a25, d.x.a26, d.p.p0, d.p.p1, d.p.p2, d.p.p3, d.p.p4, d.p.p5, d.p.p6) := by
  have lm : (L.map XF.av).length = L.length := by simp
  intro m
  induction m with
  | zero =>
    intro i hm hi
    have q1 : ¬ ((i : Int) < ((L.map XF.av).length : Int)) := by rw [lm]; omega
    rw [List.drop_eq_nil_of_le (by omega)]
    exact run_inr (by simp only [M_sIx_aXput1_pz, Tr.val_c, Tr.val_r, q1, decide_false, cond_false]; rfl)
  | succ m ih =>
    intro i hm hi
    by_cases h : i = L.length
    · have q1 : ¬ ((i : Int) < ((L.map XF.av).length : Int)) := by rw [lm]; omega
      rw [List.drop_eq_nil_of_le (by omega)]
      exact run_inr (by simp only [M_sIx_aXput1_pz, Tr.val_c, Tr.val_r, q1, decide_false, cond_false]; rfl)
    · have hi' : i < L.length := by omega
      have q1 : (i : Int) < ((L.map XF.av).length : Int) := by rw [lm]; omega
      have q2 : (0 : Int) ≤ (i : Int) := by omega
      have q3 : (i : Int).toNat < (L.map XF.av).length := by rw [lm]; omega
      have w1 : IntKind.i64.wrap ((i : Int) + 1) = ((i + 1 : Nat) : Int) := by rw [i64_wrap (by omega) (by omega)]; omega
      have g := XF.getD L i hi'
      rw [List.drop_eq_getElem_cons hi', ixOf]
      by_cases hp : (L[i].a0 == d.x.a0) = true
      · rw [if_pos hp]
        exact run_inr (by simp only [M_sIx_aXput1_pz, Tr.val_c, Tr.val_r, q1, q2, q3, g, XF.g0, hp, decide_true, beq_self_eq_true, cond_true])
      · rw [if_neg hp]
        have hp' : (L[i].a0 == d.x.a0) = false := by simpa using hp
        rw [run_inl (s := ((i + 1 : Nat) : Int)) (by simp only [M_sIx_aXput1_pz, Tr.val_c, Tr.val_r, q1, q2, q3, g, XF.g0, hp', w1, decide_true, beq_self_eq_true, cond_true, cond_false])]
        exact ih (i + 1) (by omega) (by omega)
theorem index_put (L : List XF) (d : DF) (hl : L.length < 1000000000) : g_sIx_aXput1_pz (L.map XF.av) d.kind d.time d.id d.stan d.x.a0 d.x.a1 d.x.a2 d.x.a3 d.x.a4 d.x.a5 d.x.a6 d.x.a7 d.x.a8 d.x.a9 d.x.a10 d.x.a11 d.x.a12 d.x.a13 d.x.a14 d.x.a15 d.x.a16 d.x.a17 d.x.a18 d.x.a19 d.x.a20 d.x.a21 d.x.a22 d.x.a23 d.x.a24 d.x.a25 d.x.a26 d.p.p0 d.p.p1 d.p.p2 d.p.p3 d.p.p4 d.p.p5 d.p.p6 = some (ixOf (fun y => y.a0 == d.x.a0) L 0, L.map XF.av, d.kind, d.time, d.id, d.stan, d.x.a0, d.x.a1, d.x.a2, d.x.a3, d.x.a4, d.x.a5, d.x.a6, d.x.a7, d.x.a8, d.x.a9, d.x.a10, d.x.a11, d.x.a12, d.x.a13, d.x.a14, d.x.a15, d.x.a16, d.x.a17, d.x.a18, d.x.a19, d.x.a20, d.x.a21, d.x.a22, d.x.a23, d.x.a24, d.x.a25, d.x.a26, d.p.p0, d.p.p1, d.p.p2, d.p.p3, d.p.p4, d.p.p5, d.p.p6) := by
  unfold g_sIx_aXput1_pz
  rw [run_inl (s := ((0 : Nat) : Int)) (by simp only [T_sIx_aXput1_pz, Tr.val_r]; rfl)]
  exact ix_put L d hl L.length 0 (by omega) (by omega)
theorem ix_drop (L : List XF) (d : DF) (hl : L.length < 1000000000) : ∀ (m i : Nat), L.length - i ≤ m → i ≤ L.length →
    run (M_sIx_aXdrop1_pz (L.map XF.av) d.kind d.time d.id d.stan d.x.a0 d.x.a1 d.x.a2 d.x.a3 d.x.a4 d.x.a5 d.x.a6 d.x.a7 d.x.a8 d.x.a9 d.x.a10 d.x.a11 d.x.a12 d.x.a13 d.x.a14 d.x.a15 d.x.a16 d.x.a17 d.x.a18 d.x.a19 d.x.a20 d.x.a21 d.x.a22 d.x.a23 d.x.a24 d.x.a25 d.x.a26 d.p.p0 d.p.p1 d.p.p2 d.p.p3 d.p.p4 d.p.p5 d.p.p6) (M_sIx_aXdrop1_pz (L.map XF.av) d.kind d.time d.id d.stan d.x.a0 d.x.a1 d.x.a2 d.x.a3 d.x.a4 d.x.a5 d.x.a6 d.x.a7 d.x.a8 d.x.a9 d.x.a10 d.x.a11 d.x.a12 d.x.a13 d.x.a14 d.x.a15 d.x.a16 d.x.a17 d.x.a18 d.x.a19 d.x.a20 d.x.a21 d.x.a22 d.x.a23 d.x.a24 d.x.a25 d.x.a26 d.p.p0 d.p.p1 d.p.p2 d.p.p3 d.p.p4 d.p.p5 d.p.p6 (i : Int)) = some (ixOf (fun y => y.a0 == d.id) (L.drop i) i, L.map XF.av, d.kind, d.time, d.id, d.stan, d.x.a0, d.x.a1, d.x.a2, d.x.a3, d.x.a4, d.x.a5, d.x.a6, d.x.a7, d.x.a8, d.x.a9, d.x.a10, d.x.a11, d.x.a12, d.x.a13, d.x.a14, d.x.a15, d.x.a16, d.x.a17, d.x.a18, d.x.a19, d.x.a20, d.x.a21, d.x.a22, d.x.a23, d.x.a24, d.x.a25, d.x.a26, d.p.p0, d.p.p1, d.p.p2, d.p.p3, d.p.p4, d.p.p5, d.p.p6) := by
  have lm : (L.map XF.av).length = L.length := by simp
  intro m
  induction m with
  | zero =>
    intro i hm hi
    have q1 : ¬ ((i : Int) < ((L.map XF.av).length : Int)) := by rw [lm]; omega
    rw [List.drop_eq_nil_of_le (by omega)]
    exact run_inr (by simp only [M_sIx_aXdrop1_pz, Tr.val_c, Tr.val_r, q1, decide_false, cond_false]; rfl)
  | succ m ih =>
    intro i hm hi
    by_cases h : i = L.length
    · have q1 : ¬ ((i : Int) < ((L.map XF.av).length : Int)) := by rw [lm]; omega
      rw [List.drop_eq_nil_of_le (by omega)]
      exact run_inr (by simp only [M_sIx_aXdrop1_pz, Tr.val_c, Tr.val_r, q1, decide_false, cond_false]; rfl)
    · have hi' : i < L.length := by omega
      have q1 : (i : Int) < ((L.map XF.av).length : Int) := by rw [lm]; omega
      have q2 : (0 : Int) ≤ (i : Int) := by omega
      have q3 : (i : Int).toNat < (L.map XF.av).length := by rw [lm]; omega
      have w1 : IntKind.i64.wrap ((i : Int) + 1) = ((i + 1 : Nat) : Int) := by rw [i64_wrap (by omega) (by omega)]; omega
      have g := XF.getD L i hi'
      rw [List.drop_eq_getElem_cons hi', ixOf]
      by_cases hp : (L[i].a0 == d.id) = true
      · rw [if_pos hp]
        exact run_inr (by simp only [M_sIx_aXdrop1_pz, Tr.val_c, Tr.val_r, q1, q2, q3, g, XF.g0, hp, decide_true, beq_self_eq_true, cond_true])
      · rw [if_neg hp]
        have hp' : (L[i].a0 == d.id) = false := by simpa using hp
        rw [run_inl (s := ((i + 1 : Nat) : Int)) (by simp only [M_sIx_aXdrop1_pz, Tr.val_c, Tr.val_r, q1, q2, q3, g, XF.g0, hp', w1, decide_true, beq_self_eq_true, cond_true, cond_false])]
        exact ih (i + 1) (by omega) (by omega)
theorem index_drop (L : List XF) (d : DF) (hl : L.length < 1000000000) : g_sIx_aXdrop1_pz (L.map XF.av) d.kind d.time d.id d.stan d.x.a0 d.x.a1 d.x.a2 d.x.a3 d.x.a4 d.x.a5 d.x.a6 d.x.a7 d.x.a8 d.x.a9 d.x.a10 d.x.a11 d.x.a12 d.x.a13 d.x.a14 d.x.a15 d.x.a16 d.x.a17 d.x.a18 d.x.a19 d.x.a20 d.x.a21 d.x.a22 d.x.a23 d.x.a24 d.x.a25 d.x.a26 d.p.p0 d.p.p1 d.p.p2 d.p.p3 d.p.p4 d.p.p5 d.p.p6 = some (ixOf (fun y => y.a0 == d.id) L 0, L.map XF.av, d.kind, d.time, d.id, d.stan, d.x.a0, d.x.a1, d.x.a2, d.x.a3, d.x.a4, d.x.a5, d.x.a6, d.x.a7, d.x.a8, d.x.a9, d.x.a10, d.x.a11, d.x.a12, d.x.a13, d.x.a14, d.x.a15, d.x.a16, d.x.a17, d.x.a18, d.x.a19, d.x.a20, d.x.a21, d.x.a22, d.x.a23, d.x.a24, d.x.a25, d.x.a26, d.p.p0, d.p.p1, d.p.p2, d.p.p3, d.p.p4, d.p.p5, d.p.p6) := by
  unfold g_sIx_aXdrop1_pz
  rw [run_inl (s := ((0 : Nat) : Int)) (by simp only [T_sIx_aXdrop1_pz, Tr.val_r]; rfl)]
  exact ix_drop L d hl L.length 0 (by omega) (by omega)
theorem replace_put (f : XF) (L : List XF) (d : DF) (hl : L.length < 1000000000) : g_sRX_put1_pz f.a0 f.a1 f.a2 f.a3 f.a4 f.a5 f.a6 f.a7 f.a8 f.a9 f.a10 f.a11 f.a12 f.a13 f.a14 f.a15 f.a16 f.a17 f.a18 f.a19 f.a20 f.a21 f.a22 f.a23 f.a24 f.a25 f.a26 (L.map XF.av) d.kind d.time d.id d.stan d.x.a0 d.x.a1 d.x.a2 d.x.a3 d.x.a4 d.x.a5 d.x.a6 d.x.a7 d.x.a8 d.x.a9 d.x.a10 d.x.a11 d.x.a12 d.x.a13 d.x.a14 d.x.a15 d.x.a16 d.x.a17 d.x.a18 d.x.a19 d.x.a20 d.x.a21 d.x.a22 d.x.a23 d.x.a24 d.x.a25 d.x.a26 d.p.p0 d.p.p1 d.p.p2 d.p.p3 d.p.p4 d.p.p5 d.p.p6 = some (d.kind, d.time, d.id, d.stan, d.x.a0, d.x.a1, d.x.a2, d.x.a3, d.x.a4, d.x.a5, d.x.a6, d.x.a7, d.x.a8, d.x.a9, d.x.a10, d.x.a11, d.x.a12, d.x.a13, d.x.a14, d.x.a15, d.x.a16, d.x.a17, d.x.a18, d.x.a19, d.x.a20, d.x.a21, d.x.a22, d.x.a23, d.x.a24, d.x.a25, d.x.a26, d.p.p0, d.p.p1, d.p.p2, d.p.p3, d.p.p4, d.p.p5, d.p.p6, (repl (fun y => y.a0 == d.x.a0) f L).map XF.av) := by
  have lm : (L.map XF.av).length = L.length := by simp
  have ix := index_put L d hl
  have mk := XF.mk_av f
  unfold g_sRX_put1_pz
  rcases ix_spec (fun y : XF => y.a0 == d.x.a0) L 0 with ⟨h1, h2⟩ | ⟨a, y, b, h1, h2, h3, h4⟩
  · rw [h1] at ix
    have q1 : (-1 : Int) < 0 := by decide
    have e : L.map XF.av ++ [f.av] = (repl (fun y => y.a0 == d.x.a0) f L).map XF.av := by rw [repl_none h2]; simp
    have l1 : ((repl (fun y => y.a0 == d.x.a0) f L).map XF.av).length * 369 < 70368744177664 := by rw [repl_none h2]; simp; omega
    simp only [T_sRX_put1_pz, Tr.val_c, Tr.val_r, val_opt, ix, q1, mk, e, l1, Option.bind_some, decide_true, beq_self_eq_true, cond_true]
  · rw [h4] at ix
    have ll : L.length = a.length + (b.length + 1) := by rw [h1]; simp
    have q1 : ¬ (((0 + a.length : Nat) : Int) < 0) := by omega
    have q2 : (0 : Int) ≤ ((0 + a.length : Nat) : Int) := by omega
    have q3 : ((0 + a.length : Nat) : Int) < ((L.map XF.av).length : Int) := by rw [lm]; omega
    have q4 : ((0 + a.length : Nat) : Int).toNat < (L.map XF.av).length := by rw [lm]; omega
    have e : (L.map XF.av).set ((0 + a.length : Nat) : Int).toNat f.av = (repl (fun y => y.a0 == d.x.a0) f L).map XF.av := by
      rw [h1, repl_some (p := fun y : XF => y.a0 == d.x.a0) h3 h2, Int.toNat_natCast, Nat.zero_add]
      simp
    have l1 : ((repl (fun y => y.a0 == d.x.a0) f L).map XF.av).length = (L.map XF.av).length := by rw [h1, repl_some (p := fun y : XF => y.a0 == d.x.a0) h3 h2]; simp
    simp only [T_sRX_put1_pz, Tr.val_c, Tr.val_r, val_opt, ix, q1, q2, q3, q4, mk, e, l1, Option.bind_some, decide_true, decide_false, beq_self_eq_true, cond_true, cond_false]
theorem del_drop {M0 : List AV} (d : DF) : ∀ (B A J : List XF), J ≠ [] → (A ++ J ++ B).length < 1000000000 →
    run (M_sDl_aXdrop1_pz M0 d.kind d.time d.id d.stan d.x.a0 d.x.a1 d.x.a2 d.x.a3 d.x.a4 d.x.a5 d.x.a6 d.x.a7 d.x.a8 d.x.a9 d.x.a10 d.x.a11 d.x.a12 d.x.a13 d.x.a14 d.x.a15 d.x.a16 d.x.a17 d.x.a18 d.x.a19 d.x.a20 d.x.a21 d.x.a22 d.x.a23 d.x.a24 d.x.a25 d.x.a26 d.p.p0 d.p.p1 d.p.p2 d.p.p3 d.p.p4 d.p.p5 d.p.p6) (M_sDl_aXdrop1_pz M0 d.kind d.time d.id d.stan d.x.a0 d.x.a1 d.x.a2 d.x.a3 d.x.a4 d.x.a5 d.x.a6 d.x.a7 d.x.a8 d.x.a9 d.x.a10 d.x.a11 d.x.a12 d.x.a13 d.x.a14 d.x.a15 d.x.a16 d.x.a17 d.x.a18 d.x.a19 d.x.a20 d.x.a21 d.x.a22 d.x.a23 d.x.a24 d.x.a25 d.x.a26 d.p.p0 d.p.p1 d.p.p2 d.p.p3 d.p.p4 d.p.p5 d.p.p6 ((A.length : Int), ((A.length + J.length : Nat) : Int), d.kind, d.time, d.id, d.stan, d.x.a0, d.x.a1, d.x.a2, d.x.a3, d.x.a4, d.x.a5, d.x.a6, d.x.a7, d.x.a8, d.x.a9, d.x.a10, d.x.a11, d.x.a12, d.x.a13, d.x.a14, d.x.a15, d.x.a16, d.x.a17, d.x.a18, d.x.a19, d.x.a20, d.x.a21, d.x.a22, d.x.a23, d.x.a24, d.x.a25, d.x.a26, d.p.p0, d.p.p1, d.p.p2, d.p.p3, d.p.p4, d.p.p5, d.p.p6, (A ++ J ++ B).map XF.av)) = some (d.kind, d.time, d.id, d.stan, d.x.a0, d.x.a1, d.x.a2, d.x.a3, d.x.a4, d.x.a5, d.x.a6, d.x.a7, d.x.a8, d.x.a9, d.x.a10, d.x.a11, d.x.a12, d.x.a13, d.x.a14, d.x.a15, d.x.a16, d.x.a17, d.x.a18, d.x.a19, d.x.a20, d.x.a21, d.x.a22, d.x.a23, d.x.a24, d.x.a25, d.x.a26, d.p.p0, d.p.p1, d.p.p2, d.p.p3, d.p.p4, d.p.p5, d.p.p6, (A ++ B.filter fun y => !(y.a0 == d.id)).map XF.av)
  | [], A, J, hJ, hl => by
    have lm : ((A ++ J ++ []).map XF.av).length = A.length + J.length := by simp
    have q1 : ¬ (((A.length + J.length : Nat) : Int) < (((A ++ J ++ []).map XF.av).length : Int)) := by rw [lm]; omega
    have q2 : (0 : Int) ≤ (A.length : Int) := by omega
    have q3 : (A.length : Int) ≤ (((A ++ J ++ []).map XF.av).length : Int) := by rw [lm]; omega
    have e : List.take (A.length : Int).toNat ((A ++ J ++ []).map XF.av) = A.map XF.av := by simp
    have e2 : ∀ z : AV, List.take (A.length : Int).toNat (A.map XF.av ++ List.replicate (((A ++ J ++ []).map XF.av).length - (A.length : Int).toNat) z) = A.map XF.av := fun z => by
      rw [Int.toNat_natCast, show A.length = (A.map XF.av).length by simp, List.take_left]
    have e3 : ∀ z : AV, (A.map XF.av ++ List.replicate (((A ++ J ++ []).map XF.av).length - (A.length : Int).toNat) z).length = ((A ++ J ++ []).map XF.av).length := fun z => by
      rw [List.length_append, List.length_replicate, lm, Int.toNat_natCast, List.length_map]; omega
    have e4 : (A ++ List.filter (fun y => !(y.a0 == d.id)) ([] : List XF)).map XF.av = A.map XF.av := by simp
    rw [e4]
    exact run_inr (by simp only [M_sDl_aXdrop1_pz, Tr.val_c, Tr.val_r, q1, q2, q3, e, e2, e3, decide_true, decide_false, beq_self_eq_true, cond_true, cond_false])
  | z :: B, A, w :: J, hJ, hl => by
    have lm : ((A ++ (w :: J) ++ z :: B).map XF.av).length = A.length + (w :: J).length + (B.length + 1) := by simp; omega
    have hl' : A.length + (w :: J).length + (B.length + 1) < 1000000000 := by rw [← lm]; simpa using hl
    have q1 : ((A.length + (w :: J).length : Nat) : Int) < (((A ++ (w :: J) ++ z :: B).map XF.av).length : Int) := by rw [lm]; omega
    have q2 : (0 : Int) ≤ ((A.length + (w :: J).length : Nat) : Int) := by omega
    have q3 : ((A.length + (w :: J).length : Nat) : Int).toNat < ((A ++ (w :: J) ++ z :: B).map XF.av).length := by rw [lm]; omega
    have g := XF.getD (A ++ (w :: J) ++ z :: B) (A.length + (w :: J).length) (by simp)
    have gz : (A ++ (w :: J) ++ z :: B)[A.length + (w :: J).length]'(by simp) = z := by
      rw [List.getElem_append_right (by simp)]; simp
    rw [gz] at g
    have w1 : IntKind.i64.wrap (((A.length + (w :: J).length : Nat) : Int) + 1) = ((A.length + (w :: J).length + 1 : Nat) : Int) := by rw [i64_wrap (by omega) (by omega)]; omega
    by_cases hz : (z.a0 == d.id) = true
    · have f : (z :: B).filter (fun y => !(y.a0 == d.id)) = B.filter (fun y => !(y.a0 == d.id)) := by simp [List.filter_cons, hz]
      rw [f]
      have := del_drop (M0 := M0) d B A ((w :: J) ++ [z]) (by simp) (by simp at hl ⊢; omega)
      have e : A ++ ((w :: J) ++ [z]) ++ B = A ++ (w :: J) ++ z :: B := by simp
      rw [e] at this
      have e5 : ((A.length + ((w :: J) ++ [z]).length : Nat) : Int) = ((A.length + (w :: J).length + 1 : Nat) : Int) := by simp; omega
      rw [e5] at this
      rw [← this]
      exact run_inl (by simp only [M_sDl_aXdrop1_pz, Tr.val_c, Tr.val_r, q1, q2, q3, g, XF.g0, hz, w1, decide_true, beq_self_eq_true, Bool.not_true, cond_true, cond_false])
    · have hz' : (z.a0 == d.id) = false := by simpa using hz
      have f : (z :: B).filter (fun y => !(y.a0 == d.id)) = z :: B.filter (fun y => !(y.a0 == d.id)) := by simp [List.filter_cons, hz']
      rw [f]
      have := del_drop (M0 := M0) d B (A ++ [z]) (J ++ [z]) (by simp) (by simp at hl ⊢; omega)
      have e : (A ++ (w :: J) ++ z :: B).set A.length z = A ++ [z] ++ (J ++ [z]) ++ B := by
        simp
      have q4 : (0 : Int) ≤ (A.length : Int) := by omega
      have q5 : (A.length : Int) < (((A ++ (w :: J) ++ z :: B).map XF.av).length : Int) := by rw [lm]; omega
      have q6 : (A.length : Int).toNat < ((A ++ (w :: J) ++ z :: B).map XF.av).length := by rw [lm]; omega
      have mk := XF.mk_av z
      have e1 : ((A ++ (w :: J) ++ z :: B).map XF.av).set (A.length : Int).toNat z.av = (A ++ [z] ++ (J ++ [z]) ++ B).map XF.av := by rw [← e, List.map_set, Int.toNat_natCast]
      have e2 : ((A ++ [z] ++ (J ++ [z]) ++ B).map XF.av).length = ((A ++ (w :: J) ++ z :: B).map XF.av).length := by rw [lm]; simp; omega
      have w2 : IntKind.i64.wrap ((A.length : Int) + 1) = (((A ++ [z]).length : Nat) : Int) := by rw [i64_wrap (by omega) (by omega)]; simp
      have e5 : (((A ++ [z]).length + (J ++ [z]).length : Nat) : Int) = ((A.length + (w :: J).length + 1 : Nat) : Int) := by simp; omega
      rw [e5] at this
      have e6 : (A ++ [z] ++ B.filter (fun y => !(y.a0 == d.id))) = A ++ z :: B.filter (fun y => !(y.a0 == d.id)) := by simp
      rw [e6] at this
      rw [← this]
      exact run_inl (by simp only [M_sDl_aXdrop1_pz, Tr.val_c, Tr.val_r, q1, q2, q3, q4, q5, q6, g, XF.g0, XF.g1, XF.g2, XF.g3, XF.g4, XF.g5, XF.g6, XF.g7, XF.g8, XF.g9, XF.g10, XF.g11, XF.g12, XF.g13, XF.g14, XF.g15, XF.g16, XF.g17, XF.g18, XF.g19, XF.g20, XF.g21, XF.g22, XF.g23, XF.g24, XF.g25, XF.g26, hz', mk, e1, e2, w1, w2, decide_true, beq_self_eq_true, Bool.not_false, cond_true])
theorem delete_drop (L : List XF) (d : DF) (hl : L.length < 1000000000) : g_sDl_aXdrop1_pz (L.map XF.av) d.kind d.time d.id d.stan d.x.a0 d.x.a1 d.x.a2 d.x.a3 d.x.a4 d.x.a5 d.x.a6 d.x.a7 d.x.a8 d.x.a9 d.x.a10 d.x.a11 d.x.a12 d.x.a13 d.x.a14 d.x.a15 d.x.a16 d.x.a17 d.x.a18 d.x.a19 d.x.a20 d.x.a21 d.x.a22 d.x.a23 d.x.a24 d.x.a25 d.x.a26 d.p.p0 d.p.p1 d.p.p2 d.p.p3 d.p.p4 d.p.p5 d.p.p6 = some (d.kind, d.time, d.id, d.stan, d.x.a0, d.x.a1, d.x.a2, d.x.a3, d.x.a4, d.x.a5, d.x.a6, d.x.a7, d.x.a8, d.x.a9, d.x.a10, d.x.a11, d.x.a12, d.x.a13, d.x.a14, d.x.a15, d.x.a16, d.x.a17, d.x.a18, d.x.a19, d.x.a20, d.x.a21, d.x.a22, d.x.a23, d.x.a24, d.x.a25, d.x.a26, d.p.p0, d.p.p1, d.p.p2, d.p.p3, d.p.p4, d.p.p5, d.p.p6, (L.filter fun y => !(y.a0 == d.id)).map XF.av) := by
  have ix := index_drop L d hl
  unfold g_sDl_aXdrop1_pz
  rcases ix_spec (fun y : XF => y.a0 == d.id) L 0 with ⟨h1, h2⟩ | ⟨a, y, b, h1, h2, h3, h4⟩
  · rw [h1] at ix
    have e : L.filter (fun y => !(y.a0 == d.id)) = L := List.filter_eq_self.2 fun y hy => by simp [h2 y hy]
    rw [e]
    exact run_inr (by simp only [T_sDl_aXdrop1_pz, Tr.val_c, Tr.val_r, val_opt, ix, Option.bind_some, beq_self_eq_true, cond_true])
  · rw [h4] at ix
    have ne : (((0 + a.length : Nat) : Int) == -1) = false := by rw [beq_eq_false_iff_ne]; omega
    have ll : L.length = a.length + (b.length + 1) := by rw [h1]; simp
    have w1 : IntKind.i64.wrap (((0 + a.length : Nat) : Int) + 1) = ((a.length + [y].length : Nat) : Int) := by rw [i64_wrap (by omega) (by omega)]; simp
    have w0 : ((0 + a.length : Nat) : Int) = (a.length : Int) := by omega
    have e : a ++ [y] ++ b = L := by rw [h1]; simp
    have := del_drop (M0 := L.map XF.av) d b a [y] (by simp) (by rw [e]; exact hl)
    rw [e] at this
    have e2 : L.filter (fun y => !(y.a0 == d.id)) = a ++ b.filter (fun y => !(y.a0 == d.id)) := by
      rw [h1, List.filter_append, List.filter_cons]
      have : a.filter (fun y => !(y.a0 == d.id)) = a := List.filter_eq_self.2 fun y hy => by simp [h2 y hy]
      rw [this]; simp only [h3, Bool.not_true, Bool.false_eq_true, if_false]
    rw [e2, ← this]
    rw [w0] at ix ne w1
    exact run_inl (by simp only [T_sDl_aXdrop1_pz, Tr.val_c, Tr.val_r, val_opt, ix, ne, w1, Option.bind_some, beq_self_eq_true, cond_true, cond_false])
theorem eachParked_eq (L : List PF) (h : ∀ f ∈ L, f.ok) (hl : L.length < 1000000000) : g_sE_Parked_0fparked_ (L.map PF.av) = some (L.map PF.av) := by
  unfold g_sE_Parked_0fparked_
  rw [run_inl (s := (((0 : Nat) : Int), (L.take 0).map PF.av)) (by simp only [T_sE_Parked_0fparked_, Tr.val_r]; rfl)]
  have lm : (L.map PF.av).length = L.length := by simp
  refine run_until (step := M_sE_Parked_0fparked_ (L.map PF.av)) (f := fun i => ((i : Int), (L.take i).map PF.av)) (n := L.length) (fun i hi => ?_) ?_
  · have q1 : (i : Int) < ((L.map PF.av).length : Int) := by rw [lm]; omega
    have q2 : (0 : Int) ≤ (i : Int) := by omega
    have w1 : IntKind.i64.wrap ((i : Int) + 1) = ((i + 1 : Nat) : Int) := by rw [i64_wrap (by omega) (by omega)]; omega
    have g := PF.getD L i hi
    obtain ⟨f, hf⟩ : ∃ f, f = L[i] := ⟨_, rfl⟩
    have t := parked_eq f (h f (by rw [hf]; exact List.getElem_mem hi))
    have s := map_take_get PF.av L i hi
    rw [← hf] at g s
    have mk := PF.mk_av f
    have l1 : ((L.take (i + 1)).map PF.av).length * 113 < 70368744177664 := by rw [List.length_map, List.length_take]; omega
    simp only [M_sE_Parked_0fparked_, Tr.val_c, Tr.val_r, val_opt, q1, q2, g, PF.g0, PF.g1, PF.g2, PF.g3, PF.g4, PF.g5, PF.g6, t, mk, s, l1, w1, Option.bind_some, decide_true, beq_self_eq_true, cond_true]
  · have q1 : ¬ ((L.length : Int) < ((L.map PF.av).length : Int)) := by rw [lm]; omega
    simp only [M_sE_Parked_0fparked_, Tr.val_c, Tr.val_r, q1, decide_false, beq_self_eq_true, cond_true, cond_false, List.take_length]
theorem ix_park (L : List PF) (d : DF) (hl : L.length < 1000000000) : ∀ (m i : Nat), L.length - i ≤ m → i ≤ L.length →
    run (M_sIx_aPpark1_pz (L.map PF.av) d.kind d.time d.id d.stan d.x.a0 d.x.a1 d.x.a2 d.x.a3 d.x.a4 d.x.a5 d.x.a6 d.x.a7 d.x.a8 d.x.a9 d.x.a10 d.x.a11 d.x.a12 d.x.a13 d.x.a14 d.x.a15 d.x.a16 d.x.a17 d.x.a18 d.x.a19 d.x.a20 d.x.a21 d.x.a22 d.x.a23 d.x.a24 d.x.a25 d.x.a26 d.p.p0 d.p.p1 d.p.p2 d.p.p3 d.p.p4 d.p.p5 d.p.p6) (M_sIx_aPpark1_pz (L.map PF.av) d.kind d.time d.id d.stan d.x.a0 d.x.a1 d.x.a2 d.x.a3 d.x.a4 d.x.a5 d.x.a6 d.x.a7 d.x.a8 d.x.a9 d.x.a10 d.x.a11 d.x.a12 d.x.a13 d.x.a14 d.x.a15 d.x.a16 d.x.a17 d.x.a18 d.x.a19 d.x.a20 d.x.a21 d.x.a22 d.x.a23 d.x.a24 d.x.a25 d.x.a26 d.p.p0 d.p.p1 d.p.p2 d.p.p3 d.p.p4 d.p.p5 d.p.p6 (i : Int)) = some (ixOf (fun y => y.p0 == d.p.p0) (L.drop i) i, L.map PF.av, d.kind, d.time, d.id, d.stan, d.x.a0, d.x.a1, d.x.a2, d.x.a3, d.x.a4, d.x.a5, d.x.a6, d.x.a7, d.x.a8, d.x.a9, d.x.a10, d.x.a11, d.x.a12, d.x.a13, d.x.a14, d.x.a15, d.x.a16, d.x.a17, d.x.a18, d.x.a19, d.x.a20, d.x.a21, d.x.a22, d.x.a23, d.x.a24, d.x.a25, d.x.a26, d.p.p0, d.p.p1, d.p.p2, d.p.p3, d.p.p4, d.p.p5, d.p.p6) := by
  have lm : (L.map PF.av).length = L.length := by simp
  intro m
  induction m with
  | zero =>
    intro i hm hi
    have q1 : ¬ ((i : Int) < ((L.map PF.av).length : Int)) := by rw [lm]; omega
    rw [List.drop_eq_nil_of_le (by omega)]
    exact run_inr (by simp only [M_sIx_aPpark1_pz, Tr.val_c, Tr.val_r, q1, decide_false, cond_false]; rfl)
  | succ m ih =>
    intro i hm hi
    by_cases h : i = L.length
    · have q1 : ¬ ((i : Int) < ((L.map PF.av).length : Int)) := by rw [lm]; omega
      rw [List.drop_eq_nil_of_le (by omega)]
      exact run_inr (by simp only [M_sIx_aPpark1_pz, Tr.val_c, Tr.val_r, q1, decide_false, cond_false]; rfl)
    · have hi' : i < L.length := by omega
      have q1 : (i : Int) < ((L.map PF.av).length : Int) := by rw [lm]; omega
      have q2 : (0 : Int) ≤ (i : Int) := by omega
      have q3 : (i : Int).toNat < (L.map PF.av).length := by rw [lm]; omega
      have w1 : IntKind.i64.wrap ((i : Int) + 1) = ((i + 1 : Nat) : Int) := by rw [i64_wrap (by omega) (by omega)]; omega
      have g := PF.getD L i hi'
      rw [List.drop_eq_getElem_cons hi', ixOf]
      by_cases hp : (L[i].p0 == d.p.p0) = true
      · rw [if_pos hp]
        exact run_inr (by simp only [M_sIx_aPpark1_pz, Tr.val_c, Tr.val_r, q1, q2, q3, g, PF.g0, hp, decide_true, beq_self_eq_true, cond_true])
      · rw [if_neg hp]
        have hp' : (L[i].p0 == d.p.p0) = false := by simpa using hp
        rw [run_inl (s := ((i + 1 : Nat) : Int)) (by simp only [M_sIx_aPpark1_pz, Tr.val_c, Tr.val_r, q1, q2, q3, g, PF.g0, hp', w1, decide_true, beq_self_eq_true, cond_true, cond_false])]
        exact ih (i + 1) (by omega) (by omega)
theorem index_park (L : List PF) (d : DF) (hl : L.length < 1000000000) : g_sIx_aPpark1_pz (L.map PF.av) d.kind d.time d.id d.stan d.x.a0 d.x.a1 d.x.a2 d.x.a3 d.x.a4 d.x.a5 d.x.a6 d.x.a7 d.x.a8 d.x.a9 d.x.a10 d.x.a11 d.x.a12 d.x.a13 d.x.a14 d.x.a15 d.x.a16 d.x.a17 d.x.a18 d.x.a19 d.x.a20 d.x.a21 d.x.a22 d.x.a23 d.x.a24 d.x.a25 d.x.a26 d.p.p0 d.p.p1 d.p.p2 d.p.p3 d.p.p4 d.p.p5 d.p.p6 = some (ixOf (fun y => y.p0 == d.p.p0) L 0, L.map PF.av, d.kind, d.time, d.id, d.stan, d.x.a0, d.x.a1, d.x.a2, d.x.a3, d.x.a4, d.x.a5, d.x.a6, d.x.a7, d.x.a8, d.x.a9, d.x.a10, d.x.a11, d.x.a12, d.x.a13, d.x.a14, d.x.a15, d.x.a16, d.x.a17, d.x.a18, d.x.a19, d.x.a20, d.x.a21, d.x.a22, d.x.a23, d.x.a24, d.x.a25, d.x.a26, d.p.p0, d.p.p1, d.p.p2, d.p.p3, d.p.p4, d.p.p5, d.p.p6) := by
  unfold g_sIx_aPpark1_pz
  rw [run_inl (s := ((0 : Nat) : Int)) (by simp only [T_sIx_aPpark1_pz, Tr.val_r]; rfl)]
  exact ix_park L d hl L.length 0 (by omega) (by omega)
theorem ix_unpark (L : List PF) (d : DF) (hl : L.length < 1000000000) : ∀ (m i : Nat), L.length - i ≤ m → i ≤ L.length →
    run (M_sIx_aPunpark1_pz (L.map PF.av) d.kind d.time d.id d.stan d.x.a0 d.x.a1 d.x.a2 d.x.a3 d.x.a4 d.x.a5 d.x.a6 d.x.a7 d.x.a8 d.x.a9 d.x.a10 d.x.a11 d.x.a12 d.x.a13 d.x.a14 d.x.a15 d.x.a16 d.x.a17 d.x.a18 d.x.a19 d.x.a20 d.x.a21 d.x.a22 d.x.a23 d.x.a24 d.x.a25 d.x.a26 d.p.p0 d.p.p1 d.p.p2 d.p.p3 d.p.p4 d.p.p5 d.p.p6) (M_sIx_aPunpark1_pz (L.map PF.av) d.kind d.time d.id d.stan d.x.a0 d.x.a1 d.x.a2 d.x.a3 d.x.a4 d.x.a5 d.x.a6 d.x.a7 d.x.a8 d.x.a9 d.x.a10 d.x.a11 d.x.a12 d.x.a13 d.x.a14 d.x.a15 d.x.a16 d.x.a17 d.x.a18 d.x.a19 d.x.a20 d.x.a21 d.x.a22 d.x.a23 d.x.a24 d.x.a25 d.x.a26 d.p.p0 d.p.p1 d.p.p2 d.p.p3 d.p.p4 d.p.p5 d.p.p6 (i : Int)) = some (ixOf (fun y => y.p0 == d.id) (L.drop i) i, L.map PF.av, d.kind, d.time, d.id, d.stan, d.x.a0, d.x.a1, d.x.a2, d.x.a3, d.x.a4, d.x.a5, d.x.a6, d.x.a7, d.x.a8, d.x.a9, d.x.a10, d.x.a11, d.x.a12, d.x.a13, d.x.a14, d.x.a15, d.x.a16, d.x.a17, d.x.a18, d.x.a19, d.x.a20, d.x.a21, d.x.a22, d.x.a23, d.x.a24, d.x.a25, d.x.a26, d.p.p0, d.p.p1, d.p.p2, d.p.p3, d.p.p4, d.p.p5, d.p.p6) := by
  have lm : (L.map PF.av).length = L.length := by simp
  intro m
  induction m with
  | zero =>
    intro i hm hi
    have q1 : ¬ ((i : Int) < ((L.map PF.av).length : Int)) := by rw [lm]; omega
    rw [List.drop_eq_nil_of_le (by omega)]
    exact run_inr (by simp only [M_sIx_aPunpark1_pz, Tr.val_c, Tr.val_r, q1, decide_false, cond_false]; rfl)
  | succ m ih =>
    intro i hm hi
    by_cases h : i = L.length
    · have q1 : ¬ ((i : Int) < ((L.map PF.av).length : Int)) := by rw [lm]; omega
      rw [List.drop_eq_nil_of_le (by omega)]
      exact run_inr (by simp only [M_sIx_aPunpark1_pz, Tr.val_c, Tr.val_r, q1, decide_false, cond_false]; rfl)
    · have hi' : i < L.length := by omega
      have q1 : (i : Int) < ((L.map PF.av).length : Int) := by rw [lm]; omega
      have q2 : (0 : Int) ≤ (i : Int) := by omega
      have q3 : (i : Int).toNat < (L.map PF.av).length := by rw [lm]; omega
      have w1 : IntKind.i64.wrap ((i : Int) + 1) = ((i + 1 : Nat) : Int) := by rw [i64_wrap (by omega) (by omega)]; omega
      have g := PF.getD L i hi'
      rw [List.drop_eq_getElem_cons hi', ixOf]
      by_cases hp : (L[i].p0 == d.id) = true
      · rw [if_pos hp]
        exact run_inr (by simp only [M_sIx_aPunpark1_pz, Tr.val_c, Tr.val_r, q1, q2, q3, g, PF.g0, hp, decide_true, beq_self_eq_true, cond_true])
      · rw [if_neg hp]
        have hp' : (L[i].p0 == d.id) = false := by simpa using hp
        rw [run_inl (s := ((i + 1 : Nat) : Int)) (by simp only [M_sIx_aPunpark1_pz, Tr.val_c, Tr.val_r, q1, q2, q3, g, PF.g0, hp', w1, decide_true, beq_self_eq_true, cond_true, cond_false])]
        exact ih (i + 1) (by omega) (by omega)
theorem index_unpark (L : List PF) (d : DF) (hl : L.length < 1000000000) : g_sIx_aPunpark1_pz (L.map PF.av) d.kind d.time d.id d.stan d.x.a0 d.x.a1 d.x.a2 d.x.a3 d.x.a4 d.x.a5 d.x.a6 d.x.a7 d.x.a8 d.x.a9 d.x.a10 d.x.a11 d.x.a12 d.x.a13 d.x.a14 d.x.a15 d.x.a16 d.x.a17 d.x.a18 d.x.a19 d.x.a20 d.x.a21 d.x.a22 d.x.a23 d.x.a24 d.x.a25 d.x.a26 d.p.p0 d.p.p1 d.p.p2 d.p.p3 d.p.p4 d.p.p5 d.p.p6 = some (ixOf (fun y => y.p0 == d.id) L 0, L.map PF.av, d.kind, d.time, d.id, d.stan, d.x.a0, d.x.a1, d.x.a2, d.x.a3, d.x.a4, d.x.a5, d.x.a6, d.x.a7, d.x.a8, d.x.a9, d.x.a10, d.x.a11, d.x.a12, d.x.a13, d.x.a14, d.x.a15, d.x.a16, d.x.a17, d.x.a18, d.x.a19, d.x.a20, d.x.a21, d.x.a22, d.x.a23, d.x.a24, d.x.a25, d.x.a26, d.p.p0, d.p.p1, d.p.p2, d.p.p3, d.p.p4, d.p.p5, d.p.p6) := by
  unfold g_sIx_aPunpark1_pz
  rw [run_inl (s := ((0 : Nat) : Int)) (by simp only [T_sIx_aPunpark1_pz, Tr.val_r]; rfl)]
  exact ix_unpark L d hl L.length 0 (by omega) (by omega)
theorem replace_park (f : PF) (L : List PF) (d : DF) (hl : L.length < 1000000000) : g_sRP_park1_pz f.p0 f.p1 f.p2 f.p3 f.p4 f.p5 f.p6 (L.map PF.av) d.kind d.time d.id d.stan d.x.a0 d.x.a1 d.x.a2 d.x.a3 d.x.a4 d.x.a5 d.x.a6 d.x.a7 d.x.a8 d.x.a9 d.x.a10 d.x.a11 d.x.a12 d.x.a13 d.x.a14 d.x.a15 d.x.a16 d.x.a17 d.x.a18 d.x.a19 d.x.a20 d.x.a21 d.x.a22 d.x.a23 d.x.a24 d.x.a25 d.x.a26 d.p.p0 d.p.p1 d.p.p2 d.p.p3 d.p.p4 d.p.p5 d.p.p6 = some (d.kind, d.time, d.id, d.stan, d.x.a0, d.x.a1, d.x.a2, d.x.a3, d.x.a4, d.x.a5, d.x.a6, d.x.a7, d.x.a8, d.x.a9, d.x.a10, d.x.a11, d.x.a12, d.x.a13, d.x.a14, d.x.a15, d.x.a16, d.x.a17, d.x.a18, d.x.a19, d.x.a20, d.x.a21, d.x.a22, d.x.a23, d.x.a24, d.x.a25, d.x.a26, d.p.p0, d.p.p1, d.p.p2, d.p.p3, d.p.p4, d.p.p5, d.p.p6, (repl (fun y => y.p0 == d.p.p0) f L).map PF.av) := by
  have lm : (L.map PF.av).length = L.length := by simp
  have ix := index_park L d hl
  have mk := PF.mk_av f
  unfold g_sRP_park1_pz
  rcases ix_spec (fun y : PF => y.p0 == d.p.p0) L 0 with ⟨h1, h2⟩ | ⟨a, y, b, h1, h2, h3, h4⟩
  · rw [h1] at ix
    have q1 : (-1 : Int) < 0 := by decide
    have e : L.map PF.av ++ [f.av] = (repl (fun y => y.p0 == d.p.p0) f L).map PF.av := by rw [repl_none h2]; simp
    have l1 : ((repl (fun y => y.p0 == d.p.p0) f L).map PF.av).length * 113 < 70368744177664 := by rw [repl_none h2]; simp; omega
    simp only [T_sRP_park1_pz, Tr.val_c, Tr.val_r, val_opt, ix, q1, mk, e, l1, Option.bind_some, decide_true, beq_self_eq_true, cond_true]
  · rw [h4] at ix
    have ll : L.length = a.length + (b.length + 1) := by rw [h1]; simp
    have q1 : ¬ (((0 + a.length : Nat) : Int) < 0) := by omega
    have q2 : (0 : Int) ≤ ((0 + a.length : Nat) : Int) := by omega
    have q3 : ((0 + a.length : Nat) : Int) < ((L.map PF.av).length : Int) := by rw [lm]; omega
    have q4 : ((0 + a.length : Nat) : Int).toNat < (L.map PF.av).length := by rw [lm]; omega
    have e : (L.map PF.av).set ((0 + a.length : Nat) : Int).toNat f.av = (repl (fun y => y.p0 == d.p.p0) f L).map PF.av := by
      rw [h1, repl_some (p := fun y : PF => y.p0 == d.p.p0) h3 h2, Int.toNat_natCast, Nat.zero_add]
      simp
    have l1 : ((repl (fun y => y.p0 == d.p.p0) f L).map PF.av).length = (L.map PF.av).length := by rw [h1, repl_some (p := fun y : PF => y.p0 == d.p.p0) h3 h2]; simp
    simp only [T_sRP_park1_pz, Tr.val_c, Tr.val_r, val_opt, ix, q1, q2, q3, q4, mk, e, l1, Option.bind_some, decide_true, decide_false, beq_self_eq_true, cond_true, cond_false]
theorem del_unpark {M0 : List AV} (d : DF) : ∀ (B A J : List PF), J ≠ [] → (A ++ J ++ B).length < 1000000000 →
    run (M_sDl_aPunpark1_pz M0 d.kind d.time d.id d.stan d.x.a0 d.x.a1 d.x.a2 d.x.a3 d.x.a4 d.x.a5 d.x.a6 d.x.a7 d.x.a8 d.x.a9 d.x.a10 d.x.a11 d.x.a12 d.x.a13 d.x.a14 d.x.a15 d.x.a16 d.x.a17 d.x.a18 d.x.a19 d.x.a20 d.x.a21 d.x.a22 d.x.a23 d.x.a24 d.x.a25 d.x.a26 d.p.p0 d.p.p1 d.p.p2 d.p.p3 d.p.p4 d.p.p5 d.p.p6) (M_sDl_aPunpark1_pz M0 d.kind d.time d.id d.stan d.x.a0 d.x.a1 d.x.a2 d.x.a3 d.x.a4 d.x.a5 d.x.a6 d.x.a7 d.x.a8 d.x.a9 d.x.a10 d.x.a11 d.x.a12 d.x.a13 d.x.a14 d.x.a15 d.x.a16 d.x.a17 d.x.a18 d.x.a19 d.x.a20 d.x.a21 d.x.a22 d.x.a23 d.x.a24 d.x.a25 d.x.a26 d.p.p0 d.p.p1 d.p.p2 d.p.p3 d.p.p4 d.p.p5 d.p.p6 ((A.length : Int), ((A.length + J.length : Nat) : Int), d.kind, d.time, d.id, d.stan, d.x.a0, d.x.a1, d.x.a2, d.x.a3, d.x.a4, d.x.a5, d.x.a6, d.x.a7, d.x.a8, d.x.a9, d.x.a10, d.x.a11, d.x.a12, d.x.a13, d.x.a14, d.x.a15, d.x.a16, d.x.a17, d.x.a18, d.x.a19, d.x.a20, d.x.a21, d.x.a22, d.x.a23, d.x.a24, d.x.a25, d.x.a26, d.p.p0, d.p.p1, d.p.p2, d.p.p3, d.p.p4, d.p.p5, d.p.p6, (A ++ J ++ B).map PF.av)) = some (d.kind, d.time, d.id, d.stan, d.x.a0, d.x.a1, d.x.a2, d.x.a3, d.x.a4, d.x.a5, d.x.a6, d.x.a7, d.x.a8, d.x.a9, d.x.a10, d.x.a11, d.x.a12, d.x.a13, d.x.a14, d.x.a15, d.x.a16, d.x.a17, d.x.a18, d.x.a19, d.x.a20, d.x.a21, d.x.a22, d.x.a23, d.x.a24, d.x.a25, d.x.a26, d.p.p0, d.p.p1, d.p.p2, d.p.p3, d.p.p4, d.p.p5, d.p.p6, (A ++ B.filter fun y => !(y.p0 == d.id)).map PF.av)
  | [], A, J, hJ, hl => by
    have lm : ((A ++ J ++ []).map PF.av).length = A.length + J.length := by simp
    have q1 : ¬ (((A.length + J.length : Nat) : Int) < (((A ++ J ++ []).map PF.av).length : Int)) := by rw [lm]; omega
    have q2 : (0 : Int) ≤ (A.length : Int) := by omega
    have q3 : (A.length : Int) ≤ (((A ++ J ++ []).map PF.av).length : Int) := by rw [lm]; omega
    have e : List.take (A.length : Int).toNat ((A ++ J ++ []).map PF.av) = A.map PF.av := by simp
    have e2 : ∀ z : AV, List.take (A.length : Int).toNat (A.map PF.av ++ List.replicate (((A ++ J ++ []).map PF.av).length - (A.length : Int).toNat) z) = A.map PF.av := fun z => by
      rw [Int.toNat_natCast, show A.length = (A.map PF.av).length by simp, List.take_left]
    have e3 : ∀ z : AV, (A.map PF.av ++ List.replicate (((A ++ J ++ []).map PF.av).length - (A.length : Int).toNat) z).length = ((A ++ J ++ []).map PF.av).length := fun z => by
      rw [List.length_append, List.length_replicate, lm, Int.toNat_natCast, List.length_map]; omega
    have e4 : (A ++ List.filter (fun y => !(y.p0 == d.id)) ([] : List PF)).map PF.av = A.map PF.av := by simp
    rw [e4]
    exact run_inr (by simp only [M_sDl_aPunpark1_pz, Tr.val_c, Tr.val_r, q1, q2, q3, e, e2, e3, decide_true, decide_false, beq_self_eq_true, cond_true, cond_false])
  | z :: B, A, w :: J, hJ, hl => by
    have lm : ((A ++ (w :: J) ++ z :: B).map PF.av).length = A.length + (w :: J).length + (B.length + 1) := by simp; omega
    have hl' : A.length + (w :: J).length + (B.length + 1) < 1000000000 := by rw [← lm]; simpa using hl
    have q1 : ((A.length + (w :: J).length : Nat) : Int) < (((A ++ (w :: J) ++ z :: B).map PF.av).length : Int) := by rw [lm]; omega
    have q2 : (0 : Int) ≤ ((A.length + (w :: J).length : Nat) : Int) := by omega
    have q3 : ((A.length + (w :: J).length : Nat) : Int).toNat < ((A ++ (w :: J) ++ z :: B).map PF.av).length := by rw [lm]; omega
    have g := PF.getD (A ++ (w :: J) ++ z :: B) (A.length + (w :: J).length) (by simp)
    have gz : (A ++ (w :: J) ++ z :: B)[A.length + (w :: J).length]'(by simp) = z := by
      rw [List.getElem_append_right (by simp)]; simp
    rw [gz] at g
    have w1 : IntKind.i64.wrap (((A.length + (w :: J).length : Nat) : Int) + 1) = ((A.length + (w :: J).length + 1 : Nat) : Int) := by rw [i64_wrap (by omega) (by omega)]; omega
    by_cases hz : (z.p0 == d.id) = true
    · have f : (z :: B).filter (fun y => !(y.p0 == d.id)) = B.filter (fun y => !(y.p0 == d.id)) := by simp [List.filter_cons, hz]
      rw [f]
      have := del_unpark (M0 := M0) d B A ((w :: J) ++ [z]) (by simp) (by simp at hl ⊢; omega)
      have e : A ++ ((w :: J) ++ [z]) ++ B = A ++ (w :: J) ++ z :: B := by simp
      rw [e] at this
      have e5 : ((A.length + ((w :: J) ++ [z]).length : Nat) : Int) = ((A.length + (w :: J).length + 1 : Nat) : Int) := by simp; omega
      rw [e5] at this
      rw [← this]
      exact run_inl (by simp only [M_sDl_aPunpark1_pz, Tr.val_c, Tr.val_r, q1, q2, q3, g, PF.g0, hz, w1, decide_true, beq_self_eq_true, Bool.not_true, cond_true, cond_false])
    · have hz' : (z.p0 == d.id) = false := by simpa using hz
      have f : (z :: B).filter (fun y => !(y.p0 == d.id)) = z :: B.filter (fun y => !(y.p0 == d.id)) := by simp [List.filter_cons, hz']
      rw [f]
      have := del_unpark (M0 := M0) d B (A ++ [z]) (J ++ [z]) (by simp) (by simp at hl ⊢; omega)
      have e : (A ++ (w :: J) ++ z :: B).set A.length z = A ++ [z] ++ (J ++ [z]) ++ B := by
        simp
      have q4 : (0 : Int) ≤ (A.length : Int) := by omega
      have q5 : (A.length : Int) < (((A ++ (w :: J) ++ z :: B).map PF.av).length : Int) := by rw [lm]; omega
      have q6 : (A.length : Int).toNat < ((A ++ (w :: J) ++ z :: B).map PF.av).length := by rw [lm]; omega
      have mk := PF.mk_av z
      have e1 : ((A ++ (w :: J) ++ z :: B).map PF.av).set (A.length : Int).toNat z.av = (A ++ [z] ++ (J ++ [z]) ++ B).map PF.av := by rw [← e, List.map_set, Int.toNat_natCast]
      have e2 : ((A ++ [z] ++ (J ++ [z]) ++ B).map PF.av).length = ((A ++ (w :: J) ++ z :: B).map PF.av).length := by rw [lm]; simp; omega
      have w2 : IntKind.i64.wrap ((A.length : Int) + 1) = (((A ++ [z]).length : Nat) : Int) := by rw [i64_wrap (by omega) (by omega)]; simp
      have e5 : (((A ++ [z]).length + (J ++ [z]).length : Nat) : Int) = ((A.length + (w :: J).length + 1 : Nat) : Int) := by simp; omega
      rw [e5] at this
      have e6 : (A ++ [z] ++ B.filter (fun y => !(y.p0 == d.id))) = A ++ z :: B.filter (fun y => !(y.p0 == d.id)) := by simp
      rw [e6] at this
      rw [← this]
      exact run_inl (by simp only [M_sDl_aPunpark1_pz, Tr.val_c, Tr.val_r, q1, q2, q3, q4, q5, q6, g, PF.g0, PF.g1, PF.g2, PF.g3, PF.g4, PF.g5, PF.g6, hz', mk, e1, e2, w1, w2, decide_true, beq_self_eq_true, Bool.not_false, cond_true])
theorem delete_unpark (L : List PF) (d : DF) (hl : L.length < 1000000000) : g_sDl_aPunpark1_pz (L.map PF.av) d.kind d.time d.id d.stan d.x.a0 d.x.a1 d.x.a2 d.x.a3 d.x.a4 d.x.a5 d.x.a6 d.x.a7 d.x.a8 d.x.a9 d.x.a10 d.x.a11 d.x.a12 d.x.a13 d.x.a14 d.x.a15 d.x.a16 d.x.a17 d.x.a18 d.x.a19 d.x.a20 d.x.a21 d.x.a22 d.x.a23 d.x.a24 d.x.a25 d.x.a26 d.p.p0 d.p.p1 d.p.p2 d.p.p3 d.p.p4 d.p.p5 d.p.p6 = some (d.kind, d.time, d.id, d.stan, d.x.a0, d.x.a1, d.x.a2, d.x.a3, d.x.a4, d.x.a5, d.x.a6, d.x.a7, d.x.a8, d.x.a9, d.x.a10, d.x.a11, d.x.a12, d.x.a13, d.x.a14, d.x.a15, d.x.a16, d.x.a17, d.x.a18, d.x.a19, d.x.a20, d.x.a21, d.x.a22, d.x.a23, d.x.a24, d.x.a25, d.x.a26, d.p.p0, d.p.p1, d.p.p2, d.p.p3, d.p.p4, d.p.p5, d.p.p6, (L.filter fun y => !(y.p0 == d.id)).map PF.av) := by
  have ix := index_unpark L d hl
  unfold g_sDl_aPunpark1_pz
  rcases ix_spec (fun y : PF => y.p0 == d.id) L 0 with ⟨h1, h2⟩ | ⟨a, y, b, h1, h2, h3, h4⟩
  · rw [h1] at ix
    have e : L.filter (fun y => !(y.p0 == d.id)) = L := List.filter_eq_self.2 fun y hy => by simp [h2 y hy]
    rw [e]
    exact run_inr (by simp only [T_sDl_aPunpark1_pz, Tr.val_c, Tr.val_r, val_opt, ix, Option.bind_some, beq_self_eq_true, cond_true])
  · rw [h4] at ix
    have ne : (((0 + a.length : Nat) : Int) == -1) = false := by rw [beq_eq_false_iff_ne]; omega
    have ll : L.length = a.length + (b.length + 1) := by rw [h1]; simp
    have w1 : IntKind.i64.wrap (((0 + a.length : Nat) : Int) + 1) = ((a.length + [y].length : Nat) : Int) := by rw [i64_wrap (by omega) (by omega)]; simp
    have w0 : ((0 + a.length : Nat) : Int) = (a.length : Int) := by omega
    have e : a ++ [y] ++ b = L := by rw [h1]; simp
    have := del_unpark (M0 := L.map PF.av) d b a [y] (by simp) (by rw [e]; exact hl)
    rw [e] at this
    have e2 : L.filter (fun y => !(y.p0 == d.id)) = a ++ b.filter (fun y => !(y.p0 == d.id)) := by
      rw [h1, List.filter_append, List.filter_cons]
      have : a.filter (fun y => !(y.p0 == d.id)) = a := List.filter_eq_self.2 fun y hy => by simp [h2 y hy]
      rw [this]; simp only [h3, Bool.not_true, Bool.false_eq_true, if_false]
    rw [e2, ← this]
    rw [w0] at ix ne w1
    exact run_inl (by simp only [T_sDl_aPunpark1_pz, Tr.val_c, Tr.val_r, val_opt, ix, ne, w1, Option.bind_some, beq_self_eq_true, cond_true, cond_false])
theorem put_eq (d : DF) (h : d.x.ok) (t n s : Int) (L : List XF) (M : List PF) (hl : L.length < 1000000000) : g_sb_put_p0500000 d.kind d.time d.id d.stan d.x.a0 d.x.a1 d.x.a2 d.x.a3 d.x.a4 d.x.a5 d.x.a6 d.x.a7 d.x.a8 d.x.a9 d.x.a10 d.x.a11 d.x.a12 d.x.a13 d.x.a14 d.x.a15 d.x.a16 d.x.a17 d.x.a18 d.x.a19 d.x.a20 d.x.a21 d.x.a22 d.x.a23 d.x.a24 d.x.a25 d.x.a26 d.p.p0 d.p.p1 d.p.p2 d.p.p3 d.p.p4 d.p.p5 d.p.p6 t n s (L.map XF.av) (M.map PF.av) = some (t, n, s, (repl (fun y => y.a0 == d.x.a0) d.x L).map XF.av, M.map PF.av) := by
  unfold g_sb_put_p0500000
  simp only [T_sb_put_p0500000, Tr.val_c, Tr.val_r, val_opt, exchange_eq d.x h, replace_put d.x L d hl, Option.bind_some, beq_self_eq_true, cond_true]
theorem park_eq (d : DF) (h : d.p.ok) (t n s : Int) (L : List XF) (M : List PF) (hl : M.length < 1000000000) : g_sb_park_p0500000 d.kind d.time d.id d.stan d.x.a0 d.x.a1 d.x.a2 d.x.a3 d.x.a4 d.x.a5 d.x.a6 d.x.a7 d.x.a8 d.x.a9 d.x.a10 d.x.a11 d.x.a12 d.x.a13 d.x.a14 d.x.a15 d.x.a16 d.x.a17 d.x.a18 d.x.a19 d.x.a20 d.x.a21 d.x.a22 d.x.a23 d.x.a24 d.x.a25 d.x.a26 d.p.p0 d.p.p1 d.p.p2 d.p.p3 d.p.p4 d.p.p5 d.p.p6 t n s (L.map XF.av) (M.map PF.av) = some (t, n, s, L.map XF.av, (repl (fun y => y.p0 == d.p.p0) d.p M).map PF.av) := by
  unfold g_sb_park_p0500000
  simp only [T_sb_park_p0500000, Tr.val_c, Tr.val_r, val_opt, parked_eq d.p h, replace_park d.p M d hl, Option.bind_some, beq_self_eq_true, cond_true]
theorem drop_eq (d : DF) (t n s : Int) (L : List XF) (M : List PF) (hl : L.length < 1000000000) : g_sb_drop_p0500000 d.kind d.time d.id d.stan d.x.a0 d.x.a1 d.x.a2 d.x.a3 d.x.a4 d.x.a5 d.x.a6 d.x.a7 d.x.a8 d.x.a9 d.x.a10 d.x.a11 d.x.a12 d.x.a13 d.x.a14 d.x.a15 d.x.a16 d.x.a17 d.x.a18 d.x.a19 d.x.a20 d.x.a21 d.x.a22 d.x.a23 d.x.a24 d.x.a25 d.x.a26 d.p.p0 d.p.p1 d.p.p2 d.p.p3 d.p.p4 d.p.p5 d.p.p6 t n s (L.map XF.av) (M.map PF.av) = some (t, n, s, (L.filter fun y => !(y.a0 == d.id)).map XF.av, M.map PF.av) := by
  unfold g_sb_drop_p0500000
  simp only [T_sb_drop_p0500000, Tr.val_c, Tr.val_r, val_opt, delete_drop L d hl, Option.bind_some, beq_self_eq_true, cond_true]
theorem unpark_eq (d : DF) (t n s : Int) (L : List XF) (M : List PF) (hl : M.length < 1000000000) : g_sb_unpark_p0500000 d.kind d.time d.id d.stan d.x.a0 d.x.a1 d.x.a2 d.x.a3 d.x.a4 d.x.a5 d.x.a6 d.x.a7 d.x.a8 d.x.a9 d.x.a10 d.x.a11 d.x.a12 d.x.a13 d.x.a14 d.x.a15 d.x.a16 d.x.a17 d.x.a18 d.x.a19 d.x.a20 d.x.a21 d.x.a22 d.x.a23 d.x.a24 d.x.a25 d.x.a26 d.p.p0 d.p.p1 d.p.p2 d.p.p3 d.p.p4 d.p.p5 d.p.p6 t n s (L.map XF.av) (M.map PF.av) = some (t, n, s, L.map XF.av, (M.filter fun y => !(y.p0 == d.id)).map PF.av) := by
  unfold g_sb_unpark_p0500000
  simp only [T_sb_unpark_p0500000, Tr.val_c, Tr.val_r, val_opt, delete_unpark M d hl, Option.bind_some, beq_self_eq_true, cond_true]
theorem time_eq (d : DF) (t n s : Int) (L : List XF) (M : List PF) : g_sb_time_p0500000 d.kind d.time d.id d.stan d.x.a0 d.x.a1 d.x.a2 d.x.a3 d.x.a4 d.x.a5 d.x.a6 d.x.a7 d.x.a8 d.x.a9 d.x.a10 d.x.a11 d.x.a12 d.x.a13 d.x.a14 d.x.a15 d.x.a16 d.x.a17 d.x.a18 d.x.a19 d.x.a20 d.x.a21 d.x.a22 d.x.a23 d.x.a24 d.x.a25 d.x.a26 d.p.p0 d.p.p1 d.p.p2 d.p.p3 d.p.p4 d.p.p5 d.p.p6 t n s (L.map XF.av) (M.map PF.av) = some (d.time, n, s, L.map XF.av, M.map PF.av) := by
  unfold g_sb_time_p0500000
  simp only [T_sb_time_p0500000, Tr.val_c, Tr.val_r, beq_self_eq_true, cond_true]
theorem next_eq (d : DF) (t n s : Int) (L : List XF) (M : List PF) : g_sb_next_p0500000 d.kind d.time d.id d.stan d.x.a0 d.x.a1 d.x.a2 d.x.a3 d.x.a4 d.x.a5 d.x.a6 d.x.a7 d.x.a8 d.x.a9 d.x.a10 d.x.a11 d.x.a12 d.x.a13 d.x.a14 d.x.a15 d.x.a16 d.x.a17 d.x.a18 d.x.a19 d.x.a20 d.x.a21 d.x.a22 d.x.a23 d.x.a24 d.x.a25 d.x.a26 d.p.p0 d.p.p1 d.p.p2 d.p.p3 d.p.p4 d.p.p5 d.p.p6 t n s (L.map XF.av) (M.map PF.av) = some (t, d.id, d.stan, L.map XF.av, M.map PF.av) := by
  unfold g_sb_next_p0500000
  simp only [T_sb_next_p0500000, Tr.val_c, Tr.val_r, beq_self_eq_true, cond_true]
structure PS where
  t : Int
  n : Int
  s : Int
  L : List XF
  M : List PF
def appD (d : DF) (b : PS) : PS :=
  if d.kind = 1 then { b with t := d.time } else if d.kind = 2 then { b with n := d.id, s := d.stan }
  else if d.kind = 3 then { b with L := repl (fun y => y.a0 == d.x.a0) d.x b.L } else if d.kind = 4 then { b with L := b.L.filter fun y => !(y.a0 == d.id) }
  else if d.kind = 5 then { b with M := repl (fun y => y.p0 == d.p.p0) d.p b.M } else if d.kind = 6 then { b with M := b.M.filter fun y => !(y.p0 == d.id) } else b
def DF.ok (d : DF) : Prop := d.x.ok ∧ d.p.ok
theorem apply_eq (d : DF) (h : d.ok) (b : PS) (hl : b.L.length < 1000000000) (hm : b.M.length < 1000000000) : g_sb_apply_p0500000 d.kind d.time d.id d.stan d.x.a0 d.x.a1 d.x.a2 d.x.a3 d.x.a4 d.x.a5 d.x.a6 d.x.a7 d.x.a8 d.x.a9 d.x.a10 d.x.a11 d.x.a12 d.x.a13 d.x.a14 d.x.a15 d.x.a16 d.x.a17 d.x.a18 d.x.a19 d.x.a20 d.x.a21 d.x.a22 d.x.a23 d.x.a24 d.x.a25 d.x.a26 d.p.p0 d.p.p1 d.p.p2 d.p.p3 d.p.p4 d.p.p5 d.p.p6 b.t b.n b.s (b.L.map XF.av) (b.M.map PF.av) = some ((appD d b).t, (appD d b).n, (appD d b).s, (appD d b).L.map XF.av, (appD d b).M.map PF.av) := by
  unfold g_sb_apply_p0500000 appD
  by_cases k1 : d.kind = 1
  · have b1 : (d.kind == 1) = true := by rw [beq_iff_eq]; exact k1
    rw [if_pos k1]
    simp only [T_sb_apply_p0500000, Tr.val_c, Tr.val_r, val_opt, b1, time_eq d, Option.bind_some, beq_self_eq_true, cond_true]
  have b1 : (d.kind == 1) = false := by rw [beq_eq_false_iff_ne]; exact k1
  rw [if_neg k1]
  by_cases k2 : d.kind = 2
  · have b2 : (d.kind == 2) = true := by rw [beq_iff_eq]; exact k2
    rw [if_pos k2]
    simp only [T_sb_apply_p0500000, Tr.val_c, Tr.val_r, val_opt, b1, b2, next_eq d, Option.bind_some, beq_self_eq_true, cond_true, cond_false]
  have b2 : (d.kind == 2) = false := by rw [beq_eq_false_iff_ne]; exact k2
  rw [if_neg k2]
  by_cases k3 : d.kind = 3
  · have b3 : (d.kind == 3) = true := by rw [beq_iff_eq]; exact k3
    rw [if_pos k3]
    simp only [T_sb_apply_p0500000, Tr.val_c, Tr.val_r, val_opt, b1, b2, b3, put_eq d h.1 b.t b.n b.s b.L b.M hl, Option.bind_some, beq_self_eq_true, cond_true, cond_false]
  have b3 : (d.kind == 3) = false := by rw [beq_eq_false_iff_ne]; exact k3
  rw [if_neg k3]
  by_cases k4 : d.kind = 4
  · have b4 : (d.kind == 4) = true := by rw [beq_iff_eq]; exact k4
    rw [if_pos k4]
    simp only [T_sb_apply_p0500000, Tr.val_c, Tr.val_r, val_opt, b1, b2, b3, b4, drop_eq d b.t b.n b.s b.L b.M hl, Option.bind_some, beq_self_eq_true, cond_true, cond_false]
  have b4 : (d.kind == 4) = false := by rw [beq_eq_false_iff_ne]; exact k4
  rw [if_neg k4]
  by_cases k5 : d.kind = 5
  · have b5 : (d.kind == 5) = true := by rw [beq_iff_eq]; exact k5
    rw [if_pos k5]
    simp only [T_sb_apply_p0500000, Tr.val_c, Tr.val_r, val_opt, b1, b2, b3, b4, b5, park_eq d h.2 b.t b.n b.s b.L b.M hm, Option.bind_some, beq_self_eq_true, cond_true, cond_false]
  have b5 : (d.kind == 5) = false := by rw [beq_eq_false_iff_ne]; exact k5
  rw [if_neg k5]
  by_cases k6 : d.kind = 6
  · have b6 : (d.kind == 6) = true := by rw [beq_iff_eq]; exact k6
    rw [if_pos k6]
    simp only [T_sb_apply_p0500000, Tr.val_c, Tr.val_r, val_opt, b1, b2, b3, b4, b5, b6, unpark_eq d b.t b.n b.s b.L b.M hm, Option.bind_some, beq_self_eq_true, cond_true, cond_false]
  have b6 : (d.kind == 6) = false := by rw [beq_eq_false_iff_ne]; exact k6
  rw [if_neg k6]
  simp only [T_sb_apply_p0500000, Tr.val_c, Tr.val_r, b1, b2, b3, b4, b5, b6, beq_self_eq_true, cond_true, cond_false]
theorem repl_mem {α : Type} {p : α → Bool} {x y : α} : ∀ {l : List α}, y ∈ repl p x l → y = x ∨ y ∈ l
  | [], h => by simpa [repl] using h
  | z :: l, h => by
    unfold repl at h
    split at h
    · rcases List.mem_cons.1 h with h | h
      · exact .inl h
      · exact .inr (by simp [h])
    · rcases List.mem_cons.1 h with h | h
      · exact .inr (by simp [h])
      · rcases repl_mem h with h | h
        · exact .inl h
        · exact .inr (by simp [h])
theorem repl_len {α : Type} {p : α → Bool} {x : α} : ∀ {l : List α}, (repl p x l).length ≤ l.length + 1
  | [] => by simp [repl]
  | z :: l => by
    unfold repl
    split
    · simp
    · have := repl_len (p := p) (x := x) (l := l); simp; omega
def PS.ok (b : PS) : Prop := (∀ f ∈ b.L, f.ok) ∧ ∀ f ∈ b.M, f.ok
theorem appD_ok (d : DF) (h : d.ok) (b : PS) (hb : b.ok) : (appD d b).ok ∧ (appD d b).L.length ≤ b.L.length + 1 ∧ (appD d b).M.length ≤ b.M.length + 1 := by
  unfold appD
  repeat' split
  all_goals first
    | exact ⟨hb, by simp, by simp⟩
    | exact ⟨⟨fun f hf => by
        rcases repl_mem hf with rfl | hf
        · exact h.1
        · exact hb.1 f hf, hb.2⟩, repl_len, by simp⟩
    | exact ⟨⟨hb.1, fun f hf => by
        rcases repl_mem hf with rfl | hf
        · exact h.2
        · exact hb.2 f hf⟩, by simp, repl_len⟩
    | exact ⟨⟨fun f hf => hb.1 f (List.mem_filter.1 hf).1, hb.2⟩, Nat.le_succ_of_le (List.length_filter_le _ _), by simp⟩
    | exact ⟨⟨hb.1, fun f hf => hb.2 f (List.mem_filter.1 hf).1⟩, by simp, Nat.le_succ_of_le (List.length_filter_le _ _)⟩
theorem appAll_from (D : List DF) (hD : ∀ d ∈ D, d.ok) (hlen : D.length < 100000000) (x0 x1 x2 : Int) (x3 x4 : List AV) : ∀ (m i : Nat) (b : PS), D.length - i ≤ m → i ≤ D.length → b.ok → b.L.length + (D.length - i) < 900000000 → b.M.length + (D.length - i) < 900000000 →
    run (M_state_Apply x0 x1 x2 x3 x4 (D.map DF.av)) (M_state_Apply x0 x1 x2 x3 x4 (D.map DF.av) ((i : Int), b.t, b.n, b.s, b.L.map XF.av, b.M.map PF.av)) =
      some (((D.drop i).foldl (fun b d => appD d b) b).t, ((D.drop i).foldl (fun b d => appD d b) b).n, ((D.drop i).foldl (fun b d => appD d b) b).s, ((D.drop i).foldl (fun b d => appD d b) b).L.map XF.av, ((D.drop i).foldl (fun b d => appD d b) b).M.map PF.av) := by
  have lm : (D.map DF.av).length = D.length := by simp
  intro m
  have fin : ∀ (i : Nat) (b : PS), D.length ≤ i → run (M_state_Apply x0 x1 x2 x3 x4 (D.map DF.av)) (M_state_Apply x0 x1 x2 x3 x4 (D.map DF.av) ((i : Int), b.t, b.n, b.s, b.L.map XF.av, b.M.map PF.av)) =
      some (((D.drop i).foldl (fun b d => appD d b) b).t, ((D.drop i).foldl (fun b d => appD d b) b).n, ((D.drop i).foldl (fun b d => appD d b) b).s, ((D.drop i).foldl (fun b d => appD d b) b).L.map XF.av, ((D.drop i).foldl (fun b d => appD d b) b).M.map PF.av) := by
    intro i b hi
    have q1 : ¬ ((i : Int) < ((D.map DF.av).length : Int)) := by rw [lm]; omega
    rw [List.drop_eq_nil_of_le hi]
    exact run_inr (by simp only [M_state_Apply, Tr.val_c, Tr.val_r, q1, decide_false, beq_self_eq_true, cond_true, cond_false, List.foldl_nil])
  induction m with
  | zero => intro i b hm hi hb h1 h2; exact fin i b (by omega)
  | succ m ih =>
    intro i b hm hi hb h1 h2
    by_cases he : D.length ≤ i
    · exact fin i b he
    · have hi' : i < D.length := by omega
      have q1 : (i : Int) < ((D.map DF.av).length : Int) := by rw [lm]; omega
      have q2 : (0 : Int) ≤ (i : Int) := by omega
      have w1 : IntKind.i64.wrap ((i : Int) + 1) = ((i + 1 : Nat) : Int) := by rw [i64_wrap (by omega) (by omega)]; omega
      have g := DF.getD D i hi'
      obtain ⟨d, hd⟩ : ∃ d, d = D[i] := ⟨_, rfl⟩
      rw [← hd] at g
      have hok := hD d (by rw [hd]; exact List.getElem_mem hi')
      have a := apply_eq d hok b (by omega) (by omega)
      obtain ⟨k1, k2, k3⟩ := appD_ok d hok b hb
      rw [List.drop_eq_getElem_cons hi', ← hd, List.foldl_cons, ← ih (i + 1) (appD d b) (by omega) (by omega) k1 (by omega) (by omega)]
      exact run_inl (by simp only [M_state_Apply, Tr.val_c, Tr.val_r, val_opt, q1, q2, g, DF.g0, DF.g1, DF.g2, DF.g3, DF.g4, DF.g5, DF.g6, DF.g7, DF.g8, DF.g9, DF.g10, DF.g11, DF.g12, DF.g13, DF.g14, DF.g15, DF.g16, DF.g17, DF.g18, DF.g19, DF.g20, DF.g21, DF.g22, DF.g23, DF.g24, DF.g25, DF.g26, DF.g27, DF.g28, DF.g29, DF.g30, DF.g31, DF.g32, DF.g33, DF.g34, DF.g35, DF.g36, DF.g37, a, w1, Option.bind_some, decide_true, beq_self_eq_true, cond_true])
theorem Apply_eq (D : List DF) (hD : ∀ d ∈ D, d.ok) (b : PS) (hb : b.ok) (h : D.length < 100000000) (hl : b.L.length < 100000000) (hm : b.M.length < 100000000) :
    g_state_Apply b.t b.n b.s (b.L.map XF.av) (b.M.map PF.av) (D.map DF.av) = some ((D.foldl (fun b d => appD d b) b).t, (D.foldl (fun b d => appD d b) b).n, (D.foldl (fun b d => appD d b) b).s, (D.foldl (fun b d => appD d b) b).L.map XF.av, (D.foldl (fun b d => appD d b) b).M.map PF.av) := by
  unfold g_state_Apply
  have e1 := eachExchange_eq b.L hb.1 (by omega)
  have e2 := eachParked_eq b.M hb.2 (by omega)
  rw [run_inl (s := (((0 : Nat) : Int), b.t, b.n, b.s, b.L.map XF.av, b.M.map PF.av)) (by simp only [T_state_Apply, Tr.val_r, val_opt, e1, e2, Option.bind_some]; rfl)]
  exact appAll_from D hD h _ _ _ _ _ D.length 0 b (by omega) (by omega) hb (by omega) (by omega)
theorem find_from (L : List XF) (hL : ∀ f ∈ L, f.ok) (hl : L.length < 1000000000) (k x0 x1 x2 : Int) (x4 : List AV) : ∀ (m i : Nat), L.length - i ≤ m → i ≤ L.length →
    run (M_state_Find x0 x1 x2 (L.map XF.av) x4 k) (M_state_Find x0 x1 x2 (L.map XF.av) x4 k (i : Int)) = some (match (L.drop i).find? (fun y => y.a0 == k) with
      | some f => (f.a0, f.a1, f.a2, f.a3, f.a4, f.a5, f.a6, f.a7, f.a8, f.a9, f.a10, f.a11, f.a12, f.a13, f.a14, f.a15, f.a16, f.a17, f.a18, f.a19, f.a20, f.a21, f.a22, f.a23, f.a24, f.a25, f.a26, true)
      | none => (0, 0, 0, 0, 0, 0, 0, 0, [], [], [], [], 0, [], [], [], [], 0, [], [], 0, [], [], [], [], [], [], false)) := by
  have lm : (L.map XF.av).length = L.length := by simp
  intro m
  induction m with
  | zero =>
    intro i hm hi
    have q1 : ¬ ((i : Int) < ((L.map XF.av).length : Int)) := by rw [lm]; omega
    rw [List.drop_eq_nil_of_le (by omega)]
    exact run_inr (by simp only [M_state_Find, Tr.val_c, Tr.val_r, q1, decide_false, cond_false]; rfl)
  | succ m ih =>
    intro i hm hi
    by_cases h : i = L.length
    · have q1 : ¬ ((i : Int) < ((L.map XF.av).length : Int)) := by rw [lm]; omega
      rw [List.drop_eq_nil_of_le (by omega)]
      exact run_inr (by simp only [M_state_Find, Tr.val_c, Tr.val_r, q1, decide_false, cond_false]; rfl)
    · have hi' : i < L.length := by omega
      have q1 : (i : Int) < ((L.map XF.av).length : Int) := by rw [lm]; omega
      have q2 : (0 : Int) ≤ (i : Int) := by omega
      have w1 : IntKind.i64.wrap ((i : Int) + 1) = ((i + 1 : Nat) : Int) := by rw [i64_wrap (by omega) (by omega)]; omega
      have g := XF.getD L i hi'
      obtain ⟨f, hf⟩ : ∃ f, f = L[i] := ⟨_, rfl⟩
      rw [List.drop_eq_getElem_cons hi', ← hf, List.find?_cons]
      rw [← hf] at g
      have ex := exchange_eq f (hL f (by rw [hf]; exact List.getElem_mem hi'))
      cases hp : (f.a0 == k) with
      | true => exact run_inr (by simp only [M_state_Find, Tr.val_c, Tr.val_r, val_opt, q1, q2, g, XF.g0, XF.g1, XF.g2, XF.g3, XF.g4, XF.g5, XF.g6, XF.g7, XF.g8, XF.g9, XF.g10, XF.g11, XF.g12, XF.g13, XF.g14, XF.g15, XF.g16, XF.g17, XF.g18, XF.g19, XF.g20, XF.g21, XF.g22, XF.g23, XF.g24, XF.g25, XF.g26, ex, hp, Option.bind_some, decide_true, cond_true])
      | false =>
        rw [run_inl (s := ((i + 1 : Nat) : Int)) (by simp only [M_state_Find, Tr.val_c, Tr.val_r, val_opt, q1, q2, g, XF.g0, XF.g1, XF.g2, XF.g3, XF.g4, XF.g5, XF.g6, XF.g7, XF.g8, XF.g9, XF.g10, XF.g11, XF.g12, XF.g13, XF.g14, XF.g15, XF.g16, XF.g17, XF.g18, XF.g19, XF.g20, XF.g21, XF.g22, XF.g23, XF.g24, XF.g25, XF.g26, hp, w1, decide_true, cond_true, cond_false])]
        exact ih (i + 1) (by omega) (by omega)
theorem Find_eq (L : List XF) (hL : ∀ f ∈ L, f.ok) (hl : L.length < 1000000000) (k x0 x1 x2 : Int) (x4 : List AV) : g_state_Find x0 x1 x2 (L.map XF.av) x4 k = some (match L.find? (fun y => y.a0 == k) with
      | some f => (f.a0, f.a1, f.a2, f.a3, f.a4, f.a5, f.a6, f.a7, f.a8, f.a9, f.a10, f.a11, f.a12, f.a13, f.a14, f.a15, f.a16, f.a17, f.a18, f.a19, f.a20, f.a21, f.a22, f.a23, f.a24, f.a25, f.a26, true)
      | none => (0, 0, 0, 0, 0, 0, 0, 0, [], [], [], [], 0, [], [], [], [], 0, [], [], 0, [], [], [], [], [], [], false)) := by
  unfold g_state_Find
  rw [run_inl (s := ((0 : Nat) : Int)) (by simp only [T_state_Find, Tr.val_r]; rfl)]
  exact find_from L hL hl k x0 x1 x2 x4 L.length 0 (by omega) (by omega)
def XF.zero : XF := ⟨0, 0, 0, 0, 0, 0, 0, 0, [], [], [], [], 0, [], [], [], [], 0, [], [], 0, [], [], [], [], [], []⟩
def PF.zero : PF := ⟨0, 0, [], [], [], [], []⟩
theorem TagsF.nil : TagsF [] := ⟨fun x h => by simp at h, by decide⟩
def xk (k i : Int) : XF := ⟨k, i, 0, 0, 0, 0, 0, 0, [], [], [], [], 0, [], [], [], [], 0, [], [], 0, [], [], [], [], [], []⟩
def pk (k u : Int) : PF := ⟨k, u, [], [], [], [], []⟩
theorem xk_ok (k i : Int) : (xk k i).ok := ⟨TagsF.nil, by show (0 : Nat) * 33 < 70368744177664; decide, TagsF.nil⟩
theorem pk_ok (k i : Int) : (pk k i).ok := ⟨by show (0 : Nat) * 33 < 70368744177664; decide, TagsF.nil⟩
theorem xz_ok : XF.zero.ok := xk_ok 0 0
theorem pz_ok : PF.zero.ok := pk_ok 0 0
def dPut (k i : Int) : DF := ⟨3, 0, 0, 0, xk k i, PF.zero⟩
def dPark (k u : Int) : DF := ⟨5, 0, 0, 0, XF.zero, pk k u⟩
def dDrop (k : Int) : DF := ⟨4, 0, k, 0, XF.zero, PF.zero⟩
def dUnpark (k : Int) : DF := ⟨6, 0, k, 0, XF.zero, PF.zero⟩
theorem dPut_ok (k i : Int) : (dPut k i).ok := ⟨xk_ok k i, pz_ok⟩
theorem dPark_ok (k i : Int) : (dPark k i).ok := ⟨xz_ok, pk_ok k i⟩
theorem dDrop_ok (k : Int) : (dDrop k).ok := ⟨xz_ok, pz_ok⟩
theorem dUnpark_ok (k : Int) : (dUnpark k).ok := ⟨xz_ok, pz_ok⟩
theorem repl_map {α : Type} {f : α → Int} {k : Int} {x : α} (hx : f x = k) : ∀ (L : List α), (repl (fun y => f y == k) x L).map f = if k ∈ L.map f then L.map f else L.map f ++ [k]
  | [] => by simp [repl, hx]
  | y :: l => by
    unfold repl
    by_cases h : f y = k
    · simp [h, hx]
    · have h1 : ¬ (f y == k) = true := by simpa using h
      have h2 : (k = f y) = False := by simp; exact fun e => h e.symm
      rw [if_neg h1, List.map_cons, repl_map hx l]
      simp only [List.map_cons, List.mem_cons, h2, false_or]
      split <;> rfl
theorem awake24 : g_comptoirlaw24_awake = some true := by
  have A := Apply_eq [⟨1, 5, 0, 0, XF.zero, PF.zero⟩, dPut 3 0] (fun d hd => by
    simp only [List.mem_cons, List.not_mem_nil, or_false] at hd
    rcases hd with rfl | rfl
    · exact ⟨xz_ok, pz_ok⟩
    · exact dPut_ok 3 0) ⟨0, 1, 1, [], []⟩ ⟨fun f h => by simp at h, fun f h => by simp at h⟩ (by simp) (by simp) (by simp)
  have e : [(⟨1, 5, 0, 0, XF.zero, PF.zero⟩ : DF), dPut 3 0].foldl (fun b d => appD d b) ⟨0, 1, 1, [], []⟩ = ⟨5, 1, 1, [xk 3 0], []⟩ := rfl
  rw [e] at A
  simp only [List.map_cons, List.map_nil, DF.av, dPut, XF.zero, PF.zero, xk] at A
  have F := Find_eq [xk 3 0] (fun f h => by rw [List.mem_singleton] at h; subst h; exact xk_ok 3 0) (by simp) 3 5 1 1 []
  have e2 : [xk 3 0].find? (fun y => y.a0 == 3) = some (xk 3 0) := rfl
  rw [e2] at F
  simp only [List.map_cons, List.map_nil, xk] at F
  unfold g_comptoirlaw24_awake
  simp only [T_comptoirlaw24_awake, Tr.val_c, Tr.val_r, val_opt, A, F, Option.bind_some, beq_self_eq_true, cond_true, List.length_cons, List.length_nil]
  rfl
theorem Tag_refl (x0 : Int) (x1 : List AV) : g_ch_Tag x0 x1 x0 x1 = some true := by
  unfold g_ch_Tag
  simp only [T_ch_Tag, Tr.val_c, Tr.val_r, beq_self_eq_true, cond_true]
theorem Element_refl (x0 : Int) (x1 : List AV) : g_ch_Element x0 x1 x0 x1 = some true := by
  unfold g_ch_Element
  simp only [T_ch_Element, Tr.val_c, Tr.val_r, beq_self_eq_true, cond_true]
set_option maxRecDepth 100000 in
theorem Same_Tag_refl (l : List AV) (hl : l.length < 9223372036854775807) : g_ch_Same_TT l l = some true := by
  unfold g_ch_Same_TT
  have e0 : ((l.length : Int) != (l.length : Int)) = false := by simp
  rw [run_inl (s := ((0 : Nat) : Int)) (by simp only [T_ch_Same_TT, Tr.val_c, Tr.val_r, e0, cond_false]; rfl)]
  have := run_count (step := M_ch_Same_TT l l) (f := fun i => (i : Int)) (n := l.length) fun i hi => by
    have q1 : (i : Int) < (l.length : Int) := by omega
    have q2 : (0 : Int) ≤ i := by omega
    have w : IntKind.i64.wrap ((i : Int) + 1) = ((i + 1 : Nat) : Int) := by rw [i64_wrap (by omega) (by omega)]; omega
    simp only [M_ch_Same_TT, Tr.val_c, Tr.val_r, val_opt, q1, q2, w, Tag_refl, decide_true, beq_self_eq_true, Bool.and_self, Bool.not_true, Option.bind_some, cond_true, cond_false]
  rw [this]
  have q0 : ¬ ((l.length : Int) < (l.length : Int)) := by omega
  exact run_inr (by simp only [M_ch_Same_TT, Tr.val_c, Tr.val_r, q0, decide_false, cond_false])
set_option maxRecDepth 100000 in
theorem Same_Pair_refl (l : List AV) (hl : l.length < 9223372036854775807) : g_ch_Same_AA l l = some true := by
  unfold g_ch_Same_AA
  have e0 : ((l.length : Int) != (l.length : Int)) = false := by simp
  rw [run_inl (s := ((0 : Nat) : Int)) (by simp only [T_ch_Same_AA, Tr.val_c, Tr.val_r, e0, cond_false]; rfl)]
  have := run_count (step := M_ch_Same_AA l l) (f := fun i => (i : Int)) (n := l.length) fun i hi => by
    have q1 : (i : Int) < (l.length : Int) := by omega
    have q2 : (0 : Int) ≤ i := by omega
    have w : IntKind.i64.wrap ((i : Int) + 1) = ((i + 1 : Nat) : Int) := by rw [i64_wrap (by omega) (by omega)]; omega
    simp only [M_ch_Same_AA, Tr.val_c, Tr.val_r, val_opt, q1, q2, w, decide_true, beq_self_eq_true, Bool.and_self, Bool.not_true, Option.bind_some, cond_true, cond_false]
  rw [this]
  have q0 : ¬ ((l.length : Int) < (l.length : Int)) := by omega
  exact run_inr (by simp only [M_ch_Same_AA, Tr.val_c, Tr.val_r, q0, decide_false, cond_false])
set_option maxRecDepth 100000 in
theorem Same_Element_refl (l : List AV) (hl : l.length < 9223372036854775807) : g_ch_Same_EE l l = some true := by
  unfold g_ch_Same_EE
  have e0 : ((l.length : Int) != (l.length : Int)) = false := by simp
  rw [run_inl (s := ((0 : Nat) : Int)) (by simp only [T_ch_Same_EE, Tr.val_c, Tr.val_r, e0, cond_false]; rfl)]
  have := run_count (step := M_ch_Same_EE l l) (f := fun i => (i : Int)) (n := l.length) fun i hi => by
    have q1 : (i : Int) < (l.length : Int) := by omega
    have q2 : (0 : Int) ≤ i := by omega
    have w : IntKind.i64.wrap ((i : Int) + 1) = ((i + 1 : Nat) : Int) := by rw [i64_wrap (by omega) (by omega)]; omega
    simp only [M_ch_Same_EE, Tr.val_c, Tr.val_r, val_opt, q1, q2, w, Element_refl, decide_true, beq_self_eq_true, Bool.and_self, Bool.not_true, Option.bind_some, cond_true, cond_false]
  rw [this]
  have q0 : ¬ ((l.length : Int) < (l.length : Int)) := by omega
  exact run_inr (by simp only [M_ch_Same_EE, Tr.val_c, Tr.val_r, q0, decide_false, cond_false])
theorem Plain_Pair_refl (l : List AV) (hl : l.length < 9223372036854775807) : g_ch_Plain_api_Pair l l = some true := by
  unfold g_ch_Plain_api_Pair
  simp only [T_ch_Plain_api_Pair, Tr.val_r, val_opt, Same_Pair_refl l hl, Option.bind_some]
set_option maxRecDepth 100000 in
theorem Message_refl (x0 : Int) (x1 : Int) (x2 : List UInt8) (x3 : List UInt8) (x4 : List UInt8) (x5 : List UInt8) (x6 : Int) (x7 : List UInt8) (x8 : List UInt8) (x9 : List UInt8) (x10 : List UInt8) (x11 : Int) (x12 : List UInt8) (x13 : List UInt8) (x14 : Int) (x15 : List UInt8) (x16 : List AV) (x17 : List UInt8) (x18 : List UInt8) (x19 : List AV) (x20 : List AV) (h16 : x16.length < 9223372036854775807) (h19 : x19.length < 9223372036854775807) (h20 : x20.length < 9223372036854775807) : g_ch_Message x0 x1 x2 x3 x4 x5 x6 x7 x8 x9 x10 x11 x12 x13 x14 x15 x16 x17 x18 x19 x20 x0 x1 x2 x3 x4 x5 x6 x7 x8 x9 x10 x11 x12 x13 x14 x15 x16 x17 x18 x19 x20 = some true := by
  unfold g_ch_Message
  simp only [T_ch_Message, Tr.val_c, Tr.val_r, val_opt, Same_Tag_refl _ h16, Plain_Pair_refl _ h19, Same_Element_refl _ h20, beq_self_eq_true, Bool.and_self, Option.bind_some, cond_true]
set_option maxRecDepth 100000 in
theorem Exchange_refl (x0 : Int) (x1 : Int) (x2 : Int) (x3 : Int) (x4 : Int) (x5 : Int) (x6 : Int) (x7 : Int) (x8 : List UInt8) (x9 : List UInt8) (x10 : List UInt8) (x11 : List UInt8) (x12 : Int) (x13 : List UInt8) (x14 : List UInt8) (x15 : List UInt8) (x16 : List UInt8) (x17 : Int) (x18 : List UInt8) (x19 : List UInt8) (x20 : Int) (x21 : List UInt8) (x22 : List AV) (x23 : List UInt8) (x24 : List UInt8) (x25 : List AV) (x26 : List AV) (h22 : x22.length < 9223372036854775807) (h25 : x25.length < 9223372036854775807) (h26 : x26.length < 9223372036854775807) : g_ch_Exchange x0 x1 x2 x3 x4 x5 x6 x7 x8 x9 x10 x11 x12 x13 x14 x15 x16 x17 x18 x19 x20 x21 x22 x23 x24 x25 x26 x0 x1 x2 x3 x4 x5 x6 x7 x8 x9 x10 x11 x12 x13 x14 x15 x16 x17 x18 x19 x20 x21 x22 x23 x24 x25 x26 = some true := by
  unfold g_ch_Exchange
  simp only [T_ch_Exchange, Tr.val_c, Tr.val_r, val_opt, Message_refl x6 x7 x8 x9 x10 x11 x12 x13 x14 x15 x16 x17 x18 x19 x20 x21 x22 x23 x24 x25 x26 h22 h25 h26, beq_self_eq_true, Bool.and_self, Option.bind_some, cond_true]
set_option maxRecDepth 100000 in
theorem Residue_refl (x0 : List UInt8) (x1 : List UInt8) (x2 : List UInt8) (x3 : List AV) (x4 : List AV) (h3 : x3.length < 9223372036854775807) (h4 : x4.length < 9223372036854775807) : g_ch_Residue x0 x1 x2 x3 x4 x0 x1 x2 x3 x4 = some true := by
  unfold g_ch_Residue
  simp only [T_ch_Residue, Tr.val_c, Tr.val_r, val_opt, Plain_Pair_refl _ h3, Same_Element_refl _ h4, beq_self_eq_true, Bool.and_self, Option.bind_some, cond_true]
set_option maxRecDepth 100000 in
theorem Parked_refl (x0 : Int) (x1 : Int) (x2 : List UInt8) (x3 : List UInt8) (x4 : List UInt8) (x5 : List AV) (x6 : List AV) (h5 : x5.length < 9223372036854775807) (h6 : x6.length < 9223372036854775807) : g_ch_Parked x0 x1 x2 x3 x4 x5 x6 x0 x1 x2 x3 x4 x5 x6 = some true := by
  unfold g_ch_Parked
  simp only [T_ch_Parked, Tr.val_c, Tr.val_r, val_opt, Residue_refl x2 x3 x4 x5 x6 h5 h6, beq_self_eq_true, Bool.and_self, Option.bind_some, cond_true]
@[simp] theorem length_bl (b : List UInt8) : (bl b).length = b.length := by simp [bl]
def IntOk (v : Int) : Prop := -9223372036854775808 ≤ v ∧ v < 9223372036854775808
def NumOk (v : Int) : Prop := 0 ≤ v ∧ v < 18446744073709551616
def TextOk (s : List UInt8) : Prop := s.length < 4294967296
def TagOk (y : AV) : Prop := ∃ (n : Int) (b : List UInt8), y = .agg [.int .i64 n, .slice 1 (.int .u8) (b.map byte) .ro] ∧ IntOk n ∧ b.length < 4294967296
def PairOk (y : AV) : Prop := ∃ (s t : List UInt8), y = .agg [.str s, .str t] ∧ TextOk s ∧ TextOk t
def TagsOk (l : List AV) : Prop := (∀ x ∈ l, TagOk x) ∧ l.length < 4294967296
def PairsOk (l : List AV) : Prop := (∀ x ∈ l, PairOk x) ∧ l.length < 4294967296
def deedShL : List Sh := [.int .i64, .int .u64, .int .i64, .int .i64, .int .i64, .int .i64, .int .i64, .int .i64, .int .i64, .int .u64, .int .i64, .int .i64, .str, .str, .str, .str, .int .u64, .str, .str, .str, .str, .int .i64, .str, .str, .int .i64, .str, .slice 2 (.agg [.int .i64, .slice 1 (.int .u8)]), .str, .str, .slice 2 (.agg [.str, .str]), .slice 2 (.agg [.int .i64, .slice 1 (.int .u8)]), .int .i64, .int .u64, .str, .str, .str, .slice 2 (.agg [.str, .str]), .slice 2 (.agg [.int .i64, .slice 1 (.int .u8)])]
def deedSh : Sh := .agg deedShL
theorem getS_bulk (y : AV) : (getS y).length ≤ bulkV y := by
  cases y <;> simp [getS, bulkV]
theorem getXs_bulk (y : AV) : bulkL (getXs y) ≤ bulkV y := by
  cases y <;> simp [getXs, bulkL, bulkV]
theorem getF_bulk (y : AV) (i : Nat) : bulkV (getF y i) ≤ bulkV y + 1 := by
  unfold getF
  rw [List.getD_eq_getElem?_getD]
  cases h : (getCs y)[i]? with
  | none => simp [bulkV]
  | some z =>
    have hz : z ∈ getCs y := List.mem_of_getElem? h
    have : bulkL (getCs y) ≤ bulkV y := by cases y <;> simp [getCs, bulkL, bulkV]
    have := bulkV_mem hz
    simp only [Option.getD_some]; omega
theorem fs_len (x : AV) (i : Nat) : (getS (getF x i)).length ≤ bulkV x + 1 := Nat.le_trans (getS_bulk _) (getF_bulk x i)
theorem fx_bulk (x : AV) (i : Nat) : bulkL (getXs (getF x i)) ≤ bulkV x + 1 := Nat.le_trans (getXs_bulk _) (getF_bulk x i)
theorem fx_len (x : AV) (i : Nat) : (getXs (getF x i)).length ≤ bulkV x + 1 := Nat.le_trans (bulkL_len _) (fx_bulk x i)
theorem lit_i64 {n : Int} (h : (Lit.int .i64 n).wf = true) : -9223372036854775808 ≤ n ∧ n < 9223372036854775808 := by
  simp [Lit.wf, IntKind.min, IntKind.max, IntKind.signed, IntKind.bits] at h
  omega
theorem wfL_at : ∀ {l : List Sh} {cs : List AV}, WfL l cs → ∀ (i : Nat) (s : Sh), l[i]? = some s → Wf s (cs.getD i .junk)
  | [], [], _, i, s, h => by simp at h
  | s0 :: l, c :: cs, h, 0, s, hs => by simp only [List.getElem?_cons_zero, Option.some.injEq] at hs; subst hs; exact h.1.1
  | s0 :: l, c :: cs, h, i + 1, s, hs => wfL_at (l := l) (cs := cs) h.2 i s hs
  | [], _ :: _, h, _, _, _ => h.elim
  | _ :: _, [], h, _, _, _ => h.elim
theorem tag_ok {y : AV} (h : Wf (.agg [.int .i64, .slice 1 (.int .u8)]) y) (hb : bulkV y ≤ 1048577) : TagOk y := by
  obtain ⟨cs, hcs, hwl⟩ : ∃ cs, y = .agg cs ∧ WfL [.int .i64, .slice 1 (.int .u8)] cs := h
  have hlen : cs.length = 2 := WfL.length hwl
  obtain ⟨a, b, rfl⟩ : ∃ a b, cs = [a, b] := by
    match cs, hlen with
    | [a, b], _ => exact ⟨a, b, rfl⟩
  simp only [WfL, and_true] at hwl
  obtain ⟨⟨ha, -⟩, hb2, -⟩ := hwl
  obtain ⟨n, rfl, hn⟩ := ha
  obtain ⟨d, rfl, -⟩ := wf_bytes hb2
  subst hcs
  refine ⟨n, d, rfl, lit_i64 hn, ?_⟩
  have f := fx_len (.agg [.int .i64 n, .slice 1 (.int .u8) (bl d) .ro]) 1
  have e : (getXs (getF (.agg [.int .i64 n, .slice 1 (.int .u8) (bl d) .ro]) 1)).length = d.length := by simp [getF, getCs, getXs, bl]
  omega
theorem tags_ok {y : AV} (h : Wf (.slice 2 (.agg [.int .i64, .slice 1 (.int .u8)])) y) (hb : bulkL (getXs y) ≤ 1048577) : TagsOk (getXs y) := by
  obtain ⟨xs, rfl, -, h⟩ := h
  have n := bulkL_len xs
  refine ⟨fun x hx => tag_ok (h x hx) (Nat.le_trans (bulkV_mem hx) hb), by simp only [getXs] at hb ⊢; omega⟩
theorem pair_ok {y : AV} (h : Wf (.agg [.str, .str]) y) (hb : bulkV y ≤ 1048577) : PairOk y := by
  obtain ⟨cs, hcs, hwl⟩ : ∃ cs, y = .agg cs ∧ WfL [.str, .str] cs := h
  have hlen : cs.length = 2 := WfL.length hwl
  obtain ⟨a, b, rfl⟩ : ∃ a b, cs = [a, b] := by
    match cs, hlen with
    | [a, b], _ => exact ⟨a, b, rfl⟩
  simp only [WfL, and_true] at hwl
  obtain ⟨⟨ha, -⟩, hb2, -⟩ := hwl
  obtain ⟨s, rfl, -⟩ := ha
  obtain ⟨t, rfl, -⟩ := hb2
  subst hcs
  have h1 := fs_len (.agg [.str s, .str t]) 0
  have h2 := fs_len (.agg [.str s, .str t]) 1
  have e1 : getS (getF (.agg [.str s, .str t]) 0) = s := rfl
  have e2 : getS (getF (.agg [.str s, .str t]) 1) = t := rfl
  rw [e1] at h1
  rw [e2] at h2
  exact ⟨s, t, rfl, by unfold TextOk; omega, by unfold TextOk; omega⟩
theorem pairs_ok {y : AV} (h : Wf (.slice 2 (.agg [.str, .str])) y) (hb : bulkL (getXs y) ≤ 1048577) : PairsOk (getXs y) := by
  obtain ⟨xs, rfl, -, h⟩ := h
  have n := bulkL_len xs
  refine ⟨fun x hx => pair_ok (h x hx) (Nat.le_trans (bulkV_mem hx) hb), by simp only [getXs] at hb ⊢; omega⟩
theorem TagsF_of {l : List AV} (h : TagsOk l) : TagsF l := by
  refine ⟨fun x hx => ?_, by have := h.2; omega⟩
  obtain ⟨n, b, rfl, -, hb⟩ := h.1 x hx
  exact ⟨n, b.map byte, rfl, by rw [List.length_map]; omega⟩
theorem list_tab {cs : List AV} {n : Nat} (h : cs.length = n) : cs = (List.range n).map fun i => cs.getD i .junk := by
  subst h
  apply List.ext_getElem?
  intro i
  by_cases hi : i < cs.length
  · simp [hi, List.getD_eq_getElem?_getD]
  · simp [hi]
theorem wf_int {k : IntKind} {y : AV} (h : Wf (.int k) y) : y = .int k (getI y) := by obtain ⟨n, rfl, _⟩ := h; rfl
theorem wf_str {y : AV} (h : Wf .str y) : y = .str (getS y) := by obtain ⟨n, rfl, _⟩ := h; rfl
theorem wf_sl {n : Nat} {s : Sh} {y : AV} (h : Wf (.slice n s) y) : y = .slice n s (getXs y) .ro := by obtain ⟨xs, rfl, _⟩ := h; rfl
set_option maxRecDepth 100000 in
theorem deed_of {x : AV} (h : Wf deedSh x) (hb : bulkV x ≤ 1048576) : ∃ d : DF, x = d.av ∧ d.ok := by
  have hx : ∀ i, bulkL (getXs (getF x i)) ≤ 1048577 := fun i => by have := fx_bulk x i; omega
  obtain ⟨cs, hcs, hw⟩ : ∃ cs, x = .agg cs ∧ WfL deedShL cs := h
  have hl : cs.length = 38 := WfL.length hw
  have tab : cs = [(cs.getD 0 .junk), (cs.getD 1 .junk), (cs.getD 2 .junk), (cs.getD 3 .junk), (cs.getD 4 .junk), (cs.getD 5 .junk), (cs.getD 6 .junk), (cs.getD 7 .junk), (cs.getD 8 .junk), (cs.getD 9 .junk), (cs.getD 10 .junk), (cs.getD 11 .junk), (cs.getD 12 .junk), (cs.getD 13 .junk), (cs.getD 14 .junk), (cs.getD 15 .junk), (cs.getD 16 .junk), (cs.getD 17 .junk), (cs.getD 18 .junk), (cs.getD 19 .junk), (cs.getD 20 .junk), (cs.getD 21 .junk), (cs.getD 22 .junk), (cs.getD 23 .junk), (cs.getD 24 .junk), (cs.getD 25 .junk), (cs.getD 26 .junk), (cs.getD 27 .junk), (cs.getD 28 .junk), (cs.getD 29 .junk), (cs.getD 30 .junk), (cs.getD 31 .junk), (cs.getD 32 .junk), (cs.getD 33 .junk), (cs.getD 34 .junk), (cs.getD 35 .junk), (cs.getD 36 .junk), (cs.getD 37 .junk)] := (list_tab hl).trans rfl
  subst hcs
  have t26 := tags_ok (wfL_at hw 26 _ rfl) (hx 26)
  have t29 := pairs_ok (wfL_at hw 29 _ rfl) (hx 29)
  have t30 := tags_ok (wfL_at hw 30 _ rfl) (hx 30)
  have t36 := pairs_ok (wfL_at hw 36 _ rfl) (hx 36)
  have t37 := tags_ok (wfL_at hw 37 _ rfl) (hx 37)
  have e0 := wf_int (wfL_at hw 0 _ rfl)
  have e1 := wf_int (wfL_at hw 1 _ rfl)
  have e2 := wf_int (wfL_at hw 2 _ rfl)
  have e3 := wf_int (wfL_at hw 3 _ rfl)
  have e4 := wf_int (wfL_at hw 4 _ rfl)
  have e5 := wf_int (wfL_at hw 5 _ rfl)
  have e6 := wf_int (wfL_at hw 6 _ rfl)
  have e7 := wf_int (wfL_at hw 7 _ rfl)
  have e8 := wf_int (wfL_at hw 8 _ rfl)
  have e9 := wf_int (wfL_at hw 9 _ rfl)
  have e10 := wf_int (wfL_at hw 10 _ rfl)
  have e11 := wf_int (wfL_at hw 11 _ rfl)
  have e12 := wf_str (wfL_at hw 12 _ rfl)
  have e13 := wf_str (wfL_at hw 13 _ rfl)
  have e14 := wf_str (wfL_at hw 14 _ rfl)
  have e15 := wf_str (wfL_at hw 15 _ rfl)
  have e16 := wf_int (wfL_at hw 16 _ rfl)
  have e17 := wf_str (wfL_at hw 17 _ rfl)
  have e18 := wf_str (wfL_at hw 18 _ rfl)
  have e19 := wf_str (wfL_at hw 19 _ rfl)
  have e20 := wf_str (wfL_at hw 20 _ rfl)
  have e21 := wf_int (wfL_at hw 21 _ rfl)
  have e22 := wf_str (wfL_at hw 22 _ rfl)
  have e23 := wf_str (wfL_at hw 23 _ rfl)
  have e24 := wf_int (wfL_at hw 24 _ rfl)
  have e25 := wf_str (wfL_at hw 25 _ rfl)
  have e26 := wf_sl (wfL_at hw 26 _ rfl)
  have e27 := wf_str (wfL_at hw 27 _ rfl)
  have e28 := wf_str (wfL_at hw 28 _ rfl)
  have e29 := wf_sl (wfL_at hw 29 _ rfl)
  have e30 := wf_sl (wfL_at hw 30 _ rfl)
  have e31 := wf_int (wfL_at hw 31 _ rfl)
  have e32 := wf_int (wfL_at hw 32 _ rfl)
  have e33 := wf_str (wfL_at hw 33 _ rfl)
  have e34 := wf_str (wfL_at hw 34 _ rfl)
  have e35 := wf_str (wfL_at hw 35 _ rfl)
  have e36 := wf_sl (wfL_at hw 36 _ rfl)
  have e37 := wf_sl (wfL_at hw 37 _ rfl)
  refine ⟨⟨(getI (cs.getD 0 .junk)), (getI (cs.getD 1 .junk)), (getI (cs.getD 2 .junk)), (getI (cs.getD 3 .junk)), ⟨(getI (cs.getD 4 .junk)), (getI (cs.getD 5 .junk)), (getI (cs.getD 6 .junk)), (getI (cs.getD 7 .junk)), (getI (cs.getD 8 .junk)), (getI (cs.getD 9 .junk)), (getI (cs.getD 10 .junk)), (getI (cs.getD 11 .junk)), (getS (cs.getD 12 .junk)), (getS (cs.getD 13 .junk)), (getS (cs.getD 14 .junk)), (getS (cs.getD 15 .junk)), (getI (cs.getD 16 .junk)), (getS (cs.getD 17 .junk)), (getS (cs.getD 18 .junk)), (getS (cs.getD 19 .junk)), (getS (cs.getD 20 .junk)), (getI (cs.getD 21 .junk)), (getS (cs.getD 22 .junk)), (getS (cs.getD 23 .junk)), (getI (cs.getD 24 .junk)), (getS (cs.getD 25 .junk)), (getXs (cs.getD 26 .junk)), (getS (cs.getD 27 .junk)), (getS (cs.getD 28 .junk)), (getXs (cs.getD 29 .junk)), (getXs (cs.getD 30 .junk))⟩, ⟨(getI (cs.getD 31 .junk)), (getI (cs.getD 32 .junk)), (getS (cs.getD 33 .junk)), (getS (cs.getD 34 .junk)), (getS (cs.getD 35 .junk)), (getXs (cs.getD 36 .junk)), (getXs (cs.getD 37 .junk))⟩⟩, ?_, ⟨TagsF_of t26, ?_, TagsF_of t30⟩, ?_, TagsF_of t37⟩
  · show AV.agg cs = AV.agg [.int .i64 (getI (cs.getD 0 .junk)), .int .u64 (getI (cs.getD 1 .junk)), .int .i64 (getI (cs.getD 2 .junk)), .int .i64 (getI (cs.getD 3 .junk)), .int .i64 (getI (cs.getD 4 .junk)), .int .i64 (getI (cs.getD 5 .junk)), .int .i64 (getI (cs.getD 6 .junk)), .int .i64 (getI (cs.getD 7 .junk)), .int .i64 (getI (cs.getD 8 .junk)), .int .u64 (getI (cs.getD 9 .junk)), .int .i64 (getI (cs.getD 10 .junk)), .int .i64 (getI (cs.getD 11 .junk)), .str (getS (cs.getD 12 .junk)), .str (getS (cs.getD 13 .junk)), .str (getS (cs.getD 14 .junk)), .str (getS (cs.getD 15 .junk)), .int .u64 (getI (cs.getD 16 .junk)), .str (getS (cs.getD 17 .junk)), .str (getS (cs.getD 18 .junk)), .str (getS (cs.getD 19 .junk)), .str (getS (cs.getD 20 .junk)), .int .i64 (getI (cs.getD 21 .junk)), .str (getS (cs.getD 22 .junk)), .str (getS (cs.getD 23 .junk)), .int .i64 (getI (cs.getD 24 .junk)), .str (getS (cs.getD 25 .junk)), .slice 2 (.agg [.int .i64, .slice 1 (.int .u8)]) (getXs (cs.getD 26 .junk)) .ro, .str (getS (cs.getD 27 .junk)), .str (getS (cs.getD 28 .junk)), .slice 2 (.agg [.str, .str]) (getXs (cs.getD 29 .junk)) .ro, .slice 2 (.agg [.int .i64, .slice 1 (.int .u8)]) (getXs (cs.getD 30 .junk)) .ro, .int .i64 (getI (cs.getD 31 .junk)), .int .u64 (getI (cs.getD 32 .junk)), .str (getS (cs.getD 33 .junk)), .str (getS (cs.getD 34 .junk)), .str (getS (cs.getD 35 .junk)), .slice 2 (.agg [.str, .str]) (getXs (cs.getD 36 .junk)) .ro, .slice 2 (.agg [.int .i64, .slice 1 (.int .u8)]) (getXs (cs.getD 37 .junk)) .ro]
    rw [← e0, ← e1, ← e2, ← e3, ← e4, ← e5, ← e6, ← e7, ← e8, ← e9, ← e10, ← e11, ← e12, ← e13, ← e14, ← e15, ← e16, ← e17, ← e18, ← e19, ← e20, ← e21, ← e22, ← e23, ← e24, ← e25, ← e26, ← e27, ← e28, ← e29, ← e30, ← e31, ← e32, ← e33, ← e34, ← e35, ← e36, ← e37]
    exact congrArg AV.agg tab
  · have := t29.2; show (getXs (cs.getD 29 .junk)).length * 33 < 70368744177664; omega
  · have := t36.2; show (getXs (cs.getD 36 .junk)).length * 33 < 70368744177664; omega
theorem deeds_of : ∀ {l : List AV}, (∀ x ∈ l, Wf deedSh x) → bulkL l ≤ 1048576 → ∃ D : List DF, l = D.map DF.av ∧ ∀ d ∈ D, d.ok
  | [], _, _ => ⟨[], rfl, fun d h => by simp at h⟩
  | x :: l, h, hb => by
    simp only [bulkL] at hb
    obtain ⟨d, hd, h1⟩ := deed_of (h x (by simp)) (by omega)
    obtain ⟨D, hD, h2⟩ := deeds_of (l := l) (fun y hy => h y (by simp [hy])) (by omega)
    exact ⟨d :: D, by rw [hd, hD]; rfl, fun e he => by
      rcases List.mem_cons.1 he with rfl | he
      · exact h1
      · exact h2 e he⟩
theorem XF_refl (f : XF) (h : f.ok) : g_ch_Exchange f.a0 f.a1 f.a2 f.a3 f.a4 f.a5 f.a6 f.a7 f.a8 f.a9 f.a10 f.a11 f.a12 f.a13 f.a14 f.a15 f.a16 f.a17 f.a18 f.a19 f.a20 f.a21 f.a22 f.a23 f.a24 f.a25 f.a26 f.a0 f.a1 f.a2 f.a3 f.a4 f.a5 f.a6 f.a7 f.a8 f.a9 f.a10 f.a11 f.a12 f.a13 f.a14 f.a15 f.a16 f.a17 f.a18 f.a19 f.a20 f.a21 f.a22 f.a23 f.a24 f.a25 f.a26 = some true := Exchange_refl f.a0 f.a1 f.a2 f.a3 f.a4 f.a5 f.a6 f.a7 f.a8 f.a9 f.a10 f.a11 f.a12 f.a13 f.a14 f.a15 f.a16 f.a17 f.a18 f.a19 f.a20 f.a21 f.a22 f.a23 f.a24 f.a25 f.a26 (by have := h.1.2; omega) (by have := h.2.1; omega) (by have := h.2.2.2; omega)
theorem PF_refl (f : PF) (h : f.ok) : g_ch_Parked f.p0 f.p1 f.p2 f.p3 f.p4 f.p5 f.p6 f.p0 f.p1 f.p2 f.p3 f.p4 f.p5 f.p6 = some true := Parked_refl f.p0 f.p1 f.p2 f.p3 f.p4 f.p5 f.p6 (by have := h.1; omega) (by have := h.2.2; omega)
theorem Same_XF_refl (L : List XF) (hL : ∀ f ∈ L, f.ok) (hl : L.length < 1000000000) : g_ch_Same_XX (L.map XF.av) (L.map XF.av) = some true := by
  unfold g_ch_Same_XX
  have lm : (L.map XF.av).length = L.length := by simp
  have e0 : (((L.map XF.av).length : Int) != ((L.map XF.av).length : Int)) = false := by simp
  rw [run_inl (s := ((0 : Nat) : Int)) (by simp only [T_ch_Same_XX, Tr.val_c, Tr.val_r, e0, cond_false]; rfl)]
  refine run_until (step := M_ch_Same_XX (L.map XF.av) (L.map XF.av)) (f := fun i => (i : Int)) (n := L.length) (fun i hi => ?_) ?_
  · have q1 : (i : Int) < ((L.map XF.av).length : Int) := by rw [lm]; omega
    have q2 : (0 : Int) ≤ i := by omega
    have w : IntKind.i64.wrap ((i : Int) + 1) = ((i + 1 : Nat) : Int) := by rw [i64_wrap (by omega) (by omega)]; omega
    have g := XF.getD L i hi
    obtain ⟨f, hf⟩ : ∃ f, f = L[i] := ⟨_, rfl⟩
    rw [← hf] at g
    have r := XF_refl f (hL f (by rw [hf]; exact List.getElem_mem hi))
    simp only [M_ch_Same_XX, Tr.val_c, Tr.val_r, val_opt, q1, q2, w, g, XF.g0, XF.g1, XF.g2, XF.g3, XF.g4, XF.g5, XF.g6, XF.g7, XF.g8, XF.g9, XF.g10, XF.g11, XF.g12, XF.g13, XF.g14, XF.g15, XF.g16, XF.g17, XF.g18, XF.g19, XF.g20, XF.g21, XF.g22, XF.g23, XF.g24, XF.g25, XF.g26, r, decide_true, Bool.not_true, Option.bind_some, cond_true, cond_false]
  · have q0 : ¬ ((L.length : Int) < ((L.map XF.av).length : Int)) := by rw [lm]; omega
    simp only [M_ch_Same_XX, Tr.val_c, Tr.val_r, q0, decide_false, cond_false]
theorem Same_PF_refl (L : List PF) (hL : ∀ f ∈ L, f.ok) (hl : L.length < 1000000000) : g_ch_Same_PP (L.map PF.av) (L.map PF.av) = some true := by
  unfold g_ch_Same_PP
  have lm : (L.map PF.av).length = L.length := by simp
  have e0 : (((L.map PF.av).length : Int) != ((L.map PF.av).length : Int)) = false := by simp
  rw [run_inl (s := ((0 : Nat) : Int)) (by simp only [T_ch_Same_PP, Tr.val_c, Tr.val_r, e0, cond_false]; rfl)]
  refine run_until (step := M_ch_Same_PP (L.map PF.av) (L.map PF.av)) (f := fun i => (i : Int)) (n := L.length) (fun i hi => ?_) ?_
  · have q1 : (i : Int) < ((L.map PF.av).length : Int) := by rw [lm]; omega
    have q2 : (0 : Int) ≤ i := by omega
    have w : IntKind.i64.wrap ((i : Int) + 1) = ((i + 1 : Nat) : Int) := by rw [i64_wrap (by omega) (by omega)]; omega
    have g := PF.getD L i hi
    obtain ⟨f, hf⟩ : ∃ f, f = L[i] := ⟨_, rfl⟩
    rw [← hf] at g
    have r := PF_refl f (hL f (by rw [hf]; exact List.getElem_mem hi))
    simp only [M_ch_Same_PP, Tr.val_c, Tr.val_r, val_opt, q1, q2, w, g, PF.g0, PF.g1, PF.g2, PF.g3, PF.g4, PF.g5, PF.g6, r, decide_true, Bool.not_true, Option.bind_some, cond_true, cond_false]
  · have q0 : ¬ ((L.length : Int) < ((L.map PF.av).length : Int)) := by rw [lm]; omega
    simp only [M_ch_Same_PP, Tr.val_c, Tr.val_r, q0, decide_false, cond_false]
theorem State_refl (b : PS) (hb : b.ok) (hl : b.L.length < 1000000000) (hm : b.M.length < 1000000000) : g_ch_State b.t b.n b.s (b.L.map XF.av) (b.M.map PF.av) b.t b.n b.s (b.L.map XF.av) (b.M.map PF.av) = some true := by
  unfold g_ch_State
  simp only [T_ch_State, Tr.val_c, Tr.val_r, val_opt, Same_XF_refl b.L hb.1 hl, Same_PF_refl b.M hb.2 hm, Option.bind_some, beq_self_eq_true, cond_true]
def dT (x0 : Int) : DF := ⟨1, x0, 0, 0, XF.zero, PF.zero⟩
def dN (x1 x2 : Int) : DF := ⟨2, 0, x1, x2, XF.zero, PF.zero⟩
def dX (f : XF) : DF := ⟨3, 0, 0, 0, f, PF.zero⟩
def dP (f : PF) : DF := ⟨5, 0, 0, 0, XF.zero, f⟩
theorem dX_av (f : XF) : .agg [.int .i64 3, .int .u64 0, .int .i64 0, .int .i64 0, .int .i64 f.a0, .int .i64 f.a1, .int .i64 f.a2, .int .i64 f.a3, .int .i64 f.a4, .int .u64 f.a5, .int .i64 f.a6, .int .i64 f.a7, .str f.a8, .str f.a9, .str f.a10, .str f.a11, .int .u64 f.a12, .str f.a13, .str f.a14, .str f.a15, .str f.a16, .int .i64 f.a17, .str f.a18, .str f.a19, .int .i64 f.a20, .str f.a21, .slice 2 (.agg [.int .i64, .slice 1 (.int .u8)]) f.a22 .ro, .str f.a23, .str f.a24, .slice 2 (.agg [.str, .str]) f.a25 .ro, .slice 2 (.agg [.int .i64, .slice 1 (.int .u8)]) f.a26 .ro, .int .i64 0, .int .u64 0, .str [], .str [], .str [], .slice 2 (.agg [.str, .str]) [] .ro, .slice 2 (.agg [.int .i64, .slice 1 (.int .u8)]) [] .ro] = (dX f).av := rfl
theorem dP_av (f : PF) : .agg [.int .i64 5, .int .u64 0, .int .i64 0, .int .i64 0, .int .i64 0, .int .i64 0, .int .i64 0, .int .i64 0, .int .i64 0, .int .u64 0, .int .i64 0, .int .i64 0, .str [], .str [], .str [], .str [], .int .u64 0, .str [], .str [], .str [], .str [], .int .i64 0, .str [], .str [], .int .i64 0, .str [], .slice 2 (.agg [.int .i64, .slice 1 (.int .u8)]) [] .ro, .str [], .str [], .slice 2 (.agg [.str, .str]) [] .ro, .slice 2 (.agg [.int .i64, .slice 1 (.int .u8)]) [] .ro, .int .i64 f.p0, .int .u64 f.p1, .str f.p2, .str f.p3, .str f.p4, .slice 2 (.agg [.str, .str]) f.p5 .ro, .slice 2 (.agg [.int .i64, .slice 1 (.int .u8)]) f.p6 .ro] = (dP f).av := rfl
theorem map_app {α : Type} (g : α → DF) (A : List DF) (L : List α) (i : Nat) (h : i < L.length) : (A ++ (L.take i).map g).map DF.av ++ [(g L[i]).av] = (A ++ (L.take (i + 1)).map g).map DF.av := by
  have : L.take (i + 1) = L.take i ++ [L[i]] := by rw [List.take_add_one]; simp [h]
  have e : (L.take (i + 1)).map g = (L.take i).map g ++ [g L[i]] := by rw [this, List.map_append]; rfl
  rw [e]
  simp only [List.map_append, List.append_assoc, List.map_cons, List.map_nil]
def wholeD (b : PS) : List DF := [dT b.t, dN b.n b.s] ++ b.L.map dX ++ b.M.map dP
theorem XF.get0 (f : XF) (L : List XF) : ((f :: L).map XF.av).getD 0 (.agg [.int .i64 0, .int .i64 0, .int .i64 0, .int .i64 0, .int .i64 0, .int .u64 0, .int .i64 0, .int .i64 0, .str [], .str [], .str [], .str [], .int .u64 0, .str [], .str [], .str [], .str [], .int .i64 0, .str [], .str [], .int .i64 0, .str [], .slice 2 (.agg [.int .i64, .slice 1 (.int .u8)]) [] .ro, .str [], .str [], .slice 2 (.agg [.str, .str]) [] .ro, .slice 2 (.agg [.int .i64, .slice 1 (.int .u8)]) [] .ro]) = f.av := rfl
theorem PF.get0 (f : PF) (L : List PF) : ((f :: L).map PF.av).getD 0 (.agg [.int .i64 0, .int .u64 0, .str [], .str [], .str [], .slice 2 (.agg [.str, .str]) [] .ro, .slice 2 (.agg [.int .i64, .slice 1 (.int .u8)]) [] .ro]) = f.av := rfl
theorem whole_X (b : PS) (hb : b.ok) (hl : b.L.length < 1000000) (A : List DF) (hA : A.length < 1000000) : ∀ (m i : Nat), b.L.length - i ≤ m → i ≤ b.L.length →
    run (M_state_Whole b.t b.n b.s (b.L.map XF.av) (b.M.map PF.av)) (M_state_Whole b.t b.n b.s (b.L.map XF.av) (b.M.map PF.av) (.inr (.inl ((i : Int), (A ++ (b.L.take i).map dX).map DF.av)))) = run (M_state_Whole b.t b.n b.s (b.L.map XF.av) (b.M.map PF.av)) (M_state_Whole b.t b.n b.s (b.L.map XF.av) (b.M.map PF.av) (.inr (.inr (.inr ((A ++ b.L.map dX).map DF.av, ((0 : Nat) : Int)))))) := by
  have lm : (b.L.map XF.av).length = b.L.length := by simp
  intro m
  have fin : ∀ i : Nat, i = b.L.length → run (M_state_Whole b.t b.n b.s (b.L.map XF.av) (b.M.map PF.av)) (M_state_Whole b.t b.n b.s (b.L.map XF.av) (b.M.map PF.av) (.inr (.inl ((i : Int), (A ++ (b.L.take i).map dX).map DF.av)))) = run (M_state_Whole b.t b.n b.s (b.L.map XF.av) (b.M.map PF.av)) (M_state_Whole b.t b.n b.s (b.L.map XF.av) (b.M.map PF.av) (.inr (.inr (.inr ((A ++ b.L.map dX).map DF.av, ((0 : Nat) : Int)))))) := by
    intro i hi
    subst hi
    have q1 : ¬ ((b.L.length : Int) < ((b.L.map XF.av).length : Int)) := by rw [lm]; omega
    rw [List.take_length]
    exact run_inl (by simp only [M_state_Whole, Tr.val_c, Tr.val_r, q1, decide_false, cond_false]; rfl)
  induction m with
  | zero => intro i hm hi; exact fin i (by omega)
  | succ m ih =>
    intro i hm hi
    by_cases he : i = b.L.length
    · exact fin i he
    · have hi' : i < b.L.length := by omega
      have q1 : (i : Int) < ((b.L.map XF.av).length : Int) := by rw [lm]; omega
      have q2 : (0 : Int) ≤ i := by omega
      have w1 : IntKind.i64.wrap ((i : Int) + 1) = ((i + 1 : Nat) : Int) := by rw [i64_wrap (by omega) (by omega)]; omega
      have g := XF.getD b.L i hi'
      have s := map_app dX A b.L i hi'
      obtain ⟨f, hf⟩ : ∃ f, f = b.L[i] := ⟨_, rfl⟩
      rw [← hf] at g s
      have ex := exchange_eq f (hb.1 f (by rw [hf]; exact List.getElem_mem hi'))
      have mk := dX_av f
      have l1 : ((A ++ (b.L.take (i + 1)).map dX).map DF.av).length * 513 < 70368744177664 := by simp; omega
      rw [← ih (i + 1) (by omega) (by omega)]
      exact run_inl (by simp only [M_state_Whole, Tr.val_c, Tr.val_r, val_opt, q1, q2, w1, g, XF.g0, XF.g1, XF.g2, XF.g3, XF.g4, XF.g5, XF.g6, XF.g7, XF.g8, XF.g9, XF.g10, XF.g11, XF.g12, XF.g13, XF.g14, XF.g15, XF.g16, XF.g17, XF.g18, XF.g19, XF.g20, XF.g21, XF.g22, XF.g23, XF.g24, XF.g25, XF.g26, ex, mk, s, l1, Option.bind_some, decide_true, beq_self_eq_true, cond_true])
theorem whole_P (b : PS) (hb : b.ok) (hm : b.M.length < 1000000) (A : List DF) (hA : A.length < 2000000) : ∀ (m i : Nat), b.M.length - i ≤ m → i ≤ b.M.length →
    run (M_state_Whole b.t b.n b.s (b.L.map XF.av) (b.M.map PF.av)) (M_state_Whole b.t b.n b.s (b.L.map XF.av) (b.M.map PF.av) (.inr (.inr (.inr ((A ++ (b.M.take i).map dP).map DF.av, (i : Int)))))) = some ((A ++ b.M.map dP).map DF.av) := by
  have lm : (b.M.map PF.av).length = b.M.length := by simp
  intro m
  have fin : ∀ i : Nat, i = b.M.length → run (M_state_Whole b.t b.n b.s (b.L.map XF.av) (b.M.map PF.av)) (M_state_Whole b.t b.n b.s (b.L.map XF.av) (b.M.map PF.av) (.inr (.inr (.inr ((A ++ (b.M.take i).map dP).map DF.av, (i : Int)))))) = some ((A ++ b.M.map dP).map DF.av) := by
    intro i hi
    subst hi
    have q1 : ¬ ((b.M.length : Int) < ((b.M.map PF.av).length : Int)) := by rw [lm]; omega
    rw [List.take_length]
    exact run_inr (by simp only [M_state_Whole, Tr.val_c, Tr.val_r, q1, decide_false, beq_self_eq_true, cond_true, cond_false])
  induction m with
  | zero => intro i hm hi; exact fin i (by omega)
  | succ m ih =>
    intro i hm' hi
    by_cases he : i = b.M.length
    · exact fin i he
    · have hi' : i < b.M.length := by omega
      have q1 : (i : Int) < ((b.M.map PF.av).length : Int) := by rw [lm]; omega
      have q2 : (0 : Int) ≤ i := by omega
      have w1 : IntKind.i64.wrap ((i : Int) + 1) = ((i + 1 : Nat) : Int) := by rw [i64_wrap (by omega) (by omega)]; omega
      have g := PF.getD b.M i hi'
      have s := map_app dP A b.M i hi'
      obtain ⟨f, hf⟩ : ∃ f, f = b.M[i] := ⟨_, rfl⟩
      rw [← hf] at g s
      have ex := parked_eq f (hb.2 f (by rw [hf]; exact List.getElem_mem hi'))
      have mk := dP_av f
      have l1 : ((A ++ (b.M.take (i + 1)).map dP).map DF.av).length * 513 < 70368744177664 := by simp; omega
      rw [← ih (i + 1) (by omega) (by omega)]
      exact run_inl (by simp only [M_state_Whole, Tr.val_c, Tr.val_r, val_opt, q1, q2, w1, g, PF.g0, PF.g1, PF.g2, PF.g3, PF.g4, PF.g5, PF.g6, ex, mk, s, l1, Option.bind_some, decide_true, beq_self_eq_true, cond_true])
theorem Whole_eq (b : PS) (hb : b.ok) (hl : b.L.length < 1000000) (hm : b.M.length < 1000000) : g_state_Whole b.t b.n b.s (b.L.map XF.av) (b.M.map PF.av) = some ((wholeD b).map DF.av) := by
  unfold g_state_Whole
  rw [run_inl (s := .inl ()) (by simp only [T_state_Whole, Tr.val_r])]
  have lmX : (b.L.map XF.av).length = b.L.length := by simp
  have lmP : (b.M.map PF.av).length = b.M.length := by simp
  cases hL : b.L with
  | cons f L =>
    have q1 : (0 : Int) < (((f :: L).map XF.av).length : Int) := by simp
    have g := XF.get0 f L
    have ex := exchange_eq f (hb.1 f (by rw [hL]; simp))
    have st : run (M_state_Whole b.t b.n b.s (b.L.map XF.av) (b.M.map PF.av)) (M_state_Whole b.t b.n b.s (b.L.map XF.av) (b.M.map PF.av) (.inl ())) = run (M_state_Whole b.t b.n b.s (b.L.map XF.av) (b.M.map PF.av)) (M_state_Whole b.t b.n b.s (b.L.map XF.av) (b.M.map PF.av) (.inr (.inl (((1 : Nat) : Int), ([dT b.t, dN b.n b.s] ++ (b.L.take 1).map dX).map DF.av)))) := by
      rw [hL]
      exact run_inl (by simp only [M_state_Whole, Tr.val_c, Tr.val_r, val_opt, q1, g, XF.g0, XF.g1, XF.g2, XF.g3, XF.g4, XF.g5, XF.g6, XF.g7, XF.g8, XF.g9, XF.g10, XF.g11, XF.g12, XF.g13, XF.g14, XF.g15, XF.g16, XF.g17, XF.g18, XF.g19, XF.g20, XF.g21, XF.g22, XF.g23, XF.g24, XF.g25, XF.g26, ex, Option.bind_some, decide_true, cond_true]; rfl)
    rw [← hL, st, whole_X b hb hl [dT b.t, dN b.n b.s] (by simp) b.L.length 1 (by omega) (by rw [hL]; simp)]
    have := whole_P b hb hm ([dT b.t, dN b.n b.s] ++ b.L.map dX) (by simp; omega) b.M.length 0 (by omega) (by omega)
    rw [List.take_zero, List.map_nil, List.append_nil] at this
    exact this
  | nil =>
    have q1 : ¬ ((0 : Int) < ((([] : List XF).map XF.av).length : Int)) := by simp
    have st : run (M_state_Whole b.t b.n b.s (b.L.map XF.av) (b.M.map PF.av)) (M_state_Whole b.t b.n b.s (b.L.map XF.av) (b.M.map PF.av) (.inl ())) = run (M_state_Whole b.t b.n b.s (b.L.map XF.av) (b.M.map PF.av)) (M_state_Whole b.t b.n b.s (b.L.map XF.av) (b.M.map PF.av) (.inr (.inr (.inl ())))) := by
      rw [hL]
      exact run_inl (by simp only [M_state_Whole, Tr.val_c, Tr.val_r, q1, decide_false, cond_false])
    rw [← hL, st]
    cases hM : b.M with
    | cons f M =>
      have q2 : (0 : Int) < (((f :: M).map PF.av).length : Int) := by simp
      have g := PF.get0 f M
      have ex := parked_eq f (hb.2 f (by rw [hM]; simp))
      have st2 : run (M_state_Whole b.t b.n b.s (b.L.map XF.av) (b.M.map PF.av)) (M_state_Whole b.t b.n b.s (b.L.map XF.av) (b.M.map PF.av) (.inr (.inr (.inl ())))) = run (M_state_Whole b.t b.n b.s (b.L.map XF.av) (b.M.map PF.av)) (M_state_Whole b.t b.n b.s (b.L.map XF.av) (b.M.map PF.av) (.inr (.inr (.inr (([dT b.t, dN b.n b.s] ++ (b.M.take 1).map dP).map DF.av, ((1 : Nat) : Int)))))) := by
        rw [hM]
        exact run_inl (by simp only [M_state_Whole, Tr.val_c, Tr.val_r, val_opt, q2, g, PF.g0, PF.g1, PF.g2, PF.g3, PF.g4, PF.g5, PF.g6, ex, Option.bind_some, decide_true, cond_true]; rfl)
      rw [← hM, st2, whole_P b hb hm [dT b.t, dN b.n b.s] (by simp) b.M.length 1 (by omega) (by rw [hM]; simp)]
      unfold wholeD
      rw [hL]; simp
    | nil =>
      have q2 : ¬ ((0 : Int) < ((([] : List PF).map PF.av).length : Int)) := by simp
      have e : (wholeD b).map DF.av = [(dT b.t).av, (dN b.n b.s).av] := by unfold wholeD; rw [hL, hM]; rfl
      rw [e, ← hM]
      have st2 : (M_state_Whole b.t b.n b.s (b.L.map XF.av) (b.M.map PF.av) (.inr (.inr (.inl ())))).val = some (.inr [(dT b.t).av, (dN b.n b.s).av]) := by
        rw [hM]
        simp only [M_state_Whole, Tr.val_c, Tr.val_r, q2, decide_false, cond_false]; rfl
      exact run_inr st2
def PS.once (b : PS) : Prop := (b.L.map XF.a0).Nodup ∧ (b.M.map PF.p0).Nodup
theorem repl_nodup {α : Type} {f : α → Int} {k : Int} {x : α} (hx : f x = k) {L : List α} (h : (L.map f).Nodup) : ((repl (fun y => f y == k) x L).map f).Nodup := by
  rw [repl_map (k := k) hx]
  split
  · exact h
  · rename_i hk; rw [List.nodup_append]; exact ⟨h, by simp, fun a ha c hc => by rw [List.mem_singleton] at hc; subst hc; intro e; subst e; exact hk ha⟩
theorem filter_once {α : Type} {f : α → Int} {p : α → Bool} {L : List α} (h : (L.map f).Nodup) : ((L.filter p).map f).Nodup := List.Nodup.sublist (List.Sublist.map f List.filter_sublist) h
theorem appD_once (d : DF) (b : PS) (h : b.once) : (appD d b).once := by
  unfold appD
  repeat' split
  all_goals first
    | exact h
    | exact ⟨repl_nodup (f := XF.a0) rfl h.1, h.2⟩
    | exact ⟨h.1, repl_nodup (f := PF.p0) rfl h.2⟩
    | exact ⟨filter_once (f := XF.a0) h.1, h.2⟩
    | exact ⟨h.1, filter_once (f := PF.p0) h.2⟩
theorem all_once : ∀ (D : List DF) (b : PS), b.once → (D.foldl (fun b d => appD d b) b).once
  | [], _, h => h
  | d :: D, b, h => all_once D _ (appD_once d b h)
theorem all_ok : ∀ (D : List DF) (b : PS), (∀ d ∈ D, d.ok) → b.ok → (D.foldl (fun b d => appD d b) b).ok ∧ (D.foldl (fun b d => appD d b) b).L.length ≤ b.L.length + D.length ∧ (D.foldl (fun b d => appD d b) b).M.length ≤ b.M.length + D.length
  | [], _, _, h => ⟨h, by simp, by simp⟩
  | d :: D, b, hD, h => by
    obtain ⟨k1, k2, k3⟩ := appD_ok d (hD d (by simp)) b h
    obtain ⟨j1, j2, j3⟩ := all_ok D _ (fun e he => hD e (by simp [he])) k1
    exact ⟨j1, by simp only [List.foldl_cons, List.length_cons]; omega, by simp only [List.foldl_cons, List.length_cons]; omega⟩
theorem puts_again : ∀ (L A : List XF) (b : PS), b.L = A → ((A ++ L).map XF.a0).Nodup → (L.map dX).foldl (fun b d => appD d b) b = { b with L := A ++ L }
  | [], A, b, h, _ => by rw [List.map_nil, List.foldl_nil, List.append_nil, ← h]
  | f :: L, A, b, h, hn => by
    have hf : ∀ y ∈ A, (y.a0 == f.a0) = false := by
      intro y hy
      rw [List.map_append, List.nodup_append] at hn
      rw [beq_eq_false_iff_ne]
      exact hn.2.2 _ (List.mem_map_of_mem hy) _ (by simp)
    have s : appD (dX f) b = { b with L := A ++ [f] } := by
      show ({ b with L := repl (fun y => y.a0 == f.a0) f b.L } : PS) = _
      rw [h, repl_none hf]
    rw [List.map_cons, List.foldl_cons, s, puts_again L (A ++ [f]) _ rfl (by simpa using hn)]
    simp
theorem parks_again : ∀ (L A : List PF) (b : PS), b.M = A → ((A ++ L).map PF.p0).Nodup → (L.map dP).foldl (fun b d => appD d b) b = { b with M := A ++ L }
  | [], A, b, h, _ => by rw [List.map_nil, List.foldl_nil, List.append_nil, ← h]
  | f :: L, A, b, h, hn => by
    have hf : ∀ y ∈ A, (y.p0 == f.p0) = false := by
      intro y hy
      rw [List.map_append, List.nodup_append] at hn
      rw [beq_eq_false_iff_ne]
      exact hn.2.2 _ (List.mem_map_of_mem hy) _ (by simp)
    have s : appD (dP f) b = { b with M := A ++ [f] } := by
      show ({ b with M := repl (fun y => y.p0 == f.p0) f b.M } : PS) = _
      rw [h, repl_none hf]
    rw [List.map_cons, List.foldl_cons, s, parks_again L (A ++ [f]) _ rfl (by simpa using hn)]
    simp
theorem whole_again (b : PS) (h : b.once) : (wholeD b).foldl (fun b d => appD d b) ⟨0, 1, 1, [], []⟩ = b := by
  unfold wholeD
  rw [List.foldl_append, List.foldl_append]
  have s : [dT b.t, dN b.n b.s].foldl (fun b d => appD d b) ⟨0, 1, 1, [], []⟩ = ⟨b.t, b.n, b.s, [], []⟩ := rfl
  rw [s, puts_again b.L [] _ rfl (by simpa using h.1), parks_again b.M [] _ rfl (by simpa using h.2)]
  rfl
theorem whole_ok (b : PS) (h : b.ok) : ∀ d ∈ wholeD b, d.ok := by
  intro d hd
  unfold wholeD at hd
  simp only [List.mem_append, List.mem_cons, List.not_mem_nil, or_false, List.mem_map] at hd
  rcases hd with ((rfl | rfl) | ⟨f, hf, rfl⟩) | ⟨f, hf, rfl⟩
  · exact ⟨xz_ok, pz_ok⟩
  · exact ⟨xz_ok, pz_ok⟩
  · exact ⟨h.1 f hf, pz_ok⟩
  · exact ⟨xz_ok, h.2 f hf⟩
theorem swhole_eq (D : List DF) (hD : ∀ d ∈ D, d.ok) (cut : Int) : g_comptoirlaw24_StateWhole (D.map DF.av) cut = some true := by
  have lm : (D.map DF.av).length = D.length := by simp
  unfold g_comptoirlaw24_StateWhole
  by_cases h40 : ((D.map DF.av).length : Int) > 40
  · simp only [T_comptoirlaw24_StateWhole, Tr.val_c, Tr.val_r, val_opt, h40, awake24, Option.bind_some, decide_true, cond_true]
  have hl : D.length ≤ 40 := by rw [lm] at h40; omega
  have w1 : IntKind.u64.wrap (IntKind.i64.wrap (((D.map DF.av).length : Int) + 1)) = ((D.length + 1 : Nat) : Int) := by rw [lm, i64_wrap (by omega) (by omega), u64_wrap (by omega) (by omega)]; omega
  have zn : isZ ((D.length + 1 : Nat) : Int) = false := rfl
  obtain ⟨c, hc, hcl⟩ : ∃ c : Nat, IntKind.i64.wrap (Int.tmod (IntKind.u64.wrap cut) ((D.length + 1 : Nat) : Int)) = (c : Int) ∧ c ≤ D.length := by
    obtain ⟨a0, a1⟩ := u64_bounds cut
    have m1 := Int.emod_nonneg (IntKind.u64.wrap cut) (b := ((D.length + 1 : Nat) : Int)) (by omega)
    have m2 := Int.emod_lt_of_pos (IntKind.u64.wrap cut) (b := ((D.length + 1 : Nat) : Int)) (by omega)
    exact ⟨(IntKind.u64.wrap cut % ((D.length + 1 : Nat) : Int)).toNat, by rw [tmod_eq a0, i64_wrap (by omega) (by omega)]; omega, by omega⟩
  obtain ⟨s0, hs0⟩ : ∃ s0 : PS, s0 = ⟨0, 1, 1, [], []⟩ := ⟨_, rfl⟩
  have ok0 : s0.ok := by rw [hs0]; exact ⟨fun f h => by simp at h, fun f h => by simp at h⟩
  have once0 : s0.once := by rw [hs0]; exact ⟨by simp, by simp⟩
  have l0 : s0.L.length = 0 := by rw [hs0]; rfl
  have m0 : s0.M.length = 0 := by rw [hs0]; rfl
  obtain ⟨b, hb⟩ : ∃ b, b = D.foldl (fun b d => appD d b) s0 := ⟨_, rfl⟩
  obtain ⟨b1, hb1⟩ : ∃ b1, b1 = (D.take c).foldl (fun b d => appD d b) s0 := ⟨_, rfl⟩
  have hT : ∀ d ∈ D.take c, d.ok := fun d hd => hD d (List.mem_of_mem_take hd)
  have hR : ∀ d ∈ D.drop c, d.ok := fun d hd => hD d (List.mem_of_mem_drop hd)
  obtain ⟨k1, k2, k3⟩ := all_ok D s0 hD ok0
  obtain ⟨j1, j2, j3⟩ := all_ok (D.take c) s0 hT ok0
  rw [← hb] at k1 k2 k3
  rw [← hb1] at j1 j2 j3
  have lt : (D.take c).length ≤ 40 := by rw [List.length_take]; omega
  have lr : (D.drop c).length ≤ 40 := by rw [List.length_drop]; omega
  have o := all_once D s0 once0
  rw [← hb] at o
  have A := Apply_eq D hD s0 ok0 (by omega) (by omega) (by omega)
  rw [← hb] at A
  have A1 := Apply_eq (D.take c) hT s0 ok0 (by omega) (by omega) (by omega)
  rw [← hb1] at A1
  have A2 := Apply_eq (D.drop c) hR b1 j1 (by omega) (by omega) (by omega)
  have e12 : (D.drop c).foldl (fun b d => appD d b) b1 = b := by rw [hb1, ← List.foldl_append, List.take_append_drop, hb]
  rw [e12] at A2
  have W := Whole_eq b k1 (by omega) (by omega)
  have A3 := Apply_eq (wholeD b) (whole_ok b k1) s0 ok0 (by unfold wholeD; simp; omega) (by omega) (by omega)
  rw [hs0, whole_again b o] at A3
  have S := State_refl b k1 (by omega) (by omega)
  rw [hs0] at A A1
  simp only [List.map_nil] at A A1 A3
  have q0 : (0 : Int) ≤ (c : Int) := by omega
  have q1 : (c : Int) ≤ ((D.map DF.av).length : Int) := by rw [lm]; omega
  have q2 : ((D.map DF.av).length : Int) ≤ ((D.map DF.av).length : Int) := by omega
  have e1 : List.drop 0 (List.take (c : Int).toNat (D.map DF.av)) = (D.take c).map DF.av := by rw [Int.toNat_natCast, List.drop_zero, List.map_take]
  have e2 : List.drop (c : Int).toNat (List.take (D.map DF.av).length (D.map DF.av)) = (D.drop c).map DF.av := by rw [Int.toNat_natCast, List.take_length, List.map_drop]
  simp only [T_comptoirlaw24_StateWhole, Tr.val_c, Tr.val_r, val_opt, h40, w1, zn, A, hc, q0, q1, q2, e1, e2, A1, A2, awake24, S, W, A3, Option.bind_some, decide_true, decide_false, cond_true, cond_false]
end Go.Proofs.Ytfhgmpeplfjmcaa
