/- Printed: what the functions that a statement reaches come to. -/
import Derived.Test.YtaejmfmamhdlhaaYbB
namespace Go.Proofs.Ytaejmfmamhdlhaa
open Go.Cx Go.Cx.AV
set_option linter.unusedVariables false
/- slices.Grow[[]byte,byte] -/
noncomputable def E_slices_Grow_byte_byte : En := enKB Try.prog T0t [25] [(3, ⟨[2, 3, 4, 5, 6, 7, 8, 9, 10, 11, 12, 13, 14, 15, 16, 17, 18, 19, 20, 21, 22, 23, 24, 25, 26], [], [], some 1000, [], [], [], [], true⟩), (6, ⟨[1, 2, 3, 4, 5, 6, 7, 8, 9, 10, 11, 12, 13, 14, 15, 16, 17, 18, 19, 20, 21, 22, 23, 24, 25, 26], [], [], some 1000, [], [], [], [], true⟩)] [(6, [(0, 5, (.int .u8))])] [] 1 0 true
def P_slices_Grow_byte_byte : List Pat := [.lit .nilsl, .leaf (.int .i64)]
def Q_slices_Grow_byte_byte : List OPat := []
def O_slices_Grow_byte_byte : Pat := .own 0 0 0
def OO_slices_Grow_byte_byte : List OPat := [.grow 5 0 1 (.int .u8)]
def tup_slices_Grow_byte_byte : List AV → List AV := fun ls => getXs (ls.getD 0 .junk)
def res_slices_Grow_byte_byte : List AV → AV × List Ob := fun x => (.oslice 0 0 (List.length (x)), [.grow 5 0 1 (.int .u8) (x)])
noncomputable def T_slices_Grow_byte_byte (x0 : Int) : Tr (((Unit) ⊕ (Unit)) ⊕ (List AV)) := (.c (Decidable.decide (x0 < (0 : Int))) .bad (.r (.inl (.inl (())))))
noncomputable def M_slices_Grow_byte_byte (x0 : Int) : (Unit) ⊕ (Unit) → Tr (((Unit) ⊕ (Unit)) ⊕ (List AV))
  | .inl (()) => (.c (Decidable.decide (Go.IntKind.wrap Go.IntKind.i64 (x0 - (0 : Int)) > (0 : Int))) (.c (Decidable.decide ((0 : Int) < Go.IntKind.wrap Go.IntKind.i64 (x0 - (0 : Int)))) (.c (Decidable.decide (List.length (List.replicate (Int.toNat (Go.IntKind.wrap Go.IntKind.i64 (x0 - (0 : Int)))) (Go.Cx.AV.int Go.IntKind.u8 (0 : Int))) * (2 : Nat) < (70368744177664 : Nat))) (.c (List.length (List.replicate (Int.toNat (Go.IntKind.wrap Go.IntKind.i64 (x0 - (0 : Int)))) (Go.Cx.AV.int Go.IntKind.u8 (0 : Int))) == List.length (List.replicate (Int.toNat (Go.IntKind.wrap Go.IntKind.i64 (x0 - (0 : Int)))) (Go.Cx.AV.int Go.IntKind.u8 (0 : Int)))) (.r (.inl (.inr (())))) .bad) .bad) .bad) (.r (.inl (.inr (())))))
  | .inr (()) => (.c ((0 : Nat) == List.length ([] : List AV)) (.r (.inr ([]))) .bad)
noncomputable def g_slices_Grow_byte_byte (x0 : Int) : Option (List AV) := run (M_slices_Grow_byte_byte x0) (T_slices_Grow_byte_byte x0)
noncomputable def b_slices_Grow_byte_byte := Try.f54.body.getD .skip
noncomputable def st_slices_Grow_byte_byte_0 (x0 : Int) : St := ⟨[Go.Cx.AV.nilsl, Go.Cx.AV.int Go.IntKind.i64 x0, Go.Cx.AV.junk, Go.Cx.AV.junk, Go.Cx.AV.junk, Go.Cx.AV.junk, Go.Cx.AV.junk, Go.Cx.AV.junk, Go.Cx.AV.junk, Go.Cx.AV.junk, Go.Cx.AV.junk, Go.Cx.AV.junk, Go.Cx.AV.junk, Go.Cx.AV.junk, Go.Cx.AV.junk, Go.Cx.AV.junk, Go.Cx.AV.junk, Go.Cx.AV.junk, Go.Cx.AV.junk, Go.Cx.AV.junk, Go.Cx.AV.junk, Go.Cx.AV.junk, Go.Cx.AV.junk, Go.Cx.AV.junk, Go.Cx.AV.junk, Go.Cx.AV.junk, Go.Cx.AV.junk], []⟩
noncomputable def st_slices_Grow_byte_byte_1 (x0 : Int) : St := ⟨[Go.Cx.AV.oslice (0 : Nat) (0 : Nat) (0 : Nat), Go.Cx.AV.junk, Go.Cx.AV.junk, Go.Cx.AV.junk, Go.Cx.AV.junk, Go.Cx.AV.junk, Go.Cx.AV.junk, Go.Cx.AV.junk, Go.Cx.AV.junk, Go.Cx.AV.junk, Go.Cx.AV.junk, Go.Cx.AV.junk, Go.Cx.AV.junk, Go.Cx.AV.junk, Go.Cx.AV.junk, Go.Cx.AV.junk, Go.Cx.AV.junk, Go.Cx.AV.junk, Go.Cx.AV.junk, Go.Cx.AV.junk, Go.Cx.AV.junk, Go.Cx.AV.junk, Go.Cx.AV.junk, Go.Cx.AV.junk, Go.Cx.AV.junk, Go.Cx.AV.junk, Go.Cx.AV.junk], [Go.Cx.Ob.grow (5 : Nat) (0 : Nat) (1 : Nat) (Go.Cx.Sh.int Go.IntKind.u8) []]⟩
noncomputable def L_slices_Grow_byte_byte (x0 : Int) (Rv : List AV → Prop) : (Unit) ⊕ (Unit) → Prop
  | .inl (()) => headC E_slices_Grow_byte_byte [.r, .r] b_slices_Grow_byte_byte (bodyK E_slices_Grow_byte_byte Try.f54 (outH O_slices_Grow_byte_byte OO_slices_Grow_byte_byte fun ls => Rv (tup_slices_Grow_byte_byte ls))) (st_slices_Grow_byte_byte_0 x0)
  | .inr (()) => headC E_slices_Grow_byte_byte [.r, .r, .r] b_slices_Grow_byte_byte (bodyK E_slices_Grow_byte_byte Try.f54 (outH O_slices_Grow_byte_byte OO_slices_Grow_byte_byte fun ls => Rv (tup_slices_Grow_byte_byte ls))) (st_slices_Grow_byte_byte_1 x0)
set_option maxRecDepth 100000 in
theorem l_slices_Grow_byte_byte_0 (x0 : Int) (Rv : List AV → Prop) : stepC E_slices_Grow_byte_byte [.r, .r] b_slices_Grow_byte_byte (bodyK E_slices_Grow_byte_byte Try.f54 (outH O_slices_Grow_byte_byte OO_slices_Grow_byte_byte fun ls => Rv (tup_slices_Grow_byte_byte ls))) (st_slices_Grow_byte_byte_0 x0) =
  (M_slices_Grow_byte_byte x0 (.inl (()))).fold False (Sum.elim (L_slices_Grow_byte_byte x0 Rv) Rv) := by kernel_rfl
set_option maxRecDepth 100000 in
theorem l_slices_Grow_byte_byte_1 (x0 : Int) (Rv : List AV → Prop) : stepC E_slices_Grow_byte_byte [.r, .r, .r] b_slices_Grow_byte_byte (bodyK E_slices_Grow_byte_byte Try.f54 (outH O_slices_Grow_byte_byte OO_slices_Grow_byte_byte fun ls => Rv (tup_slices_Grow_byte_byte ls))) (st_slices_Grow_byte_byte_1 x0) =
  (M_slices_Grow_byte_byte x0 (.inr (()))).fold False (Sum.elim (L_slices_Grow_byte_byte x0 Rv) Rv) := by kernel_rfl
set_option maxRecDepth 100000 in
theorem e_slices_Grow_byte_byte_0 (x0 : Int) (Rv : List AV → Prop) : L_slices_Grow_byte_byte x0 Rv (.inl (())) = headC E_slices_Grow_byte_byte [.r, .r] b_slices_Grow_byte_byte (bodyK E_slices_Grow_byte_byte Try.f54 (outH O_slices_Grow_byte_byte OO_slices_Grow_byte_byte fun ls => Rv (tup_slices_Grow_byte_byte ls))) (st_slices_Grow_byte_byte_0 x0) := by kernel_rfl
set_option maxRecDepth 100000 in
theorem e_slices_Grow_byte_byte_1 (x0 : Int) (Rv : List AV → Prop) : L_slices_Grow_byte_byte x0 Rv (.inr (())) = headC E_slices_Grow_byte_byte [.r, .r, .r] b_slices_Grow_byte_byte (bodyK E_slices_Grow_byte_byte Try.f54 (outH O_slices_Grow_byte_byte OO_slices_Grow_byte_byte fun ls => Rv (tup_slices_Grow_byte_byte ls))) (st_slices_Grow_byte_byte_1 x0) := by kernel_rfl
section
attribute [local irreducible] Tr.fold M_slices_Grow_byte_byte L_slices_Grow_byte_byte T_slices_Grow_byte_byte E_slices_Grow_byte_byte b_slices_Grow_byte_byte bodyK headC headL stepC stepL wpX callA
set_option maxRecDepth 100000 in
theorem h_slices_Grow_byte_byte (x0 : Int) (Rv : List AV → Prop) : ∀ s, (M_slices_Grow_byte_byte x0 s).fold False (Sum.elim (L_slices_Grow_byte_byte x0 Rv) Rv) → L_slices_Grow_byte_byte x0 Rv s := by
  rintro (⟨⟩ | ⟨⟩)
  · exact fun h => Eq.mpr (e_slices_Grow_byte_byte_0 x0 Rv) (headC_of (Eq.mpr (l_slices_Grow_byte_byte_0 x0 Rv) h))
  · exact fun h => Eq.mpr (e_slices_Grow_byte_byte_1 x0 Rv) (headC_of (Eq.mpr (l_slices_Grow_byte_byte_1 x0 Rv) h))
set_option maxRecDepth 100000 in
theorem c_slices_Grow_byte_byte (ls : List AV) (Rv : List AV → Prop) : callA E_slices_Grow_byte_byte Try.f54 (instL ls P_slices_Grow_byte_byte 0) (instH ls Q_slices_Grow_byte_byte 1) (outH O_slices_Grow_byte_byte OO_slices_Grow_byte_byte fun ls => Rv (tup_slices_Grow_byte_byte ls)) = (T_slices_Grow_byte_byte (getI (ls.getD 0 .junk))).fold False (Sum.elim (L_slices_Grow_byte_byte (getI (ls.getD 0 .junk)) Rv) Rv) := by kernel_rfl
end
noncomputable def S_slices_Grow_byte_byte : Go.Cx.Spec := heapS (patH P_slices_Grow_byte_byte Q_slices_Grow_byte_byte fun ls => opt (g_slices_Grow_byte_byte (getI (ls.getD 0 .junk))) fun x => .r (res_slices_Grow_byte_byte x))
set_option maxRecDepth 100000 in
theorem S_slices_Grow_byte_byte_ok : Sound Try.prog 54 S_slices_Grow_byte_byte :=
  heap_mach (E := E_slices_Grow_byte_byte) (TblOK.enKB T0t_ok _ _ _ _ _ _ _) mixed Try.func54 (c := Try.f54.body.getD .skip) (by kernel_rfl) (by kernel_rfl) (by decide) (by decide) (pats := P_slices_Grow_byte_byte) (ops := Q_slices_Grow_byte_byte) (OO := OO_slices_Grow_byte_byte) (O := O_slices_Grow_byte_byte) (tup := tup_slices_Grow_byte_byte) (res := res_slices_Grow_byte_byte) (g := fun ls => g_slices_Grow_byte_byte (getI (ls.getD 0 .junk))) (T := fun ls => T_slices_Grow_byte_byte (getI (ls.getD 0 .junk))) (step := fun ls => M_slices_Grow_byte_byte (getI (ls.getD 0 .junk))) (L := fun ls => L_slices_Grow_byte_byte (getI (ls.getD 0 .junk))) (fun _ => rfl) (fun ls => by kernel_rfl) c_slices_Grow_byte_byte (fun ls Rv => h_slices_Grow_byte_byte (getI (ls.getD 0 .junk)) Rv)

noncomputable def TYbG111t : FuncId → Option Go.Cx.Spec := addT T0t 54 S_slices_Grow_byte_byte
theorem TYbG111t_ok : TblOK Try.prog TYbG111t := T0t_ok.add S_slices_Grow_byte_byte_ok

/- slices.Concat[[]byte,byte] -/
noncomputable def E_slices_Concat_byte_byte : En := enKB Try.prog TYbG111t [] [(3, ⟨[1, 2, 4, 5, 6, 7, 8, 12, 13, 14, 15, 16, 17, 18, 19, 20, 21, 22, 23, 24, 25, 26, 27, 28, 29, 30, 31, 32, 33, 34, 35], [], [], none, [], [], [], [], true⟩), (11, ⟨[0, 1, 2, 3, 4, 5, 7, 8, 9, 10, 11, 12, 13, 14, 15, 16, 17, 18, 19, 20, 21, 22, 23, 24, 28, 29, 30, 31, 32, 33, 34, 35], [], [], none, [], [], [], [], true⟩)] [] [] 1 0 true
def P_slices_Concat_byte_byte : List Pat := [.leaf (.slice 1 (.slice 1 (.int .u8)))]
def Q_slices_Concat_byte_byte : List OPat := []
def O_slices_Concat_byte_byte : Pat := .own 0 0 0
def OO_slices_Concat_byte_byte : List OPat := [.grow 5 0 1 (.int .u8)]
def tup_slices_Concat_byte_byte : List AV → List AV := fun ls => getXs (ls.getD 0 .junk)
def res_slices_Concat_byte_byte : List AV → AV × List Ob := fun x => (.oslice 0 0 (List.length (x)), [.grow 5 0 1 (.int .u8) (x)])
noncomputable def T_slices_Concat_byte_byte (x0 : List AV) : Tr (((Int × Int) ⊕ (List AV × Int)) ⊕ (List AV)) := (.r (.inl (.inl (((0 : Int), (0 : Int))))))
noncomputable def M_slices_Concat_byte_byte (x0 : List AV) : (Int × Int) ⊕ (List AV × Int) → Tr (((Int × Int) ⊕ (List AV × Int)) ⊕ (List AV))
  | .inl ((i0, i1)) => (.c (Decidable.decide (i1 < (↑(List.length x0) : Int))) (.c (Decidable.decide ((0 : Int) ≤ i1)) (.c (Decidable.decide (i1 < (↑(List.length x0) : Int))) (.c (Decidable.decide (Go.IntKind.wrap Go.IntKind.i64 (i0 + (↑(List.length (Go.Cx.getXs (List.getD x0 (Int.toNat i1) (Go.Cx.AV.slice (1 : Nat) (Go.Cx.Sh.int Go.IntKind.u8) [] Go.Cx.SK.ro)))) : Int)) < (0 : Int))) .bad (.r (.inl (.inl ((Go.IntKind.wrap Go.IntKind.i64 (i0 + (↑(List.length (Go.Cx.getXs (List.getD x0 (Int.toNat i1) (Go.Cx.AV.slice (1 : Nat) (Go.Cx.Sh.int Go.IntKind.u8) [] Go.Cx.SK.ro)))) : Int)), Go.IntKind.wrap Go.IntKind.i64 (i1 + (1 : Int)))))))) .bad) .bad) (opt (Go.Proofs.Ytaejmfmamhdlhaa.g_slices_Grow_byte_byte i0) fun (y0 : List Go.Cx.AV) => (.r (.inl (.inr ((y0, (0 : Int))))))))
  | .inr ((l0, i2)) => (.c (Decidable.decide (i2 < (↑(List.length x0) : Int))) (.c (Decidable.decide ((0 : Int) ≤ i2)) (.c (Decidable.decide (i2 < (↑(List.length x0) : Int))) (.c (List.length l0 == List.length l0) (.c (Decidable.decide (List.length (l0 ++ Go.Cx.getXs (List.getD x0 (Int.toNat i2) (Go.Cx.AV.slice (1 : Nat) (Go.Cx.Sh.int Go.IntKind.u8) [] Go.Cx.SK.ro))) * (2 : Nat) < (70368744177664 : Nat))) (.r (.inl (.inr ((l0 ++ Go.Cx.getXs (List.getD x0 (Int.toNat i2) (Go.Cx.AV.slice (1 : Nat) (Go.Cx.Sh.int Go.IntKind.u8) [] Go.Cx.SK.ro)), Go.IntKind.wrap Go.IntKind.i64 (i2 + (1 : Int))))))) .bad) .bad) .bad) .bad) (.c (List.length l0 == List.length (l0 : List AV)) (.r (.inr (l0))) .bad))
noncomputable def g_slices_Concat_byte_byte (x0 : List AV) : Option (List AV) := run (M_slices_Concat_byte_byte x0) (T_slices_Concat_byte_byte x0)
noncomputable def b_slices_Concat_byte_byte := Try.f44.body.getD .skip
noncomputable def st_slices_Concat_byte_byte_0 (x0 : List AV) (i0 : Int) (i1 : Int) : St := ⟨[Go.Cx.AV.slice (1 : Nat) (Go.Cx.Sh.slice (1 : Nat) (Go.Cx.Sh.int Go.IntKind.u8)) x0 Go.Cx.SK.ro, Go.Cx.AV.junk, Go.Cx.AV.junk, Go.Cx.AV.int Go.IntKind.i64 i0, Go.Cx.AV.junk, Go.Cx.AV.junk, Go.Cx.AV.junk, Go.Cx.AV.junk, Go.Cx.AV.junk, Go.Cx.AV.slice (1 : Nat) (Go.Cx.Sh.slice (1 : Nat) (Go.Cx.Sh.int Go.IntKind.u8)) x0 Go.Cx.SK.ro, Go.Cx.AV.int Go.IntKind.i64 (↑(List.length x0) : Int), Go.Cx.AV.int Go.IntKind.i64 i1, Go.Cx.AV.junk, Go.Cx.AV.junk, Go.Cx.AV.junk, Go.Cx.AV.junk, Go.Cx.AV.junk, Go.Cx.AV.junk, Go.Cx.AV.junk, Go.Cx.AV.junk, Go.Cx.AV.junk, Go.Cx.AV.junk, Go.Cx.AV.junk, Go.Cx.AV.junk, Go.Cx.AV.junk, Go.Cx.AV.junk, Go.Cx.AV.junk, Go.Cx.AV.junk, Go.Cx.AV.junk, Go.Cx.AV.junk, Go.Cx.AV.junk, Go.Cx.AV.junk, Go.Cx.AV.junk, Go.Cx.AV.junk, Go.Cx.AV.junk, Go.Cx.AV.junk], []⟩
noncomputable def st_slices_Concat_byte_byte_1 (x0 : List AV) (l0 : List AV) (i2 : Int) : St := ⟨[Go.Cx.AV.junk, Go.Cx.AV.junk, Go.Cx.AV.junk, Go.Cx.AV.junk, Go.Cx.AV.junk, Go.Cx.AV.junk, Go.Cx.AV.oslice (0 : Nat) (0 : Nat) (List.length l0), Go.Cx.AV.junk, Go.Cx.AV.junk, Go.Cx.AV.junk, Go.Cx.AV.junk, Go.Cx.AV.junk, Go.Cx.AV.junk, Go.Cx.AV.junk, Go.Cx.AV.junk, Go.Cx.AV.junk, Go.Cx.AV.junk, Go.Cx.AV.junk, Go.Cx.AV.junk, Go.Cx.AV.junk, Go.Cx.AV.junk, Go.Cx.AV.junk, Go.Cx.AV.junk, Go.Cx.AV.junk, Go.Cx.AV.junk, Go.Cx.AV.slice (1 : Nat) (Go.Cx.Sh.slice (1 : Nat) (Go.Cx.Sh.int Go.IntKind.u8)) x0 Go.Cx.SK.ro, Go.Cx.AV.int Go.IntKind.i64 (↑(List.length x0) : Int), Go.Cx.AV.int Go.IntKind.i64 i2, Go.Cx.AV.junk, Go.Cx.AV.junk, Go.Cx.AV.junk, Go.Cx.AV.junk, Go.Cx.AV.junk, Go.Cx.AV.junk, Go.Cx.AV.junk, Go.Cx.AV.junk], [Go.Cx.Ob.grow (5 : Nat) (0 : Nat) (1 : Nat) (Go.Cx.Sh.int Go.IntKind.u8) l0]⟩
noncomputable def L_slices_Concat_byte_byte (x0 : List AV) (Rv : List AV → Prop) : (Int × Int) ⊕ (List AV × Int) → Prop
  | .inl ((i0, i1)) => headL E_slices_Concat_byte_byte [.r, .r, .l, .r, .d] b_slices_Concat_byte_byte 1000 (bodyK E_slices_Concat_byte_byte Try.f44 (outH O_slices_Concat_byte_byte OO_slices_Concat_byte_byte fun ls => Rv (tup_slices_Concat_byte_byte ls))) (st_slices_Concat_byte_byte_0 x0 i0 i1)
  | .inr ((l0, i2)) => headL E_slices_Concat_byte_byte [.r, .r, .r, .r, .l, .r, .d] b_slices_Concat_byte_byte 1000 (bodyK E_slices_Concat_byte_byte Try.f44 (outH O_slices_Concat_byte_byte OO_slices_Concat_byte_byte fun ls => Rv (tup_slices_Concat_byte_byte ls))) (st_slices_Concat_byte_byte_1 x0 l0 i2)
set_option maxRecDepth 100000 in
theorem l_slices_Concat_byte_byte_0 (x0 : List AV) (Rv : List AV → Prop) (i0 : Int) (i1 : Int) : stepL E_slices_Concat_byte_byte [.r, .r, .l, .r, .d] b_slices_Concat_byte_byte 1000 (bodyK E_slices_Concat_byte_byte Try.f44 (outH O_slices_Concat_byte_byte OO_slices_Concat_byte_byte fun ls => Rv (tup_slices_Concat_byte_byte ls))) (st_slices_Concat_byte_byte_0 x0 i0 i1) =
  (M_slices_Concat_byte_byte x0 (.inl ((i0, i1)))).fold False (Sum.elim (L_slices_Concat_byte_byte x0 Rv) Rv) := by kernel_rfl
set_option maxRecDepth 100000 in
theorem l_slices_Concat_byte_byte_1 (x0 : List AV) (Rv : List AV → Prop) (l0 : List AV) (i2 : Int) : stepL E_slices_Concat_byte_byte [.r, .r, .r, .r, .l, .r, .d] b_slices_Concat_byte_byte 1000 (bodyK E_slices_Concat_byte_byte Try.f44 (outH O_slices_Concat_byte_byte OO_slices_Concat_byte_byte fun ls => Rv (tup_slices_Concat_byte_byte ls))) (st_slices_Concat_byte_byte_1 x0 l0 i2) =
  (M_slices_Concat_byte_byte x0 (.inr ((l0, i2)))).fold False (Sum.elim (L_slices_Concat_byte_byte x0 Rv) Rv) := by kernel_rfl
set_option maxRecDepth 100000 in
theorem e_slices_Concat_byte_byte_0 (x0 : List AV) (Rv : List AV → Prop) (i0 : Int) (i1 : Int) : L_slices_Concat_byte_byte x0 Rv (.inl ((i0, i1))) = headL E_slices_Concat_byte_byte [.r, .r, .l, .r, .d] b_slices_Concat_byte_byte 1000 (bodyK E_slices_Concat_byte_byte Try.f44 (outH O_slices_Concat_byte_byte OO_slices_Concat_byte_byte fun ls => Rv (tup_slices_Concat_byte_byte ls))) (st_slices_Concat_byte_byte_0 x0 i0 i1) := by kernel_rfl
set_option maxRecDepth 100000 in
theorem e_slices_Concat_byte_byte_1 (x0 : List AV) (Rv : List AV → Prop) (l0 : List AV) (i2 : Int) : L_slices_Concat_byte_byte x0 Rv (.inr ((l0, i2))) = headL E_slices_Concat_byte_byte [.r, .r, .r, .r, .l, .r, .d] b_slices_Concat_byte_byte 1000 (bodyK E_slices_Concat_byte_byte Try.f44 (outH O_slices_Concat_byte_byte OO_slices_Concat_byte_byte fun ls => Rv (tup_slices_Concat_byte_byte ls))) (st_slices_Concat_byte_byte_1 x0 l0 i2) := by kernel_rfl
section
attribute [local irreducible] Tr.fold M_slices_Concat_byte_byte L_slices_Concat_byte_byte T_slices_Concat_byte_byte E_slices_Concat_byte_byte b_slices_Concat_byte_byte bodyK headC headL stepC stepL wpX callA
set_option maxRecDepth 100000 in
theorem h_slices_Concat_byte_byte (x0 : List AV) (Rv : List AV → Prop) : ∀ s, (M_slices_Concat_byte_byte x0 s).fold False (Sum.elim (L_slices_Concat_byte_byte x0 Rv) Rv) → L_slices_Concat_byte_byte x0 Rv s := by
  rintro (⟨v0, v1⟩ | ⟨v0, v1⟩)
  · exact fun h => Eq.mpr (e_slices_Concat_byte_byte_0 x0 Rv v0 v1) (headL_of (Eq.mpr (l_slices_Concat_byte_byte_0 x0 Rv v0 v1) h))
  · exact fun h => Eq.mpr (e_slices_Concat_byte_byte_1 x0 Rv v0 v1) (headL_of (Eq.mpr (l_slices_Concat_byte_byte_1 x0 Rv v0 v1) h))
set_option maxRecDepth 100000 in
theorem c_slices_Concat_byte_byte (ls : List AV) (Rv : List AV → Prop) : callA E_slices_Concat_byte_byte Try.f44 (instL ls P_slices_Concat_byte_byte 0) (instH ls Q_slices_Concat_byte_byte 1) (outH O_slices_Concat_byte_byte OO_slices_Concat_byte_byte fun ls => Rv (tup_slices_Concat_byte_byte ls)) = (T_slices_Concat_byte_byte (getXs (ls.getD 0 .junk))).fold False (Sum.elim (L_slices_Concat_byte_byte (getXs (ls.getD 0 .junk)) Rv) Rv) := by kernel_rfl
end
noncomputable def S_slices_Concat_byte_byte : Go.Cx.Spec := heapS (patH P_slices_Concat_byte_byte Q_slices_Concat_byte_byte fun ls => opt (g_slices_Concat_byte_byte (getXs (ls.getD 0 .junk))) fun x => .r (res_slices_Concat_byte_byte x))
set_option maxRecDepth 100000 in
theorem S_slices_Concat_byte_byte_ok : Sound Try.prog 44 S_slices_Concat_byte_byte :=
  heap_mach (E := E_slices_Concat_byte_byte) (TblOK.enKB TYbG111t_ok _ _ _ _ _ _ _) mixed Try.func44 (c := Try.f44.body.getD .skip) (by kernel_rfl) (by kernel_rfl) (by decide) (by decide) (pats := P_slices_Concat_byte_byte) (ops := Q_slices_Concat_byte_byte) (OO := OO_slices_Concat_byte_byte) (O := O_slices_Concat_byte_byte) (tup := tup_slices_Concat_byte_byte) (res := res_slices_Concat_byte_byte) (g := fun ls => g_slices_Concat_byte_byte (getXs (ls.getD 0 .junk))) (T := fun ls => T_slices_Concat_byte_byte (getXs (ls.getD 0 .junk))) (step := fun ls => M_slices_Concat_byte_byte (getXs (ls.getD 0 .junk))) (L := fun ls => L_slices_Concat_byte_byte (getXs (ls.getD 0 .junk))) (fun _ => rfl) (fun ls => by kernel_rfl) c_slices_Concat_byte_byte (fun ls Rv => h_slices_Concat_byte_byte (getXs (ls.getD 0 .junk)) Rv)

noncomputable def TYbG112t : FuncId → Option Go.Cx.Spec := addT TYbG111t 44 S_slices_Concat_byte_byte
theorem TYbG112t_ok : TblOK Try.prog TYbG112t := TYbG111t_ok.add S_slices_Concat_byte_byte_ok

/- comptoir/cursor.Put -/
noncomputable def E_cursor_Put : En := enKB Try.prog TYbG112t [1000031, 1000032] [(4, ⟨[3, 4, 5, 6, 8, 9, 10, 11, 12, 13, 14, 17, 18, 19, 20, 21, 22, 23, 24, 25, 26, 27, 28, 29, 30, 31, 32, 33, 34], [], [], none, [7], [], [], [], true⟩)] [] [] 1 0 true
def P_cursor_Put : List Pat := [.leaf (.slice 1 (.int .u8)), .leaf (.int .u64), .leaf (.int .i64)]
def Q_cursor_Put : List OPat := []
def O_cursor_Put : Pat := .own 0 0 0
def OO_cursor_Put : List OPat := [.grow 5 0 1 (.int .u8)]
def tup_cursor_Put : List AV → List AV := fun ls => getXs (ls.getD 0 .junk)
def res_cursor_Put : List AV → AV × List Ob := fun x => (.oslice 0 0 (List.length (x)), [.grow 5 0 1 (.int .u8) (x)])
noncomputable def T_cursor_Put (x0 : List AV) (x1 : Int) (x2 : Int) : Tr ((Int × Int × List AV × Int) ⊕ (List AV)) := (.c (Decidable.decide ((0 : Int) ≤ if (8 : Int) < if (0 : Int) > x2 then (0 : Int) else x2 then (8 : Int) else if (0 : Int) > x2 then (0 : Int) else x2)) (.c ((if (8 : Int) < if (0 : Int) > x2 then (0 : Int) else x2 then (8 : Int) else if (0 : Int) > x2 then (0 : Int) else x2) == if (8 : Int) < if (0 : Int) > x2 then (0 : Int) else x2 then (8 : Int) else if (0 : Int) > x2 then (0 : Int) else x2) (.c (Decidable.decide (List.length (List.replicate (Int.toNat (if (8 : Int) < if (0 : Int) > x2 then (0 : Int) else x2 then (8 : Int) else if (0 : Int) > x2 then (0 : Int) else x2)) (Go.Cx.AV.int Go.IntKind.u8 (0 : Int))) * (2 : Nat) < (70368744177664 : Nat))) (.c (List.length (List.replicate (Int.toNat (if (8 : Int) < if (0 : Int) > x2 then (0 : Int) else x2 then (8 : Int) else if (0 : Int) > x2 then (0 : Int) else x2)) (Go.Cx.AV.int Go.IntKind.u8 (0 : Int))) == List.length (List.replicate (Int.toNat (if (8 : Int) < if (0 : Int) > x2 then (0 : Int) else x2 then (8 : Int) else if (0 : Int) > x2 then (0 : Int) else x2)) (Go.Cx.AV.int Go.IntKind.u8 (0 : Int)))) (.r (.inl ((if (8 : Int) < if (0 : Int) > x2 then (0 : Int) else x2 then (8 : Int) else if (0 : Int) > x2 then (0 : Int) else x2, (↑(List.length (List.replicate (Int.toNat (if (8 : Int) < if (0 : Int) > x2 then (0 : Int) else x2 then (8 : Int) else if (0 : Int) > x2 then (0 : Int) else x2)) (Go.Cx.AV.int Go.IntKind.u8 (0 : Int)))) : Int), List.replicate (Int.toNat (if (8 : Int) < if (0 : Int) > x2 then (0 : Int) else x2 then (8 : Int) else if (0 : Int) > x2 then (0 : Int) else x2)) (Go.Cx.AV.int Go.IntKind.u8 (0 : Int)), (0 : Int))))) .bad) .bad) .bad) .bad)
noncomputable def M_cursor_Put (x0 : List AV) (x1 : Int) (x2 : Int) : Int × Int × List AV × Int → Tr ((Int × Int × List AV × Int) ⊕ (List AV))
  | (i0, i1, l0, i2) => (.c (Decidable.decide (i2 < i1)) (.c (Decidable.decide ((0 : Int) ≤ Go.IntKind.wrap Go.IntKind.i64 ((8 : Int) * i2))) (.c (Decidable.decide ((0 : Int) ≤ Go.IntKind.wrap Go.IntKind.i64 (Go.IntKind.wrap Go.IntKind.i64 (i0 - (1 : Int)) - i2))) (.c (Decidable.decide (Go.IntKind.wrap Go.IntKind.i64 (Go.IntKind.wrap Go.IntKind.i64 (i0 - (1 : Int)) - i2) < (↑(List.length l0) : Int))) (.c (List.length l0 == List.length l0) (.c (Decidable.decide (Int.toNat (Go.IntKind.wrap Go.IntKind.i64 (Go.IntKind.wrap Go.IntKind.i64 (i0 - (1 : Int)) - i2)) < List.length l0)) (.c (List.length l0 == List.length (List.set l0 (Int.toNat (Go.IntKind.wrap Go.IntKind.i64 (Go.IntKind.wrap Go.IntKind.i64 (i0 - (1 : Int)) - i2))) (Go.Cx.AV.int Go.IntKind.u8 (Go.IntKind.wrap Go.IntKind.u8 (Go.Cx.shrA Go.IntKind.u64 x1 (Go.IntKind.wrap Go.IntKind.i64 ((8 : Int) * i2))))))) (.r (.inl ((i0, i1, List.set l0 (Int.toNat (Go.IntKind.wrap Go.IntKind.i64 (Go.IntKind.wrap Go.IntKind.i64 (i0 - (1 : Int)) - i2))) (Go.Cx.AV.int Go.IntKind.u8 (Go.IntKind.wrap Go.IntKind.u8 (Go.Cx.shrA Go.IntKind.u64 x1 (Go.IntKind.wrap Go.IntKind.i64 ((8 : Int) * i2))))), Go.IntKind.wrap Go.IntKind.i64 (i2 + (1 : Int)))))) .bad) .bad) .bad) .bad) .bad) .bad) (.c (List.length l0 == List.length l0) (opt (Go.Proofs.Ytaejmfmamhdlhaa.g_slices_Concat_byte_byte [Go.Cx.AV.slice (1 : Nat) (Go.Cx.Sh.int Go.IntKind.u8) x0 Go.Cx.SK.ro, Go.Cx.AV.slice (1 : Nat) (Go.Cx.Sh.int Go.IntKind.u8) l0 Go.Cx.SK.ro]) fun (y0 : List Go.Cx.AV) => (.c (List.length y0 == List.length (y0 : List AV)) (.r (.inr (y0))) .bad)) .bad))
noncomputable def g_cursor_Put (x0 : List AV) (x1 : Int) (x2 : Int) : Option (List AV) := run (M_cursor_Put x0 x1 x2) (T_cursor_Put x0 x1 x2)
noncomputable def b_cursor_Put := Try.f41.body.getD .skip
noncomputable def st_cursor_Put_0 (x0 : List AV) (x1 : Int) (x2 : Int) (i0 : Int) (i1 : Int) (l0 : List AV) (i2 : Int) : St := ⟨[Go.Cx.AV.slice (1 : Nat) (Go.Cx.Sh.int Go.IntKind.u8) x0 Go.Cx.SK.ro, Go.Cx.AV.int Go.IntKind.u64 x1, Go.Cx.AV.int Go.IntKind.i64 i0, Go.Cx.AV.junk, Go.Cx.AV.junk, Go.Cx.AV.junk, Go.Cx.AV.junk, Go.Cx.AV.oslice (0 : Nat) (0 : Nat) (List.length l0), Go.Cx.AV.junk, Go.Cx.AV.junk, Go.Cx.AV.junk, Go.Cx.AV.junk, Go.Cx.AV.junk, Go.Cx.AV.junk, Go.Cx.AV.junk, Go.Cx.AV.int Go.IntKind.i64 i1, Go.Cx.AV.int Go.IntKind.i64 i2, Go.Cx.AV.junk, Go.Cx.AV.junk, Go.Cx.AV.junk, Go.Cx.AV.junk, Go.Cx.AV.junk, Go.Cx.AV.junk, Go.Cx.AV.junk, Go.Cx.AV.junk, Go.Cx.AV.junk, Go.Cx.AV.junk, Go.Cx.AV.junk, Go.Cx.AV.junk, Go.Cx.AV.junk, Go.Cx.AV.junk, Go.Cx.AV.junk, Go.Cx.AV.junk, Go.Cx.AV.junk, Go.Cx.AV.junk], [Go.Cx.Ob.grow (5 : Nat) (0 : Nat) (1 : Nat) (Go.Cx.Sh.int Go.IntKind.u8) l0]⟩
noncomputable def L_cursor_Put (x0 : List AV) (x1 : Int) (x2 : Int) (Rv : List AV → Prop) : Int × Int × List AV × Int → Prop
  | (i0, i1, l0, i2) => headL E_cursor_Put [.r, .r, .r, .l, .r, .d] b_cursor_Put 1000 (bodyK E_cursor_Put Try.f41 (outH O_cursor_Put OO_cursor_Put fun ls => Rv (tup_cursor_Put ls))) (st_cursor_Put_0 x0 x1 x2 i0 i1 l0 i2)
set_option maxRecDepth 100000 in
theorem l_cursor_Put_0 (x0 : List AV) (x1 : Int) (x2 : Int) (Rv : List AV → Prop) (i0 : Int) (i1 : Int) (l0 : List AV) (i2 : Int) : stepL E_cursor_Put [.r, .r, .r, .l, .r, .d] b_cursor_Put 1000 (bodyK E_cursor_Put Try.f41 (outH O_cursor_Put OO_cursor_Put fun ls => Rv (tup_cursor_Put ls))) (st_cursor_Put_0 x0 x1 x2 i0 i1 l0 i2) =
  (M_cursor_Put x0 x1 x2 ((i0, i1, l0, i2))).fold False (Sum.elim (L_cursor_Put x0 x1 x2 Rv) Rv) := by kernel_rfl
set_option maxRecDepth 100000 in
theorem e_cursor_Put_0 (x0 : List AV) (x1 : Int) (x2 : Int) (Rv : List AV → Prop) (i0 : Int) (i1 : Int) (l0 : List AV) (i2 : Int) : L_cursor_Put x0 x1 x2 Rv ((i0, i1, l0, i2)) = headL E_cursor_Put [.r, .r, .r, .l, .r, .d] b_cursor_Put 1000 (bodyK E_cursor_Put Try.f41 (outH O_cursor_Put OO_cursor_Put fun ls => Rv (tup_cursor_Put ls))) (st_cursor_Put_0 x0 x1 x2 i0 i1 l0 i2) := by kernel_rfl
section
attribute [local irreducible] Tr.fold M_cursor_Put L_cursor_Put T_cursor_Put E_cursor_Put b_cursor_Put bodyK headC headL stepC stepL wpX callA
set_option maxRecDepth 100000 in
theorem h_cursor_Put (x0 : List AV) (x1 : Int) (x2 : Int) (Rv : List AV → Prop) : ∀ s, (M_cursor_Put x0 x1 x2 s).fold False (Sum.elim (L_cursor_Put x0 x1 x2 Rv) Rv) → L_cursor_Put x0 x1 x2 Rv s := by
  rintro (⟨v0, v1, v2, v3⟩)
  · exact fun h => Eq.mpr (e_cursor_Put_0 x0 x1 x2 Rv v0 v1 v2 v3) (headL_of (Eq.mpr (l_cursor_Put_0 x0 x1 x2 Rv v0 v1 v2 v3) h))
set_option maxRecDepth 100000 in
theorem c_cursor_Put (ls : List AV) (Rv : List AV → Prop) : callA E_cursor_Put Try.f41 (instL ls P_cursor_Put 0) (instH ls Q_cursor_Put 3) (outH O_cursor_Put OO_cursor_Put fun ls => Rv (tup_cursor_Put ls)) = (T_cursor_Put (getXs (ls.getD 0 .junk)) (getI (ls.getD 1 .junk)) (getI (ls.getD 2 .junk))).fold False (Sum.elim (L_cursor_Put (getXs (ls.getD 0 .junk)) (getI (ls.getD 1 .junk)) (getI (ls.getD 2 .junk)) Rv) Rv) := by kernel_rfl
end
noncomputable def S_cursor_Put : Go.Cx.Spec := heapS (patH P_cursor_Put Q_cursor_Put fun ls => opt (g_cursor_Put (getXs (ls.getD 0 .junk)) (getI (ls.getD 1 .junk)) (getI (ls.getD 2 .junk))) fun x => .r (res_cursor_Put x))
set_option maxRecDepth 100000 in
theorem S_cursor_Put_ok : Sound Try.prog 41 S_cursor_Put :=
  heap_mach (E := E_cursor_Put) (TblOK.enKB TYbG112t_ok _ _ _ _ _ _ _) mixed Try.func41 (c := Try.f41.body.getD .skip) (by kernel_rfl) (by kernel_rfl) (by decide) (by decide) (pats := P_cursor_Put) (ops := Q_cursor_Put) (OO := OO_cursor_Put) (O := O_cursor_Put) (tup := tup_cursor_Put) (res := res_cursor_Put) (g := fun ls => g_cursor_Put (getXs (ls.getD 0 .junk)) (getI (ls.getD 1 .junk)) (getI (ls.getD 2 .junk))) (T := fun ls => T_cursor_Put (getXs (ls.getD 0 .junk)) (getI (ls.getD 1 .junk)) (getI (ls.getD 2 .junk))) (step := fun ls => M_cursor_Put (getXs (ls.getD 0 .junk)) (getI (ls.getD 1 .junk)) (getI (ls.getD 2 .junk))) (L := fun ls => L_cursor_Put (getXs (ls.getD 0 .junk)) (getI (ls.getD 1 .junk)) (getI (ls.getD 2 .junk))) (fun _ => rfl) (fun ls => by kernel_rfl) c_cursor_Put (fun ls Rv => h_cursor_Put (getXs (ls.getD 0 .junk)) (getI (ls.getD 1 .junk)) (getI (ls.getD 2 .junk)) Rv)

noncomputable def TYbG113t : FuncId → Option Go.Cx.Spec := addT TYbG112t 41 S_cursor_Put
theorem TYbG113t_ok : TblOK Try.prog TYbG113t := TYbG112t_ok.add S_cursor_Put_ok

/- (*comptoir/crc.sum).step -/
noncomputable def E_crc_sum_step_p050 : En := enKB Try.prog TYbG113t [] [(2, ⟨[1, 2, 3, 4, 5, 6, 7, 8, 9, 10, 11, 12, 13, 15, 16, 17, 18, 19, 20, 21, 22, 23, 24, 25, 26, 27, 28, 29, 30, 31, 32, 33, 34, 35, 36, 37], [], [], none, [], [], [], [], true⟩)] [] [] 1 1 true
def P_crc_sum_step_p050 : List Pat := [.lit (.ptr 0 0), .leaf (.int .u8)]
def Q_crc_sum_step_p050 : List OPat := [.fix 63 [.leaf (.int .u32)]]
def O_crc_sum_step_p050 : Pat := .tuple []
def OO_crc_sum_step_p050 : List OPat := [.fix 63 [.leaf (.int .u32)]]
def tup_crc_sum_step_p050 : List AV → Int := fun ls => getI (ls.getD 0 .junk)
def res_crc_sum_step_p050 : Int → AV × List Ob := fun x => (.tuple [], [.fix 63 [.int .u32 (x)]])
noncomputable def T_crc_sum_step_p050 (x0 : Int) (x1 : Int) : Tr ((Int × Int) ⊕ (Int)) := (.r (.inl (((0 : Int), Go.Cx.bitsA Go.BinOp.xor Go.IntKind.u32 x1 (Go.IntKind.wrap Go.IntKind.u32 x0)))))
noncomputable def M_crc_sum_step_p050 (x0 : Int) (x1 : Int) : Int × Int → Tr ((Int × Int) ⊕ (Int))
  | (i0, i1) => (.c (Decidable.decide (i0 < (8 : Int))) (.c (Go.Cx.bitsA Go.BinOp.and Go.IntKind.u32 i1 (1 : Int) == (1 : Int)) (.r (.inl ((Go.IntKind.wrap Go.IntKind.i64 (i0 + (1 : Int)), Go.Cx.bitsA Go.BinOp.xor Go.IntKind.u32 (Go.Cx.shrA Go.IntKind.u32 i1 (1 : Int)) (3988292384 : Int))))) (.r (.inl ((Go.IntKind.wrap Go.IntKind.i64 (i0 + (1 : Int)), Go.Cx.shrA Go.IntKind.u32 i1 (1 : Int)))))) (.r (.inr (i1))))
noncomputable def g_crc_sum_step_p050 (x0 : Int) (x1 : Int) : Option (Int) := run (M_crc_sum_step_p050 x0 x1) (T_crc_sum_step_p050 x0 x1)
noncomputable def b_crc_sum_step_p050 := Try.f40.body.getD .skip
noncomputable def st_crc_sum_step_p050_0 (x0 : Int) (x1 : Int) (i0 : Int) (i1 : Int) : St := ⟨[Go.Cx.AV.ptr (0 : Nat) (0 : Nat), Go.Cx.AV.junk, Go.Cx.AV.junk, Go.Cx.AV.junk, Go.Cx.AV.junk, Go.Cx.AV.junk, Go.Cx.AV.junk, Go.Cx.AV.junk, Go.Cx.AV.junk, Go.Cx.AV.junk, Go.Cx.AV.junk, Go.Cx.AV.junk, Go.Cx.AV.junk, Go.Cx.AV.junk, Go.Cx.AV.int Go.IntKind.i64 i0, Go.Cx.AV.junk, Go.Cx.AV.junk, Go.Cx.AV.junk, Go.Cx.AV.junk, Go.Cx.AV.junk, Go.Cx.AV.junk, Go.Cx.AV.junk, Go.Cx.AV.junk, Go.Cx.AV.junk, Go.Cx.AV.junk, Go.Cx.AV.junk, Go.Cx.AV.junk, Go.Cx.AV.junk, Go.Cx.AV.junk, Go.Cx.AV.junk, Go.Cx.AV.junk, Go.Cx.AV.junk, Go.Cx.AV.junk, Go.Cx.AV.junk, Go.Cx.AV.junk, Go.Cx.AV.junk, Go.Cx.AV.junk, Go.Cx.AV.junk], [Go.Cx.Ob.fix (63 : Nat) [Go.Cx.AV.int Go.IntKind.u32 i1]]⟩
noncomputable def L_crc_sum_step_p050 (x0 : Int) (x1 : Int) (Rv : Int → Prop) : Int × Int → Prop
  | (i0, i1) => headL E_crc_sum_step_p050 [.r, .r, .d] b_crc_sum_step_p050 1000 (bodyK E_crc_sum_step_p050 Try.f40 (outH O_crc_sum_step_p050 OO_crc_sum_step_p050 fun ls => Rv (tup_crc_sum_step_p050 ls))) (st_crc_sum_step_p050_0 x0 x1 i0 i1)
set_option maxRecDepth 100000 in
theorem l_crc_sum_step_p050_0 (x0 : Int) (x1 : Int) (Rv : Int → Prop) (i0 : Int) (i1 : Int) : stepL E_crc_sum_step_p050 [.r, .r, .d] b_crc_sum_step_p050 1000 (bodyK E_crc_sum_step_p050 Try.f40 (outH O_crc_sum_step_p050 OO_crc_sum_step_p050 fun ls => Rv (tup_crc_sum_step_p050 ls))) (st_crc_sum_step_p050_0 x0 x1 i0 i1) =
  (M_crc_sum_step_p050 x0 x1 ((i0, i1))).fold False (Sum.elim (L_crc_sum_step_p050 x0 x1 Rv) Rv) := by kernel_rfl
set_option maxRecDepth 100000 in
theorem e_crc_sum_step_p050_0 (x0 : Int) (x1 : Int) (Rv : Int → Prop) (i0 : Int) (i1 : Int) : L_crc_sum_step_p050 x0 x1 Rv ((i0, i1)) = headL E_crc_sum_step_p050 [.r, .r, .d] b_crc_sum_step_p050 1000 (bodyK E_crc_sum_step_p050 Try.f40 (outH O_crc_sum_step_p050 OO_crc_sum_step_p050 fun ls => Rv (tup_crc_sum_step_p050 ls))) (st_crc_sum_step_p050_0 x0 x1 i0 i1) := by kernel_rfl
section
attribute [local irreducible] Tr.fold M_crc_sum_step_p050 L_crc_sum_step_p050 T_crc_sum_step_p050 E_crc_sum_step_p050 b_crc_sum_step_p050 bodyK headC headL stepC stepL wpX callA
set_option maxRecDepth 100000 in
theorem h_crc_sum_step_p050 (x0 : Int) (x1 : Int) (Rv : Int → Prop) : ∀ s, (M_crc_sum_step_p050 x0 x1 s).fold False (Sum.elim (L_crc_sum_step_p050 x0 x1 Rv) Rv) → L_crc_sum_step_p050 x0 x1 Rv s := by
  rintro (⟨v0, v1⟩)
  · exact fun h => Eq.mpr (e_crc_sum_step_p050_0 x0 x1 Rv v0 v1) (headL_of (Eq.mpr (l_crc_sum_step_p050_0 x0 x1 Rv v0 v1) h))
set_option maxRecDepth 100000 in
theorem c_crc_sum_step_p050 (ls : List AV) (Rv : Int → Prop) : callA E_crc_sum_step_p050 Try.f40 (instL ls P_crc_sum_step_p050 0) (instH ls Q_crc_sum_step_p050 1) (outH O_crc_sum_step_p050 OO_crc_sum_step_p050 fun ls => Rv (tup_crc_sum_step_p050 ls)) = (T_crc_sum_step_p050 (getI (ls.getD 0 .junk)) (getI (ls.getD 1 .junk))).fold False (Sum.elim (L_crc_sum_step_p050 (getI (ls.getD 0 .junk)) (getI (ls.getD 1 .junk)) Rv) Rv) := by kernel_rfl
end
noncomputable def S_crc_sum_step_p050 : Go.Cx.Spec := heapS (patH P_crc_sum_step_p050 Q_crc_sum_step_p050 fun ls => opt (g_crc_sum_step_p050 (getI (ls.getD 0 .junk)) (getI (ls.getD 1 .junk))) fun x => .r (res_crc_sum_step_p050 x))
set_option maxRecDepth 100000 in
theorem S_crc_sum_step_p050_ok : Sound Try.prog 40 S_crc_sum_step_p050 :=
  heap_mach (E := E_crc_sum_step_p050) (TblOK.enKB TYbG113t_ok _ _ _ _ _ _ _) mixed Try.func40 (c := Try.f40.body.getD .skip) (by kernel_rfl) (by kernel_rfl) (by decide) (by decide) (pats := P_crc_sum_step_p050) (ops := Q_crc_sum_step_p050) (OO := OO_crc_sum_step_p050) (O := O_crc_sum_step_p050) (tup := tup_crc_sum_step_p050) (res := res_crc_sum_step_p050) (g := fun ls => g_crc_sum_step_p050 (getI (ls.getD 0 .junk)) (getI (ls.getD 1 .junk))) (T := fun ls => T_crc_sum_step_p050 (getI (ls.getD 0 .junk)) (getI (ls.getD 1 .junk))) (step := fun ls => M_crc_sum_step_p050 (getI (ls.getD 0 .junk)) (getI (ls.getD 1 .junk))) (L := fun ls => L_crc_sum_step_p050 (getI (ls.getD 0 .junk)) (getI (ls.getD 1 .junk))) (fun _ => rfl) (fun ls => by kernel_rfl) c_crc_sum_step_p050 (fun ls Rv => h_crc_sum_step_p050 (getI (ls.getD 0 .junk)) (getI (ls.getD 1 .junk)) Rv)

noncomputable def TYbG114t : FuncId → Option Go.Cx.Spec := addT TYbG113t 40 S_crc_sum_step_p050
theorem TYbG114t_ok : TblOK Try.prog TYbG114t := TYbG113t_ok.add S_crc_sum_step_p050_ok

/- comptoir/crc.each -/
noncomputable def E_crc_each_0fstep_p50 : En := enKB Try.prog TYbG114t [] [(1, ⟨[0, 2, 3, 4, 5, 9, 10, 11, 12, 13, 14, 15], [], [], none, [], [], [], [], true⟩)] [] [] 1 1 true
def P_crc_each_0fstep_p50 : List Pat := [.leaf (.slice 1 (.int .u8)), .func 40 [.lit (.ptr 0 0)] []]
def Q_crc_each_0fstep_p50 : List OPat := [.fix 63 [.leaf (.int .u32)]]
def O_crc_each_0fstep_p50 : Pat := .tuple []
def OO_crc_each_0fstep_p50 : List OPat := [.fix 63 [.leaf (.int .u32)]]
def tup_crc_each_0fstep_p50 : List AV → Int := fun ls => getI (ls.getD 0 .junk)
def res_crc_each_0fstep_p50 : Int → AV × List Ob := fun x => (.tuple [], [.fix 63 [.int .u32 (x)]])
noncomputable def T_crc_each_0fstep_p50 (x0 : List AV) (x1 : Int) : Tr ((Int × Int) ⊕ (Int)) := (.r (.inl (((0 : Int), x1))))
noncomputable def M_crc_each_0fstep_p50 (x0 : List AV) (x1 : Int) : Int × Int → Tr ((Int × Int) ⊕ (Int))
  | (i0, i1) => (.c (Decidable.decide (i0 < (↑(List.length x0) : Int))) (.c (Decidable.decide ((0 : Int) ≤ i0)) (.c (Decidable.decide (i0 < (↑(List.length x0) : Int))) (opt (Go.Proofs.Ytaejmfmamhdlhaa.g_crc_sum_step_p050 (Go.Cx.getI (List.getD x0 (Int.toNat i0) (Go.Cx.AV.int Go.IntKind.u8 (0 : Int)))) i1) fun (y0 : Int) => (.r (.inl ((Go.IntKind.wrap Go.IntKind.i64 (i0 + (1 : Int)), y0))))) .bad) .bad) (.r (.inr (i1))))
noncomputable def g_crc_each_0fstep_p50 (x0 : List AV) (x1 : Int) : Option (Int) := run (M_crc_each_0fstep_p50 x0 x1) (T_crc_each_0fstep_p50 x0 x1)
noncomputable def b_crc_each_0fstep_p50 := Try.f39.body.getD .skip
noncomputable def st_crc_each_0fstep_p50_0 (x0 : List AV) (x1 : Int) (i0 : Int) (i1 : Int) : St := ⟨[Go.Cx.AV.junk, Go.Cx.AV.func (40 : Nat) [Go.Cx.AV.ptr (0 : Nat) (0 : Nat)] [], Go.Cx.AV.junk, Go.Cx.AV.junk, Go.Cx.AV.junk, Go.Cx.AV.junk, Go.Cx.AV.slice (1 : Nat) (Go.Cx.Sh.int Go.IntKind.u8) x0 Go.Cx.SK.ro, Go.Cx.AV.int Go.IntKind.i64 (↑(List.length x0) : Int), Go.Cx.AV.int Go.IntKind.i64 i0, Go.Cx.AV.junk, Go.Cx.AV.junk, Go.Cx.AV.junk, Go.Cx.AV.junk, Go.Cx.AV.junk, Go.Cx.AV.junk, Go.Cx.AV.junk], [Go.Cx.Ob.fix (63 : Nat) [Go.Cx.AV.int Go.IntKind.u32 i1]]⟩
noncomputable def L_crc_each_0fstep_p50 (x0 : List AV) (x1 : Int) (Rv : Int → Prop) : Int × Int → Prop
  | (i0, i1) => headL E_crc_each_0fstep_p50 [.r, .d] b_crc_each_0fstep_p50 1000 (bodyK E_crc_each_0fstep_p50 Try.f39 (outH O_crc_each_0fstep_p50 OO_crc_each_0fstep_p50 fun ls => Rv (tup_crc_each_0fstep_p50 ls))) (st_crc_each_0fstep_p50_0 x0 x1 i0 i1)
set_option maxRecDepth 100000 in
theorem l_crc_each_0fstep_p50_0 (x0 : List AV) (x1 : Int) (Rv : Int → Prop) (i0 : Int) (i1 : Int) : stepL E_crc_each_0fstep_p50 [.r, .d] b_crc_each_0fstep_p50 1000 (bodyK E_crc_each_0fstep_p50 Try.f39 (outH O_crc_each_0fstep_p50 OO_crc_each_0fstep_p50 fun ls => Rv (tup_crc_each_0fstep_p50 ls))) (st_crc_each_0fstep_p50_0 x0 x1 i0 i1) =
  (M_crc_each_0fstep_p50 x0 x1 ((i0, i1))).fold False (Sum.elim (L_crc_each_0fstep_p50 x0 x1 Rv) Rv) := by kernel_rfl
set_option maxRecDepth 100000 in
theorem e_crc_each_0fstep_p50_0 (x0 : List AV) (x1 : Int) (Rv : Int → Prop) (i0 : Int) (i1 : Int) : L_crc_each_0fstep_p50 x0 x1 Rv ((i0, i1)) = headL E_crc_each_0fstep_p50 [.r, .d] b_crc_each_0fstep_p50 1000 (bodyK E_crc_each_0fstep_p50 Try.f39 (outH O_crc_each_0fstep_p50 OO_crc_each_0fstep_p50 fun ls => Rv (tup_crc_each_0fstep_p50 ls))) (st_crc_each_0fstep_p50_0 x0 x1 i0 i1) := by kernel_rfl
section
attribute [local irreducible] Tr.fold M_crc_each_0fstep_p50 L_crc_each_0fstep_p50 T_crc_each_0fstep_p50 E_crc_each_0fstep_p50 b_crc_each_0fstep_p50 bodyK headC headL stepC stepL wpX callA
set_option maxRecDepth 100000 in
theorem h_crc_each_0fstep_p50 (x0 : List AV) (x1 : Int) (Rv : Int → Prop) : ∀ s, (M_crc_each_0fstep_p50 x0 x1 s).fold False (Sum.elim (L_crc_each_0fstep_p50 x0 x1 Rv) Rv) → L_crc_each_0fstep_p50 x0 x1 Rv s := by
  rintro (⟨v0, v1⟩)
  · exact fun h => Eq.mpr (e_crc_each_0fstep_p50_0 x0 x1 Rv v0 v1) (headL_of (Eq.mpr (l_crc_each_0fstep_p50_0 x0 x1 Rv v0 v1) h))
set_option maxRecDepth 100000 in
theorem c_crc_each_0fstep_p50 (ls : List AV) (Rv : Int → Prop) : callA E_crc_each_0fstep_p50 Try.f39 (instL ls P_crc_each_0fstep_p50 0) (instH ls Q_crc_each_0fstep_p50 1) (outH O_crc_each_0fstep_p50 OO_crc_each_0fstep_p50 fun ls => Rv (tup_crc_each_0fstep_p50 ls)) = (T_crc_each_0fstep_p50 (getXs (ls.getD 0 .junk)) (getI (ls.getD 1 .junk))).fold False (Sum.elim (L_crc_each_0fstep_p50 (getXs (ls.getD 0 .junk)) (getI (ls.getD 1 .junk)) Rv) Rv) := by kernel_rfl
end
noncomputable def S_crc_each_0fstep_p50 : Go.Cx.Spec := heapS (patH P_crc_each_0fstep_p50 Q_crc_each_0fstep_p50 fun ls => opt (g_crc_each_0fstep_p50 (getXs (ls.getD 0 .junk)) (getI (ls.getD 1 .junk))) fun x => .r (res_crc_each_0fstep_p50 x))
set_option maxRecDepth 100000 in
theorem S_crc_each_0fstep_p50_ok : Sound Try.prog 39 S_crc_each_0fstep_p50 :=
  heap_mach (E := E_crc_each_0fstep_p50) (TblOK.enKB TYbG114t_ok _ _ _ _ _ _ _) mixed Try.func39 (c := Try.f39.body.getD .skip) (by kernel_rfl) (by kernel_rfl) (by decide) (by decide) (pats := P_crc_each_0fstep_p50) (ops := Q_crc_each_0fstep_p50) (OO := OO_crc_each_0fstep_p50) (O := O_crc_each_0fstep_p50) (tup := tup_crc_each_0fstep_p50) (res := res_crc_each_0fstep_p50) (g := fun ls => g_crc_each_0fstep_p50 (getXs (ls.getD 0 .junk)) (getI (ls.getD 1 .junk))) (T := fun ls => T_crc_each_0fstep_p50 (getXs (ls.getD 0 .junk)) (getI (ls.getD 1 .junk))) (step := fun ls => M_crc_each_0fstep_p50 (getXs (ls.getD 0 .junk)) (getI (ls.getD 1 .junk))) (L := fun ls => L_crc_each_0fstep_p50 (getXs (ls.getD 0 .junk)) (getI (ls.getD 1 .junk))) (fun _ => rfl) (fun ls => by kernel_rfl) c_crc_each_0fstep_p50 (fun ls Rv => h_crc_each_0fstep_p50 (getXs (ls.getD 0 .junk)) (getI (ls.getD 1 .junk)) Rv)

noncomputable def TYbG115t : FuncId → Option Go.Cx.Spec := addT TYbG114t 39 S_crc_each_0fstep_p50
theorem TYbG115t_ok : TblOK Try.prog TYbG115t := TYbG114t_ok.add S_crc_each_0fstep_p50_ok

/- comptoir/crc.Of -/
noncomputable def E_crc_Of : En := enK Try.prog TYbG115t [] [] [] [] 0
def P_crc_Of : List Pat := [.leaf (.slice 1 (.int .u8))]
def O_crc_Of : Pat := .leaf (.int .u32)
def tup_crc_Of : List AV → Int := fun ls => getI (ls.getD 0 .junk)
def res_crc_Of : Int → AV := fun x => .int .u32 (x)
noncomputable def T_crc_Of (x0 : List AV) : Tr (Int) := (opt (Go.Proofs.Ytaejmfmamhdlhaa.g_crc_each_0fstep_p50 x0 (4294967295 : Int)) fun (y0 : Int) => (.r (Go.Cx.bitsA Go.BinOp.xor Go.IntKind.u32 y0 (4294967295 : Int))))
noncomputable def g_crc_Of (x0 : List AV) : Option (Int) := (T_crc_Of x0).val
set_option maxRecDepth 100000 in
theorem c_crc_Of (ls : List AV) (Rv : Int → Prop) : callA E_crc_Of Try.f17 (instL ls P_crc_Of 0) [] (outP O_crc_Of fun ls => Rv (tup_crc_Of ls)) = (T_crc_Of (getXs (ls.getD 0 .junk))).fold False Rv := by kernel_rfl
noncomputable def S_crc_Of : Go.Cx.Spec := pureS (patF P_crc_Of fun ls => opt (g_crc_Of (getXs (ls.getD 0 .junk))) fun x => .r (res_crc_Of x))
set_option maxRecDepth 100000 in
theorem S_crc_Of_ok : Sound Try.prog 17 S_crc_Of :=
  pure_flat (E := E_crc_Of) (TblOK.enK TYbG115t_ok _ _ _ _ _) mixed rfl Try.func17 (c := Try.f17.body.getD .skip) (by kernel_rfl) (by kernel_rfl) (pats := P_crc_Of) (O := O_crc_Of) (tup := tup_crc_Of) (res := res_crc_Of) (g := fun ls => g_crc_Of (getXs (ls.getD 0 .junk))) (T := fun ls => T_crc_Of (getXs (ls.getD 0 .junk))) (fun _ => rfl) (fun ls => by kernel_rfl) c_crc_Of

noncomputable def TYbG116t : FuncId → Option Go.Cx.Spec := addT TYbG115t 17 S_crc_Of
theorem TYbG116t_ok : TblOK Try.prog TYbG116t := TYbG115t_ok.add S_crc_Of_ok

/- comptoir/crc.Seal -/
noncomputable def E_crc_Seal : En := enK Try.prog TYbG116t [] [] [] [] 0
def P_crc_Seal : List Pat := [.leaf (.slice 1 (.int .u8))]
def O_crc_Seal : Pat := .leaf (.slice 1 (.int .u8))
def tup_crc_Seal : List AV → List AV := fun ls => getXs (ls.getD 0 .junk)
def res_crc_Seal : List AV → AV := fun x => .slice 1 (.int .u8) (x) .ro
noncomputable def T_crc_Seal (x0 : List AV) : Tr (List AV) := (opt (Go.Proofs.Ytaejmfmamhdlhaa.g_crc_Of x0) fun (y0 : Int) => (opt (Go.Proofs.Ytaejmfmamhdlhaa.g_cursor_Put x0 (Go.IntKind.wrap Go.IntKind.u64 y0) (4 : Int)) fun (y1 : List Go.Cx.AV) => (.c (List.length y1 == List.length y1) (.r (y1)) .bad)))
noncomputable def g_crc_Seal (x0 : List AV) : Option (List AV) := (T_crc_Seal x0).val
set_option maxRecDepth 100000 in
theorem c_crc_Seal (ls : List AV) (Rv : List AV → Prop) : callA E_crc_Seal Try.f20 (instL ls P_crc_Seal 0) [] (outP O_crc_Seal fun ls => Rv (tup_crc_Seal ls)) = (T_crc_Seal (getXs (ls.getD 0 .junk))).fold False Rv := by kernel_rfl
noncomputable def S_crc_Seal : Go.Cx.Spec := pureS (patF P_crc_Seal fun ls => opt (g_crc_Seal (getXs (ls.getD 0 .junk))) fun x => .r (res_crc_Seal x))
set_option maxRecDepth 100000 in
theorem S_crc_Seal_ok : Sound Try.prog 20 S_crc_Seal :=
  pure_flat (E := E_crc_Seal) (TblOK.enK TYbG116t_ok _ _ _ _ _) mixed rfl Try.func20 (c := Try.f20.body.getD .skip) (by kernel_rfl) (by kernel_rfl) (pats := P_crc_Seal) (O := O_crc_Seal) (tup := tup_crc_Seal) (res := res_crc_Seal) (g := fun ls => g_crc_Seal (getXs (ls.getD 0 .junk))) (T := fun ls => T_crc_Seal (getXs (ls.getD 0 .junk))) (fun _ => rfl) (fun ls => by kernel_rfl) c_crc_Seal

noncomputable def TYbG117t : FuncId → Option Go.Cx.Spec := addT TYbG116t 20 S_crc_Seal
theorem TYbG117t_ok : TblOK Try.prog TYbG117t := TYbG116t_ok.add S_crc_Seal_ok

/- comptoir/journal.Record -/
noncomputable def E_journal_Record : En := enK Try.prog (addT TYbG117t 20 (frzAr S_crc_Seal)) [1000007] [] [] [] 0
def P_journal_Record : List Pat := [.leaf (.slice 1 (.int .u8))]
def O_journal_Record : Pat := .leaf (.slice 1 (.int .u8))
def tup_journal_Record : List AV → List AV := fun ls => getXs (ls.getD 0 .junk)
def res_journal_Record : List AV → AV := fun x => .slice 1 (.int .u8) (x) .ro
noncomputable def T_journal_Record (x0 : List AV) : Tr (List AV) := (opt (Go.Proofs.Ytaejmfmamhdlhaa.g_cursor_Put [] (Go.IntKind.wrap Go.IntKind.u64 (↑(List.length x0) : Int)) (4 : Int)) fun (y0 : List Go.Cx.AV) => (.c (List.length y0 == List.length y0) (opt (Go.Proofs.Ytaejmfmamhdlhaa.g_slices_Concat_byte_byte [Go.Cx.AV.slice (1 : Nat) (Go.Cx.Sh.int Go.IntKind.u8) y0 Go.Cx.SK.ro, Go.Cx.AV.slice (1 : Nat) (Go.Cx.Sh.int Go.IntKind.u8) x0 Go.Cx.SK.ro]) fun (y1 : List Go.Cx.AV) => (.c (Bool.true && List.length y1 == List.length y1) (opt (Go.Proofs.Ytaejmfmamhdlhaa.g_crc_Seal y1) fun (y2 : List Go.Cx.AV) => (.r (y2))) .bad)) .bad))
noncomputable def g_journal_Record (x0 : List AV) : Option (List AV) := (T_journal_Record x0).val
set_option maxRecDepth 100000 in
theorem c_journal_Record (ls : List AV) (Rv : List AV → Prop) : callA E_journal_Record Try.f33 (instL ls P_journal_Record 0) [] (outP O_journal_Record fun ls => Rv (tup_journal_Record ls)) = (T_journal_Record (getXs (ls.getD 0 .junk))).fold False Rv := by kernel_rfl
noncomputable def S_journal_Record : Go.Cx.Spec := pureS (patF P_journal_Record fun ls => opt (g_journal_Record (getXs (ls.getD 0 .junk))) fun x => .r (res_journal_Record x))
set_option maxRecDepth 100000 in
theorem S_journal_Record_ok : Sound Try.prog 33 S_journal_Record :=
  pure_flat (E := E_journal_Record) (TblOK.enK (TblOK.add TYbG117t_ok (Sound.frzAr S_crc_Seal_ok)) _ _ _ _ _) mixed rfl Try.func33 (c := Try.f33.body.getD .skip) (by kernel_rfl) (by kernel_rfl) (pats := P_journal_Record) (O := O_journal_Record) (tup := tup_journal_Record) (res := res_journal_Record) (g := fun ls => g_journal_Record (getXs (ls.getD 0 .junk))) (T := fun ls => T_journal_Record (getXs (ls.getD 0 .junk))) (fun _ => rfl) (fun ls => by kernel_rfl) c_journal_Record

noncomputable def TYbG118t : FuncId → Option Go.Cx.Spec := addT TYbG117t 33 S_journal_Record
theorem TYbG118t_ok : TblOK Try.prog TYbG118t := TYbG117t_ok.add S_journal_Record_ok

/- comptoir/cursor.New -/
noncomputable def E_cursor_New : En := enKB Try.prog TYbG118t [] [] [] [] 1 0 true
def P_cursor_New : List Pat := [.leaf (.slice 1 (.int .u8))]
def Q_cursor_New : List OPat := []
def O_cursor_New : Pat := .lit (.ptr 0 0)
def OO_cursor_New : List OPat := [.fix 76 [.leaf (.slice 1 (.int .u8)), .leaf (.int .i64)]]
def tup_cursor_New : List AV → List AV × Int := fun ls => (getXs (ls.getD 0 .junk), getI (ls.getD 1 .junk))
def res_cursor_New : List AV × Int → AV × List Ob := fun x => (.ptr 0 0, [.fix 76 [.slice 1 (.int .u8) (x.1) .ro, .int .i64 (x.2)]])
noncomputable def T_cursor_New (x0 : List AV) : Tr (List AV × Int) := (.c (Decidable.decide (List.length x0 * (2 : Nat) < (70368744177664 : Nat))) (.r ((x0, (0 : Int)))) .bad)
noncomputable def g_cursor_New (x0 : List AV) : Option (List AV × Int) := (T_cursor_New x0).val
set_option maxRecDepth 100000 in
theorem c_cursor_New (ls : List AV) (Rv : List AV × Int → Prop) : callA E_cursor_New Try.f35 (instL ls P_cursor_New 0) (instH ls Q_cursor_New 1) (outH O_cursor_New OO_cursor_New fun ls => Rv (tup_cursor_New ls)) = (T_cursor_New (getXs (ls.getD 0 .junk))).fold False Rv := by kernel_rfl
noncomputable def S_cursor_New : Go.Cx.Spec := heapS (patH P_cursor_New Q_cursor_New fun ls => opt (g_cursor_New (getXs (ls.getD 0 .junk))) fun x => .r (res_cursor_New x))
set_option maxRecDepth 100000 in
theorem S_cursor_New_ok : Sound Try.prog 35 S_cursor_New :=
  heap_flat (E := E_cursor_New) (TblOK.enKB TYbG118t_ok _ _ _ _ _ _ _) mixed Try.func35 (c := Try.f35.body.getD .skip) (by kernel_rfl) (by kernel_rfl) (by decide) (by decide) (pats := P_cursor_New) (ops := Q_cursor_New) (OO := OO_cursor_New) (O := O_cursor_New) (tup := tup_cursor_New) (res := res_cursor_New) (g := fun ls => g_cursor_New (getXs (ls.getD 0 .junk))) (T := fun ls => T_cursor_New (getXs (ls.getD 0 .junk))) (fun _ => rfl) (fun ls => by kernel_rfl) c_cursor_New

noncomputable def TYbG119t : FuncId → Option Go.Cx.Spec := addT TYbG118t 35 S_cursor_New
theorem TYbG119t_ok : TblOK Try.prog TYbG119t := TYbG118t_ok.add S_cursor_New_ok

/- (*comptoir/cursor.Cursor).Left -/
noncomputable def E_cursor_Cursor_Left_p : En := enK Try.prog TYbG119t [] [] [] [] 0
def P_cursor_Cursor_Left_p : List Pat := [.rptr [.leaf (.slice 1 (.int .u8)), .leaf (.int .i64)]]
def O_cursor_Cursor_Left_p : Pat := .leaf (.int .i64)
def tup_cursor_Cursor_Left_p : List AV → Int := fun ls => getI (ls.getD 0 .junk)
def res_cursor_Cursor_Left_p : Int → AV := fun x => .int .i64 (x)
noncomputable def T_cursor_Cursor_Left_p (x0 : List AV) (x1 : Int) : Tr (Int) := (.r (Go.IntKind.wrap Go.IntKind.i64 ((↑(List.length x0) : Int) - x1)))
noncomputable def g_cursor_Cursor_Left_p (x0 : List AV) (x1 : Int) : Option (Int) := (T_cursor_Cursor_Left_p x0 x1).val
set_option maxRecDepth 100000 in
theorem c_cursor_Cursor_Left_p (ls : List AV) (Rv : Int → Prop) : callA E_cursor_Cursor_Left_p Try.f56 (instL ls P_cursor_Cursor_Left_p 0) [] (outP O_cursor_Cursor_Left_p fun ls => Rv (tup_cursor_Cursor_Left_p ls)) = (T_cursor_Cursor_Left_p (getXs (ls.getD 0 .junk)) (getI (ls.getD 1 .junk))).fold False Rv := by kernel_rfl
noncomputable def S_cursor_Cursor_Left_p : Go.Cx.Spec := pureS (patF P_cursor_Cursor_Left_p fun ls => opt (g_cursor_Cursor_Left_p (getXs (ls.getD 0 .junk)) (getI (ls.getD 1 .junk))) fun x => .r (res_cursor_Cursor_Left_p x))
set_option maxRecDepth 100000 in
theorem S_cursor_Cursor_Left_p_ok : Sound Try.prog 56 S_cursor_Cursor_Left_p :=
  pure_flat (E := E_cursor_Cursor_Left_p) (TblOK.enK TYbG119t_ok _ _ _ _ _) mixed rfl Try.func56 (c := Try.f56.body.getD .skip) (by kernel_rfl) (by kernel_rfl) (pats := P_cursor_Cursor_Left_p) (O := O_cursor_Cursor_Left_p) (tup := tup_cursor_Cursor_Left_p) (res := res_cursor_Cursor_Left_p) (g := fun ls => g_cursor_Cursor_Left_p (getXs (ls.getD 0 .junk)) (getI (ls.getD 1 .junk))) (T := fun ls => T_cursor_Cursor_Left_p (getXs (ls.getD 0 .junk)) (getI (ls.getD 1 .junk))) (fun _ => rfl) (fun ls => by kernel_rfl) c_cursor_Cursor_Left_p

noncomputable def TYbG1110t : FuncId → Option Go.Cx.Spec := addT TYbG119t 56 S_cursor_Cursor_Left_p
theorem TYbG1110t_ok : TblOK Try.prog TYbG1110t := TYbG119t_ok.add S_cursor_Cursor_Left_p_ok

/- (*comptoir/cursor.Cursor).take -/
noncomputable def E_cursor_Cursor_take_p0500 : En := enKB Try.prog TYbG1110t [] [] [] [] 1 1 true
def P_cursor_Cursor_take_p0500 : List Pat := [.lit (.ptr 0 0), .leaf (.int .i64)]
def Q_cursor_Cursor_take_p0500 : List OPat := [.fix 76 [.leaf (.slice 1 (.int .u8)), .leaf (.int .i64)]]
def O_cursor_Cursor_take_p0500 : Pat := .tuple [.leaf (.slice 1 (.int .u8)), .leaf (.int .i64)]
def OO_cursor_Cursor_take_p0500 : List OPat := [.fix 76 [.leaf (.slice 1 (.int .u8)), .leaf (.int .i64)]]
def tup_cursor_Cursor_take_p0500 : List AV → List AV × Int × List AV × Int := fun ls => (getXs (ls.getD 0 .junk), getI (ls.getD 1 .junk), getXs (ls.getD 2 .junk), getI (ls.getD 3 .junk))
def res_cursor_Cursor_take_p0500 : List AV × Int × List AV × Int → AV × List Ob := fun x => (.tuple [.slice 1 (.int .u8) (x.1) .ro, .int .i64 (x.2.1)], [.fix 76 [.slice 1 (.int .u8) (x.2.2.1) .ro, .int .i64 (x.2.2.2)]])
noncomputable def T_cursor_Cursor_take_p0500 (x0 : Int) (x1 : List AV) (x2 : Int) : Tr (List AV × Int × List AV × Int) := (.c (Decidable.decide (x0 < (0 : Int))) (.r (([], (1 : Int), x1, x2))) (.c (Decidable.decide (x0 > Go.IntKind.wrap Go.IntKind.i64 ((↑(List.length x1) : Int) - x2))) (.r (([], (3 : Int), x1, x2))) (.c (Decidable.decide ((0 : Int) ≤ Go.IntKind.wrap Go.IntKind.i64 (x2 + x0))) (.c (Decidable.decide (Go.IntKind.wrap Go.IntKind.i64 (x2 + x0) ≤ (↑(List.length x1) : Int))) (.c (Decidable.decide ((0 : Int) ≤ Go.IntKind.wrap Go.IntKind.i64 (Go.IntKind.wrap Go.IntKind.i64 (x2 + x0) - x0))) (.c (Decidable.decide (Go.IntKind.wrap Go.IntKind.i64 (Go.IntKind.wrap Go.IntKind.i64 (x2 + x0) - x0) ≤ Go.IntKind.wrap Go.IntKind.i64 (x2 + x0))) (.r ((List.drop (Int.toNat (Go.IntKind.wrap Go.IntKind.i64 (Go.IntKind.wrap Go.IntKind.i64 (x2 + x0) - x0))) (List.take (Int.toNat (Go.IntKind.wrap Go.IntKind.i64 (x2 + x0))) x1), (0 : Int), x1, Go.IntKind.wrap Go.IntKind.i64 (x2 + x0)))) .bad) .bad) .bad) .bad)))
noncomputable def g_cursor_Cursor_take_p0500 (x0 : Int) (x1 : List AV) (x2 : Int) : Option (List AV × Int × List AV × Int) := (T_cursor_Cursor_take_p0500 x0 x1 x2).val
set_option maxRecDepth 100000 in
theorem c_cursor_Cursor_take_p0500 (ls : List AV) (Rv : List AV × Int × List AV × Int → Prop) : callA E_cursor_Cursor_take_p0500 Try.f51 (instL ls P_cursor_Cursor_take_p0500 0) (instH ls Q_cursor_Cursor_take_p0500 1) (outH O_cursor_Cursor_take_p0500 OO_cursor_Cursor_take_p0500 fun ls => Rv (tup_cursor_Cursor_take_p0500 ls)) = (T_cursor_Cursor_take_p0500 (getI (ls.getD 0 .junk)) (getXs (ls.getD 1 .junk)) (getI (ls.getD 2 .junk))).fold False Rv := by kernel_rfl
noncomputable def S_cursor_Cursor_take_p0500 : Go.Cx.Spec := heapS (patH P_cursor_Cursor_take_p0500 Q_cursor_Cursor_take_p0500 fun ls => opt (g_cursor_Cursor_take_p0500 (getI (ls.getD 0 .junk)) (getXs (ls.getD 1 .junk)) (getI (ls.getD 2 .junk))) fun x => .r (res_cursor_Cursor_take_p0500 x))
set_option maxRecDepth 100000 in
theorem S_cursor_Cursor_take_p0500_ok : Sound Try.prog 51 S_cursor_Cursor_take_p0500 :=
  heap_flat (E := E_cursor_Cursor_take_p0500) (TblOK.enKB TYbG1110t_ok _ _ _ _ _ _ _) mixed Try.func51 (c := Try.f51.body.getD .skip) (by kernel_rfl) (by kernel_rfl) (by decide) (by decide) (pats := P_cursor_Cursor_take_p0500) (ops := Q_cursor_Cursor_take_p0500) (OO := OO_cursor_Cursor_take_p0500) (O := O_cursor_Cursor_take_p0500) (tup := tup_cursor_Cursor_take_p0500) (res := res_cursor_Cursor_take_p0500) (g := fun ls => g_cursor_Cursor_take_p0500 (getI (ls.getD 0 .junk)) (getXs (ls.getD 1 .junk)) (getI (ls.getD 2 .junk))) (T := fun ls => T_cursor_Cursor_take_p0500 (getI (ls.getD 0 .junk)) (getXs (ls.getD 1 .junk)) (getI (ls.getD 2 .junk))) (fun _ => rfl) (fun ls => by kernel_rfl) c_cursor_Cursor_take_p0500

noncomputable def TYbG1111t : FuncId → Option Go.Cx.Spec := addT TYbG1110t 51 S_cursor_Cursor_take_p0500
theorem TYbG1111t_ok : TblOK Try.prog TYbG1111t := TYbG1110t_ok.add S_cursor_Cursor_take_p0500_ok

/- comptoir/cursor.read -/
noncomputable def E_cursor_read_ftake_0p500 : En := enKB Try.prog TYbG1111t [] [] [] [] 1 1 true
def P_cursor_read_ftake_0p500 : List Pat := [.func 51 [.lit (.ptr 0 0)] [], .leaf (.int .i64)]
def Q_cursor_read_ftake_0p500 : List OPat := [.fix 76 [.leaf (.slice 1 (.int .u8)), .leaf (.int .i64)]]
def O_cursor_read_ftake_0p500 : Pat := .tuple [.leaf (.slice 1 (.int .u8)), .leaf (.int .i64)]
def OO_cursor_read_ftake_0p500 : List OPat := [.fix 76 [.leaf (.slice 1 (.int .u8)), .leaf (.int .i64)]]
def tup_cursor_read_ftake_0p500 : List AV → List AV × Int × List AV × Int := fun ls => (getXs (ls.getD 0 .junk), getI (ls.getD 1 .junk), getXs (ls.getD 2 .junk), getI (ls.getD 3 .junk))
def res_cursor_read_ftake_0p500 : List AV × Int × List AV × Int → AV × List Ob := fun x => (.tuple [.slice 1 (.int .u8) (x.1) .ro, .int .i64 (x.2.1)], [.fix 76 [.slice 1 (.int .u8) (x.2.2.1) .ro, .int .i64 (x.2.2.2)]])
noncomputable def T_cursor_read_ftake_0p500 (x0 : Int) (x1 : List AV) (x2 : Int) : Tr (List AV × Int × List AV × Int) := (opt (Go.Proofs.Ytaejmfmamhdlhaa.g_cursor_Cursor_take_p0500 x0 x1 x2) fun (y0 : List Go.Cx.AV × Int × List Go.Cx.AV × Int) => (.r ((Prod.fst y0, Prod.fst (Prod.snd y0), Prod.fst (Prod.snd (Prod.snd y0)), Prod.snd (Prod.snd (Prod.snd y0))))))
noncomputable def g_cursor_read_ftake_0p500 (x0 : Int) (x1 : List AV) (x2 : Int) : Option (List AV × Int × List AV × Int) := (T_cursor_read_ftake_0p500 x0 x1 x2).val
set_option maxRecDepth 100000 in
theorem c_cursor_read_ftake_0p500 (ls : List AV) (Rv : List AV × Int × List AV × Int → Prop) : callA E_cursor_read_ftake_0p500 Try.f50 (instL ls P_cursor_read_ftake_0p500 0) (instH ls Q_cursor_read_ftake_0p500 1) (outH O_cursor_read_ftake_0p500 OO_cursor_read_ftake_0p500 fun ls => Rv (tup_cursor_read_ftake_0p500 ls)) = (T_cursor_read_ftake_0p500 (getI (ls.getD 0 .junk)) (getXs (ls.getD 1 .junk)) (getI (ls.getD 2 .junk))).fold False Rv := by kernel_rfl
noncomputable def S_cursor_read_ftake_0p500 : Go.Cx.Spec := heapS (patH P_cursor_read_ftake_0p500 Q_cursor_read_ftake_0p500 fun ls => opt (g_cursor_read_ftake_0p500 (getI (ls.getD 0 .junk)) (getXs (ls.getD 1 .junk)) (getI (ls.getD 2 .junk))) fun x => .r (res_cursor_read_ftake_0p500 x))
set_option maxRecDepth 100000 in
theorem S_cursor_read_ftake_0p500_ok : Sound Try.prog 50 S_cursor_read_ftake_0p500 :=
  heap_flat (E := E_cursor_read_ftake_0p500) (TblOK.enKB TYbG1111t_ok _ _ _ _ _ _ _) mixed Try.func50 (c := Try.f50.body.getD .skip) (by kernel_rfl) (by kernel_rfl) (by decide) (by decide) (pats := P_cursor_read_ftake_0p500) (ops := Q_cursor_read_ftake_0p500) (OO := OO_cursor_read_ftake_0p500) (O := O_cursor_read_ftake_0p500) (tup := tup_cursor_read_ftake_0p500) (res := res_cursor_read_ftake_0p500) (g := fun ls => g_cursor_read_ftake_0p500 (getI (ls.getD 0 .junk)) (getXs (ls.getD 1 .junk)) (getI (ls.getD 2 .junk))) (T := fun ls => T_cursor_read_ftake_0p500 (getI (ls.getD 0 .junk)) (getXs (ls.getD 1 .junk)) (getI (ls.getD 2 .junk))) (fun _ => rfl) (fun ls => by kernel_rfl) c_cursor_read_ftake_0p500

noncomputable def TYbG1112t : FuncId → Option Go.Cx.Spec := addT TYbG1111t 50 S_cursor_read_ftake_0p500
theorem TYbG1112t_ok : TblOK Try.prog TYbG1112t := TYbG1111t_ok.add S_cursor_read_ftake_0p500_ok

/- (*comptoir/cursor.Cursor).Number -/
noncomputable def E_cursor_Cursor_Number_p0500 : En := enKB Try.prog TYbG1112t [] [(8, ⟨[0, 1, 2, 3, 4, 5, 6, 9, 10, 11, 12, 13, 14, 15, 16, 17, 18, 19, 20, 21, 22, 23, 24, 25, 26, 27, 31, 32, 33, 34, 35, 36, 37, 38, 39, 40, 41], [], [], none, [], [], [], [], true⟩)] [] [] 1 1 true
def P_cursor_Cursor_Number_p0500 : List Pat := [.lit (.ptr 0 0), .leaf (.int .i64)]
def Q_cursor_Cursor_Number_p0500 : List OPat := [.fix 76 [.leaf (.slice 1 (.int .u8)), .leaf (.int .i64)]]
def O_cursor_Cursor_Number_p0500 : Pat := .tuple [.leaf (.int .u64), .leaf (.int .i64)]
def OO_cursor_Cursor_Number_p0500 : List OPat := [.fix 76 [.leaf (.slice 1 (.int .u8)), .leaf (.int .i64)]]
def tup_cursor_Cursor_Number_p0500 : List AV → Int × Int × List AV × Int := fun ls => (getI (ls.getD 0 .junk), getI (ls.getD 1 .junk), getXs (ls.getD 2 .junk), getI (ls.getD 3 .junk))
def res_cursor_Cursor_Number_p0500 : Int × Int × List AV × Int → AV × List Ob := fun x => (.tuple [.int .u64 (x.1), .int .i64 (x.2.1)], [.fix 76 [.slice 1 (.int .u8) (x.2.2.1) .ro, .int .i64 (x.2.2.2)]])
noncomputable def T_cursor_Cursor_Number_p0500 (x0 : Int) (x1 : List AV) (x2 : Int) : Tr ((Int × List AV × Int × List AV × Int × Int × Int) ⊕ (Int × Int × List AV × Int)) := (.c (Decidable.decide (x0 < (1 : Int))) (.r (.inr (((0 : Int), (1 : Int), x1, x2)))) (.c (Decidable.decide (x0 > (8 : Int))) (.r (.inr (((0 : Int), (1 : Int), x1, x2)))) (opt (Go.Proofs.Ytaejmfmamhdlhaa.g_cursor_read_ftake_0p500 x0 x1 x2) fun (y0 : List Go.Cx.AV × Int × List Go.Cx.AV × Int) => (.r (.inl ((Prod.fst (Prod.snd y0), Prod.fst y0, (↑(List.length (Prod.fst y0)) : Int), Prod.fst (Prod.snd (Prod.snd y0)), Prod.snd (Prod.snd (Prod.snd y0)), (0 : Int), (0 : Int))))))))
noncomputable def M_cursor_Cursor_Number_p0500 (x0 : Int) (x1 : List AV) (x2 : Int) : Int × List AV × Int × List AV × Int × Int × Int → Tr ((Int × List AV × Int × List AV × Int × Int × Int) ⊕ (Int × Int × List AV × Int))
  | (i0, l0, i1, l1, i2, i3, i4) => (.c (Decidable.decide (i4 < i1)) (.c (Decidable.decide ((0 : Int) ≤ i4)) (.c (Decidable.decide (i4 < (↑(List.length l0) : Int))) (.r (.inl ((i0, l0, i1, l1, i2, Go.Cx.bitsA Go.BinOp.or Go.IntKind.u64 (Go.Cx.shlA Go.IntKind.u64 i3 (8 : Int)) (Go.IntKind.wrap Go.IntKind.u64 (Go.Cx.getI (List.getD l0 (Int.toNat i4) (Go.Cx.AV.int Go.IntKind.u8 (0 : Int))))), Go.IntKind.wrap Go.IntKind.i64 (i4 + (1 : Int)))))) .bad) .bad) (.r (.inr ((i3, i0, l1, i2)))))
noncomputable def g_cursor_Cursor_Number_p0500 (x0 : Int) (x1 : List AV) (x2 : Int) : Option (Int × Int × List AV × Int) := run (M_cursor_Cursor_Number_p0500 x0 x1 x2) (T_cursor_Cursor_Number_p0500 x0 x1 x2)
noncomputable def b_cursor_Cursor_Number_p0500 := Try.f37.body.getD .skip
noncomputable def st_cursor_Cursor_Number_p0500_0 (x0 : Int) (x1 : List AV) (x2 : Int) (i0 : Int) (l0 : List AV) (i1 : Int) (l1 : List AV) (i2 : Int) (i3 : Int) (i4 : Int) : St := ⟨frOf 0 42 [(7, Go.Cx.AV.int Go.IntKind.i64 i0), (8, Go.Cx.AV.int Go.IntKind.u64 i3), (28, Go.Cx.AV.slice (1 : Nat) (Go.Cx.Sh.int Go.IntKind.u8) l0 Go.Cx.SK.ro), (29, Go.Cx.AV.int Go.IntKind.i64 i1), (30, Go.Cx.AV.int Go.IntKind.i64 i4)], [Go.Cx.Ob.fix (76 : Nat) [Go.Cx.AV.slice (1 : Nat) (Go.Cx.Sh.int Go.IntKind.u8) l1 Go.Cx.SK.ro, Go.Cx.AV.int Go.IntKind.i64 i2]]⟩
noncomputable def L_cursor_Cursor_Number_p0500 (x0 : Int) (x1 : List AV) (x2 : Int) (Rv : Int × Int × List AV × Int → Prop) : Int × List AV × Int × List AV × Int × Int × Int → Prop
  | (i0, l0, i1, l1, i2, i3, i4) => headL E_cursor_Cursor_Number_p0500 [.r, .r, .r, .r, .l, .r, .d] b_cursor_Cursor_Number_p0500 1000 (bodyK E_cursor_Cursor_Number_p0500 Try.f37 (outH O_cursor_Cursor_Number_p0500 OO_cursor_Cursor_Number_p0500 fun ls => Rv (tup_cursor_Cursor_Number_p0500 ls))) (st_cursor_Cursor_Number_p0500_0 x0 x1 x2 i0 l0 i1 l1 i2 i3 i4)
set_option maxRecDepth 100000 in
theorem l_cursor_Cursor_Number_p0500_0 (x0 : Int) (x1 : List AV) (x2 : Int) (Rv : Int × Int × List AV × Int → Prop) (i0 : Int) (l0 : List AV) (i1 : Int) (l1 : List AV) (i2 : Int) (i3 : Int) (i4 : Int) : stepL E_cursor_Cursor_Number_p0500 [.r, .r, .r, .r, .l, .r, .d] b_cursor_Cursor_Number_p0500 1000 (bodyK E_cursor_Cursor_Number_p0500 Try.f37 (outH O_cursor_Cursor_Number_p0500 OO_cursor_Cursor_Number_p0500 fun ls => Rv (tup_cursor_Cursor_Number_p0500 ls))) (st_cursor_Cursor_Number_p0500_0 x0 x1 x2 i0 l0 i1 l1 i2 i3 i4) =
  (M_cursor_Cursor_Number_p0500 x0 x1 x2 ((i0, l0, i1, l1, i2, i3, i4))).fold False (Sum.elim (L_cursor_Cursor_Number_p0500 x0 x1 x2 Rv) Rv) := by kernel_rfl
set_option maxRecDepth 100000 in
theorem e_cursor_Cursor_Number_p0500_0 (x0 : Int) (x1 : List AV) (x2 : Int) (Rv : Int × Int × List AV × Int → Prop) (i0 : Int) (l0 : List AV) (i1 : Int) (l1 : List AV) (i2 : Int) (i3 : Int) (i4 : Int) : L_cursor_Cursor_Number_p0500 x0 x1 x2 Rv ((i0, l0, i1, l1, i2, i3, i4)) = headL E_cursor_Cursor_Number_p0500 [.r, .r, .r, .r, .l, .r, .d] b_cursor_Cursor_Number_p0500 1000 (bodyK E_cursor_Cursor_Number_p0500 Try.f37 (outH O_cursor_Cursor_Number_p0500 OO_cursor_Cursor_Number_p0500 fun ls => Rv (tup_cursor_Cursor_Number_p0500 ls))) (st_cursor_Cursor_Number_p0500_0 x0 x1 x2 i0 l0 i1 l1 i2 i3 i4) := by kernel_rfl
section
attribute [local irreducible] Tr.fold M_cursor_Cursor_Number_p0500 L_cursor_Cursor_Number_p0500 T_cursor_Cursor_Number_p0500 E_cursor_Cursor_Number_p0500 b_cursor_Cursor_Number_p0500 bodyK headC headL stepC stepL wpX callA
set_option maxRecDepth 100000 in
theorem h_cursor_Cursor_Number_p0500 (x0 : Int) (x1 : List AV) (x2 : Int) (Rv : Int × Int × List AV × Int → Prop) : ∀ s, (M_cursor_Cursor_Number_p0500 x0 x1 x2 s).fold False (Sum.elim (L_cursor_Cursor_Number_p0500 x0 x1 x2 Rv) Rv) → L_cursor_Cursor_Number_p0500 x0 x1 x2 Rv s := by
  rintro (⟨v0, v1, v2, v3, v4, v5, v6⟩)
  · exact fun h => Eq.mpr (e_cursor_Cursor_Number_p0500_0 x0 x1 x2 Rv v0 v1 v2 v3 v4 v5 v6) (headL_of (Eq.mpr (l_cursor_Cursor_Number_p0500_0 x0 x1 x2 Rv v0 v1 v2 v3 v4 v5 v6) h))
set_option maxRecDepth 100000 in
theorem c_cursor_Cursor_Number_p0500 (ls : List AV) (Rv : Int × Int × List AV × Int → Prop) : callA E_cursor_Cursor_Number_p0500 Try.f37 (instL ls P_cursor_Cursor_Number_p0500 0) (instH ls Q_cursor_Cursor_Number_p0500 1) (outH O_cursor_Cursor_Number_p0500 OO_cursor_Cursor_Number_p0500 fun ls => Rv (tup_cursor_Cursor_Number_p0500 ls)) = (T_cursor_Cursor_Number_p0500 (getI (ls.getD 0 .junk)) (getXs (ls.getD 1 .junk)) (getI (ls.getD 2 .junk))).fold False (Sum.elim (L_cursor_Cursor_Number_p0500 (getI (ls.getD 0 .junk)) (getXs (ls.getD 1 .junk)) (getI (ls.getD 2 .junk)) Rv) Rv) := by kernel_rfl
end
noncomputable def S_cursor_Cursor_Number_p0500 : Go.Cx.Spec := heapS (patH P_cursor_Cursor_Number_p0500 Q_cursor_Cursor_Number_p0500 fun ls => opt (g_cursor_Cursor_Number_p0500 (getI (ls.getD 0 .junk)) (getXs (ls.getD 1 .junk)) (getI (ls.getD 2 .junk))) fun x => .r (res_cursor_Cursor_Number_p0500 x))
set_option maxRecDepth 100000 in
theorem S_cursor_Cursor_Number_p0500_ok : Sound Try.prog 37 S_cursor_Cursor_Number_p0500 :=
  heap_mach (E := E_cursor_Cursor_Number_p0500) (TblOK.enKB TYbG1112t_ok _ _ _ _ _ _ _) mixed Try.func37 (c := Try.f37.body.getD .skip) (by kernel_rfl) (by kernel_rfl) (by decide) (by decide) (pats := P_cursor_Cursor_Number_p0500) (ops := Q_cursor_Cursor_Number_p0500) (OO := OO_cursor_Cursor_Number_p0500) (O := O_cursor_Cursor_Number_p0500) (tup := tup_cursor_Cursor_Number_p0500) (res := res_cursor_Cursor_Number_p0500) (g := fun ls => g_cursor_Cursor_Number_p0500 (getI (ls.getD 0 .junk)) (getXs (ls.getD 1 .junk)) (getI (ls.getD 2 .junk))) (T := fun ls => T_cursor_Cursor_Number_p0500 (getI (ls.getD 0 .junk)) (getXs (ls.getD 1 .junk)) (getI (ls.getD 2 .junk))) (step := fun ls => M_cursor_Cursor_Number_p0500 (getI (ls.getD 0 .junk)) (getXs (ls.getD 1 .junk)) (getI (ls.getD 2 .junk))) (L := fun ls => L_cursor_Cursor_Number_p0500 (getI (ls.getD 0 .junk)) (getXs (ls.getD 1 .junk)) (getI (ls.getD 2 .junk))) (fun _ => rfl) (fun ls => by kernel_rfl) c_cursor_Cursor_Number_p0500 (fun ls Rv => h_cursor_Cursor_Number_p0500 (getI (ls.getD 0 .junk)) (getXs (ls.getD 1 .junk)) (getI (ls.getD 2 .junk)) Rv)

noncomputable def TYbG1113t : FuncId → Option Go.Cx.Spec := addT TYbG1112t 37 S_cursor_Cursor_Number_p0500
theorem TYbG1113t_ok : TblOK Try.prog TYbG1113t := TYbG1112t_ok.add S_cursor_Cursor_Number_p0500_ok

/- (*comptoir/cursor.Cursor).Take -/
noncomputable def E_cursor_Cursor_Take_p0500 : En := enKB Try.prog TYbG1113t [] [] [] [] 1 1 true
def P_cursor_Cursor_Take_p0500 : List Pat := [.lit (.ptr 0 0), .leaf (.int .i64)]
def Q_cursor_Cursor_Take_p0500 : List OPat := [.fix 76 [.leaf (.slice 1 (.int .u8)), .leaf (.int .i64)]]
def O_cursor_Cursor_Take_p0500 : Pat := .tuple [.leaf (.slice 1 (.int .u8)), .leaf (.int .i64)]
def OO_cursor_Cursor_Take_p0500 : List OPat := [.fix 76 [.leaf (.slice 1 (.int .u8)), .leaf (.int .i64)]]
def tup_cursor_Cursor_Take_p0500 : List AV → List AV × Int × List AV × Int := fun ls => (getXs (ls.getD 0 .junk), getI (ls.getD 1 .junk), getXs (ls.getD 2 .junk), getI (ls.getD 3 .junk))
def res_cursor_Cursor_Take_p0500 : List AV × Int × List AV × Int → AV × List Ob := fun x => (.tuple [.slice 1 (.int .u8) (x.1) .ro, .int .i64 (x.2.1)], [.fix 76 [.slice 1 (.int .u8) (x.2.2.1) .ro, .int .i64 (x.2.2.2)]])
noncomputable def T_cursor_Cursor_Take_p0500 (x0 : Int) (x1 : List AV) (x2 : Int) : Tr (List AV × Int × List AV × Int) := (opt (Go.Proofs.Ytaejmfmamhdlhaa.g_cursor_read_ftake_0p500 x0 x1 x2) fun (y0 : List Go.Cx.AV × Int × List Go.Cx.AV × Int) => (.c (Decidable.decide (List.length (Prod.fst y0) * (2 : Nat) < (70368744177664 : Nat))) (.r ((Prod.fst y0, Prod.fst (Prod.snd y0), Prod.fst (Prod.snd (Prod.snd y0)), Prod.snd (Prod.snd (Prod.snd y0))))) .bad))
noncomputable def g_cursor_Cursor_Take_p0500 (x0 : Int) (x1 : List AV) (x2 : Int) : Option (List AV × Int × List AV × Int) := (T_cursor_Cursor_Take_p0500 x0 x1 x2).val
set_option maxRecDepth 100000 in
theorem c_cursor_Cursor_Take_p0500 (ls : List AV) (Rv : List AV × Int × List AV × Int → Prop) : callA E_cursor_Cursor_Take_p0500 Try.f36 (instL ls P_cursor_Cursor_Take_p0500 0) (instH ls Q_cursor_Cursor_Take_p0500 1) (outH O_cursor_Cursor_Take_p0500 OO_cursor_Cursor_Take_p0500 fun ls => Rv (tup_cursor_Cursor_Take_p0500 ls)) = (T_cursor_Cursor_Take_p0500 (getI (ls.getD 0 .junk)) (getXs (ls.getD 1 .junk)) (getI (ls.getD 2 .junk))).fold False Rv := by kernel_rfl
noncomputable def S_cursor_Cursor_Take_p0500 : Go.Cx.Spec := heapS (patH P_cursor_Cursor_Take_p0500 Q_cursor_Cursor_Take_p0500 fun ls => opt (g_cursor_Cursor_Take_p0500 (getI (ls.getD 0 .junk)) (getXs (ls.getD 1 .junk)) (getI (ls.getD 2 .junk))) fun x => .r (res_cursor_Cursor_Take_p0500 x))
set_option maxRecDepth 100000 in
theorem S_cursor_Cursor_Take_p0500_ok : Sound Try.prog 36 S_cursor_Cursor_Take_p0500 :=
  heap_flat (E := E_cursor_Cursor_Take_p0500) (TblOK.enKB TYbG1113t_ok _ _ _ _ _ _ _) mixed Try.func36 (c := Try.f36.body.getD .skip) (by kernel_rfl) (by kernel_rfl) (by decide) (by decide) (pats := P_cursor_Cursor_Take_p0500) (ops := Q_cursor_Cursor_Take_p0500) (OO := OO_cursor_Cursor_Take_p0500) (O := O_cursor_Cursor_Take_p0500) (tup := tup_cursor_Cursor_Take_p0500) (res := res_cursor_Cursor_Take_p0500) (g := fun ls => g_cursor_Cursor_Take_p0500 (getI (ls.getD 0 .junk)) (getXs (ls.getD 1 .junk)) (getI (ls.getD 2 .junk))) (T := fun ls => T_cursor_Cursor_Take_p0500 (getI (ls.getD 0 .junk)) (getXs (ls.getD 1 .junk)) (getI (ls.getD 2 .junk))) (fun _ => rfl) (fun ls => by kernel_rfl) c_cursor_Cursor_Take_p0500

noncomputable def TYbG1114t : FuncId → Option Go.Cx.Spec := addT TYbG1113t 36 S_cursor_Cursor_Take_p0500
theorem TYbG1114t_ok : TblOK Try.prog TYbG1114t := TYbG1113t_ok.add S_cursor_Cursor_Take_p0500_ok

/- comptoir/crc.Open -/
noncomputable def E_crc_Open : En := enK Try.prog TYbG1114t [] [] [] [] 0
def P_crc_Open : List Pat := [.leaf (.slice 1 (.int .u8))]
def O_crc_Open : Pat := .tuple [.leaf (.slice 1 (.int .u8)), .leaf (.int .i64)]
def tup_crc_Open : List AV → List AV × Int := fun ls => (getXs (ls.getD 0 .junk), getI (ls.getD 1 .junk))
def res_crc_Open : List AV × Int → AV := fun x => .tuple [.slice 1 (.int .u8) (x.1) .ro, .int .i64 (x.2)]
noncomputable def T_crc_Open (x0 : List AV) : Tr (List AV × Int) := (opt (Go.Proofs.Ytaejmfmamhdlhaa.g_cursor_New x0) fun (y0 : List Go.Cx.AV × Int) => (opt (Go.Proofs.Ytaejmfmamhdlhaa.g_cursor_Cursor_Take_p0500 (if (0 : Int) > Go.IntKind.wrap Go.IntKind.i64 ((↑(List.length x0) : Int) - (4 : Int)) then (0 : Int) else Go.IntKind.wrap Go.IntKind.i64 ((↑(List.length x0) : Int) - (4 : Int))) (Prod.fst y0) (Prod.snd y0)) fun (y1 : List Go.Cx.AV × Int × List Go.Cx.AV × Int) => (.c (Prod.fst (Prod.snd y1) != (0 : Int)) (.r (([], Prod.fst (Prod.snd y1)))) (opt (Go.Proofs.Ytaejmfmamhdlhaa.g_cursor_Cursor_Number_p0500 (4 : Int) (Prod.fst (Prod.snd (Prod.snd y1))) (Prod.snd (Prod.snd (Prod.snd y1)))) fun (y2 : Int × Int × List Go.Cx.AV × Int) => (.c (Prod.fst (Prod.snd y2) != (0 : Int)) (.r (([], Prod.fst (Prod.snd y2)))) (opt (Go.Proofs.Ytaejmfmamhdlhaa.g_crc_Of (Prod.fst y1)) fun (y3 : Int) => (.c (Go.IntKind.wrap Go.IntKind.u32 (Prod.fst y2) != y3) (.r (([], (8 : Int)))) (.r ((Prod.fst y1, (0 : Int)))))))))))
noncomputable def g_crc_Open (x0 : List AV) : Option (List AV × Int) := (T_crc_Open x0).val
set_option maxRecDepth 100000 in
theorem c_crc_Open (ls : List AV) (Rv : List AV × Int → Prop) : callA E_crc_Open Try.f15 (instL ls P_crc_Open 0) [] (outP O_crc_Open fun ls => Rv (tup_crc_Open ls)) = (T_crc_Open (getXs (ls.getD 0 .junk))).fold False Rv := by kernel_rfl
noncomputable def S_crc_Open : Go.Cx.Spec := pureS (patF P_crc_Open fun ls => opt (g_crc_Open (getXs (ls.getD 0 .junk))) fun x => .r (res_crc_Open x))
set_option maxRecDepth 100000 in
theorem S_crc_Open_ok : Sound Try.prog 15 S_crc_Open :=
  pure_flat (E := E_crc_Open) (TblOK.enK TYbG1114t_ok _ _ _ _ _) mixed rfl Try.func15 (c := Try.f15.body.getD .skip) (by kernel_rfl) (by kernel_rfl) (pats := P_crc_Open) (O := O_crc_Open) (tup := tup_crc_Open) (res := res_crc_Open) (g := fun ls => g_crc_Open (getXs (ls.getD 0 .junk))) (T := fun ls => T_crc_Open (getXs (ls.getD 0 .junk))) (fun _ => rfl) (fun ls => by kernel_rfl) c_crc_Open

noncomputable def TYbG1115t : FuncId → Option Go.Cx.Spec := addT TYbG1114t 15 S_crc_Open
theorem TYbG1115t_ok : TblOK Try.prog TYbG1115t := TYbG1114t_ok.add S_crc_Open_ok

/- (*comptoir/journal.walk).next -/
noncomputable def E_journal_walk_next_p50 : En := enKB Try.prog TYbG1115t [] [] [] [] 1 1 true
def P_journal_walk_next_p50 : List Pat := [.lit (.ptr 0 0)]
def Q_journal_walk_next_p50 : List OPat := [.fix 74 [.leaf (.slice 1 (.int .u8))]]
def O_journal_walk_next_p50 : Pat := .tuple [.leaf (.slice 1 (.int .u8)), .leaf .bool]
def OO_journal_walk_next_p50 : List OPat := [.fix 74 [.leaf (.slice 1 (.int .u8))]]
def tup_journal_walk_next_p50 : List AV → List AV × Bool × List AV := fun ls => (getXs (ls.getD 0 .junk), getB (ls.getD 1 .junk), getXs (ls.getD 2 .junk))
def res_journal_walk_next_p50 : List AV × Bool × List AV → AV × List Ob := fun x => (.tuple [.slice 1 (.int .u8) (x.1) .ro, .bool (x.2.1)], [.fix 74 [.slice 1 (.int .u8) (x.2.2) .ro]])
noncomputable def T_journal_walk_next_p50 (x0 : List AV) : Tr (List AV × Bool × List AV) := (opt (Go.Proofs.Ytaejmfmamhdlhaa.g_cursor_New x0) fun (y0 : List Go.Cx.AV × Int) => (opt (Go.Proofs.Ytaejmfmamhdlhaa.g_cursor_Cursor_Number_p0500 (4 : Int) (Prod.fst y0) (Prod.snd y0)) fun (y1 : Int × Int × List Go.Cx.AV × Int) => (.c (Prod.fst (Prod.snd y1) != (0 : Int)) (.r (([], Bool.false, x0))) (.c (Decidable.decide (Prod.fst y1 > Go.IntKind.wrap Go.IntKind.u64 (↑(List.length x0) : Int))) (.r (([], Bool.false, x0))) (.c (Decidable.decide (Go.IntKind.wrap Go.IntKind.i64 (Go.IntKind.wrap Go.IntKind.i64 (Go.IntKind.wrap Go.IntKind.i64 (Prod.fst y1) + (4 : Int)) + (4 : Int)) > (↑(List.length x0) : Int))) (.r (([], Bool.false, x0))) (.c (Decidable.decide ((0 : Int) ≤ Go.IntKind.wrap Go.IntKind.i64 (Go.IntKind.wrap Go.IntKind.i64 (Go.IntKind.wrap Go.IntKind.i64 (Prod.fst y1) + (4 : Int)) + (4 : Int)))) (.c (Decidable.decide (Go.IntKind.wrap Go.IntKind.i64 (Go.IntKind.wrap Go.IntKind.i64 (Go.IntKind.wrap Go.IntKind.i64 (Prod.fst y1) + (4 : Int)) + (4 : Int)) ≤ (↑(List.length x0) : Int))) (.c (Decidable.decide ((0 : Int) ≤ Go.IntKind.wrap Go.IntKind.i64 (Go.IntKind.wrap Go.IntKind.i64 (Go.IntKind.wrap Go.IntKind.i64 (Prod.fst y1) + (4 : Int)) + (4 : Int)))) (opt (Go.Proofs.Ytaejmfmamhdlhaa.g_crc_Open (List.drop (0 : Nat) (List.take (Int.toNat (Go.IntKind.wrap Go.IntKind.i64 (Go.IntKind.wrap Go.IntKind.i64 (Go.IntKind.wrap Go.IntKind.i64 (Prod.fst y1) + (4 : Int)) + (4 : Int)))) x0))) fun (y2 : List Go.Cx.AV × Int) => (.c (Prod.snd y2 != (0 : Int)) (.r (([], Bool.false, x0))) (.c (Decidable.decide ((↑(List.length x0) : Int) ≤ (↑(List.length x0) : Int))) (.c (Decidable.decide ((0 : Int) ≤ Go.IntKind.wrap Go.IntKind.i64 (Go.IntKind.wrap Go.IntKind.i64 (Go.IntKind.wrap Go.IntKind.i64 (Prod.fst y1) + (4 : Int)) + (4 : Int)))) (.c (Decidable.decide (Go.IntKind.wrap Go.IntKind.i64 (Go.IntKind.wrap Go.IntKind.i64 (Go.IntKind.wrap Go.IntKind.i64 (Prod.fst y1) + (4 : Int)) + (4 : Int)) ≤ (↑(List.length x0) : Int))) (.c (Decidable.decide ((↑(List.length (Prod.fst y2)) : Int) ≤ (↑(List.length (Prod.fst y2)) : Int))) (.c (Decidable.decide ((4 : Int) ≤ (↑(List.length (Prod.fst y2)) : Int))) (.r ((List.drop (4 : Nat) (List.take (List.length (Prod.fst y2)) (Prod.fst y2)), Bool.true, List.drop (Int.toNat (Go.IntKind.wrap Go.IntKind.i64 (Go.IntKind.wrap Go.IntKind.i64 (Go.IntKind.wrap Go.IntKind.i64 (Prod.fst y1) + (4 : Int)) + (4 : Int)))) (List.take (List.length x0) x0)))) .bad) .bad) .bad) .bad) .bad))) .bad) .bad) .bad))))))
noncomputable def g_journal_walk_next_p50 (x0 : List AV) : Option (List AV × Bool × List AV) := (T_journal_walk_next_p50 x0).val
set_option maxRecDepth 100000 in
theorem c_journal_walk_next_p50 (ls : List AV) (Rv : List AV × Bool × List AV → Prop) : callA E_journal_walk_next_p50 Try.f48 (instL ls P_journal_walk_next_p50 0) (instH ls Q_journal_walk_next_p50 0) (outH O_journal_walk_next_p50 OO_journal_walk_next_p50 fun ls => Rv (tup_journal_walk_next_p50 ls)) = (T_journal_walk_next_p50 (getXs (ls.getD 0 .junk))).fold False Rv := by kernel_rfl
noncomputable def S_journal_walk_next_p50 : Go.Cx.Spec := heapS (patH P_journal_walk_next_p50 Q_journal_walk_next_p50 fun ls => opt (g_journal_walk_next_p50 (getXs (ls.getD 0 .junk))) fun x => .r (res_journal_walk_next_p50 x))
set_option maxRecDepth 100000 in
theorem S_journal_walk_next_p50_ok : Sound Try.prog 48 S_journal_walk_next_p50 :=
  heap_flat (E := E_journal_walk_next_p50) (TblOK.enKB TYbG1115t_ok _ _ _ _ _ _ _) mixed Try.func48 (c := Try.f48.body.getD .skip) (by kernel_rfl) (by kernel_rfl) (by decide) (by decide) (pats := P_journal_walk_next_p50) (ops := Q_journal_walk_next_p50) (OO := OO_journal_walk_next_p50) (O := O_journal_walk_next_p50) (tup := tup_journal_walk_next_p50) (res := res_journal_walk_next_p50) (g := fun ls => g_journal_walk_next_p50 (getXs (ls.getD 0 .junk))) (T := fun ls => T_journal_walk_next_p50 (getXs (ls.getD 0 .junk))) (fun _ => rfl) (fun ls => by kernel_rfl) c_journal_walk_next_p50

noncomputable def TYbG1116t : FuncId → Option Go.Cx.Spec := addT TYbG1115t 48 S_journal_walk_next_p50
theorem TYbG1116t_ok : TblOK Try.prog TYbG1116t := TYbG1115t_ok.add S_journal_walk_next_p50_ok

/- comptoir/journal.every -/
noncomputable def E_journal_every_fnext_p50 : En := enKB Try.prog TYbG1116t [1000018] [(3, ⟨[1, 2, 6, 7, 8, 9, 10, 11, 12, 13, 14, 15, 16, 17, 18, 19, 20, 21], [], [], none, [], [], [], [], true⟩)] [(3, [(3, 22, (.slice 1 (.int .u8)))])] [] 1 1 true
def P_journal_every_fnext_p50 : List Pat := [.func 48 [.lit (.ptr 0 0)] []]
def Q_journal_every_fnext_p50 : List OPat := [.fix 74 [.leaf (.slice 1 (.int .u8))]]
def O_journal_every_fnext_p50 : Pat := .leaf (.slice 1 (.slice 1 (.int .u8)))
def OO_journal_every_fnext_p50 : List OPat := [.fix 74 [.leaf (.slice 1 (.int .u8))]]
def tup_journal_every_fnext_p50 : List AV → List AV × List AV := fun ls => (getXs (ls.getD 0 .junk), getXs (ls.getD 1 .junk))
def res_journal_every_fnext_p50 : List AV × List AV → AV × List Ob := fun x => (.slice 1 (.slice 1 (.int .u8)) (x.1) .ro, [.fix 74 [.slice 1 (.int .u8) (x.2) .ro]])
noncomputable def T_journal_every_fnext_p50 (x0 : List AV) : Tr ((List AV × Bool × List AV × List AV) ⊕ (List AV × List AV)) := (opt (Go.Proofs.Ytaejmfmamhdlhaa.g_journal_walk_next_p50 x0) fun (y0 : List Go.Cx.AV × Bool × List Go.Cx.AV) => (.r (.inl ((Prod.fst y0, Prod.fst (Prod.snd y0), Prod.snd (Prod.snd y0), [])))))
noncomputable def M_journal_every_fnext_p50 (x0 : List AV) : List AV × Bool × List AV × List AV → Tr ((List AV × Bool × List AV × List AV) ⊕ (List AV × List AV))
  | (l0, b0, l1, l2) => (.c (b0) (.c (List.length l2 == List.length l2) (.c (Decidable.decide (List.length (l2 ++ [Go.Cx.AV.slice (1 : Nat) (Go.Cx.Sh.int Go.IntKind.u8) l0 Go.Cx.SK.ro]) * (25 : Nat) < (70368744177664 : Nat))) (opt (Go.Proofs.Ytaejmfmamhdlhaa.g_journal_walk_next_p50 l1) fun (y0 : List Go.Cx.AV × Bool × List Go.Cx.AV) => (.r (.inl ((Prod.fst y0, Prod.fst (Prod.snd y0), Prod.snd (Prod.snd y0), l2 ++ [Go.Cx.AV.slice (1 : Nat) (Go.Cx.Sh.int Go.IntKind.u8) l0 Go.Cx.SK.ro]))))) .bad) .bad) (.c (List.length l2 == List.length l2) (.r (.inr ((l2, l1)))) .bad))
noncomputable def g_journal_every_fnext_p50 (x0 : List AV) : Option (List AV × List AV) := run (M_journal_every_fnext_p50 x0) (T_journal_every_fnext_p50 x0)
noncomputable def b_journal_every_fnext_p50 := Try.f47.body.getD .skip
noncomputable def st_journal_every_fnext_p50_0 (x0 : List AV) (l0 : List AV) (b0 : Bool) (l1 : List AV) (l2 : List AV) : St := ⟨[Go.Cx.AV.func (48 : Nat) [Go.Cx.AV.ptr (0 : Nat) (0 : Nat)] [], Go.Cx.AV.junk, Go.Cx.AV.junk, Go.Cx.AV.oslice (1 : Nat) (0 : Nat) (List.length l2), Go.Cx.AV.slice (1 : Nat) (Go.Cx.Sh.int Go.IntKind.u8) l0 Go.Cx.SK.ro, Go.Cx.AV.bool b0, Go.Cx.AV.junk, Go.Cx.AV.junk, Go.Cx.AV.junk, Go.Cx.AV.junk, Go.Cx.AV.junk, Go.Cx.AV.junk, Go.Cx.AV.junk, Go.Cx.AV.junk, Go.Cx.AV.junk, Go.Cx.AV.junk, Go.Cx.AV.junk, Go.Cx.AV.junk, Go.Cx.AV.junk, Go.Cx.AV.junk, Go.Cx.AV.junk, Go.Cx.AV.junk], [Go.Cx.Ob.fix (74 : Nat) [Go.Cx.AV.slice (1 : Nat) (Go.Cx.Sh.int Go.IntKind.u8) l1 Go.Cx.SK.ro], Go.Cx.Ob.grow (22 : Nat) (0 : Nat) (1 : Nat) (Go.Cx.Sh.slice (1 : Nat) (Go.Cx.Sh.int Go.IntKind.u8)) l2]⟩
noncomputable def L_journal_every_fnext_p50 (x0 : List AV) (Rv : List AV × List AV → Prop) : List AV × Bool × List AV × List AV → Prop
  | (l0, b0, l1, l2) => headL E_journal_every_fnext_p50 [.r, .r, .l, .r, .d] b_journal_every_fnext_p50 1000 (bodyK E_journal_every_fnext_p50 Try.f47 (outH O_journal_every_fnext_p50 OO_journal_every_fnext_p50 fun ls => Rv (tup_journal_every_fnext_p50 ls))) (st_journal_every_fnext_p50_0 x0 l0 b0 l1 l2)
set_option maxRecDepth 100000 in
theorem l_journal_every_fnext_p50_0 (x0 : List AV) (Rv : List AV × List AV → Prop) (l0 : List AV) (b0 : Bool) (l1 : List AV) (l2 : List AV) : stepL E_journal_every_fnext_p50 [.r, .r, .l, .r, .d] b_journal_every_fnext_p50 1000 (bodyK E_journal_every_fnext_p50 Try.f47 (outH O_journal_every_fnext_p50 OO_journal_every_fnext_p50 fun ls => Rv (tup_journal_every_fnext_p50 ls))) (st_journal_every_fnext_p50_0 x0 l0 b0 l1 l2) =
  (M_journal_every_fnext_p50 x0 ((l0, b0, l1, l2))).fold False (Sum.elim (L_journal_every_fnext_p50 x0 Rv) Rv) := by kernel_rfl
set_option maxRecDepth 100000 in
theorem e_journal_every_fnext_p50_0 (x0 : List AV) (Rv : List AV × List AV → Prop) (l0 : List AV) (b0 : Bool) (l1 : List AV) (l2 : List AV) : L_journal_every_fnext_p50 x0 Rv ((l0, b0, l1, l2)) = headL E_journal_every_fnext_p50 [.r, .r, .l, .r, .d] b_journal_every_fnext_p50 1000 (bodyK E_journal_every_fnext_p50 Try.f47 (outH O_journal_every_fnext_p50 OO_journal_every_fnext_p50 fun ls => Rv (tup_journal_every_fnext_p50 ls))) (st_journal_every_fnext_p50_0 x0 l0 b0 l1 l2) := by kernel_rfl
section
attribute [local irreducible] Tr.fold M_journal_every_fnext_p50 L_journal_every_fnext_p50 T_journal_every_fnext_p50 E_journal_every_fnext_p50 b_journal_every_fnext_p50 bodyK headC headL stepC stepL wpX callA
set_option maxRecDepth 100000 in
theorem h_journal_every_fnext_p50 (x0 : List AV) (Rv : List AV × List AV → Prop) : ∀ s, (M_journal_every_fnext_p50 x0 s).fold False (Sum.elim (L_journal_every_fnext_p50 x0 Rv) Rv) → L_journal_every_fnext_p50 x0 Rv s := by
  rintro (⟨v0, v1, v2, v3⟩)
  · exact fun h => Eq.mpr (e_journal_every_fnext_p50_0 x0 Rv v0 v1 v2 v3) (headL_of (Eq.mpr (l_journal_every_fnext_p50_0 x0 Rv v0 v1 v2 v3) h))
set_option maxRecDepth 100000 in
theorem c_journal_every_fnext_p50 (ls : List AV) (Rv : List AV × List AV → Prop) : callA E_journal_every_fnext_p50 Try.f47 (instL ls P_journal_every_fnext_p50 0) (instH ls Q_journal_every_fnext_p50 0) (outH O_journal_every_fnext_p50 OO_journal_every_fnext_p50 fun ls => Rv (tup_journal_every_fnext_p50 ls)) = (T_journal_every_fnext_p50 (getXs (ls.getD 0 .junk))).fold False (Sum.elim (L_journal_every_fnext_p50 (getXs (ls.getD 0 .junk)) Rv) Rv) := by kernel_rfl
end
noncomputable def S_journal_every_fnext_p50 : Go.Cx.Spec := heapS (patH P_journal_every_fnext_p50 Q_journal_every_fnext_p50 fun ls => opt (g_journal_every_fnext_p50 (getXs (ls.getD 0 .junk))) fun x => .r (res_journal_every_fnext_p50 x))
set_option maxRecDepth 100000 in
theorem S_journal_every_fnext_p50_ok : Sound Try.prog 47 S_journal_every_fnext_p50 :=
  heap_mach (E := E_journal_every_fnext_p50) (TblOK.enKB TYbG1116t_ok _ _ _ _ _ _ _) mixed Try.func47 (c := Try.f47.body.getD .skip) (by kernel_rfl) (by kernel_rfl) (by decide) (by decide) (pats := P_journal_every_fnext_p50) (ops := Q_journal_every_fnext_p50) (OO := OO_journal_every_fnext_p50) (O := O_journal_every_fnext_p50) (tup := tup_journal_every_fnext_p50) (res := res_journal_every_fnext_p50) (g := fun ls => g_journal_every_fnext_p50 (getXs (ls.getD 0 .junk))) (T := fun ls => T_journal_every_fnext_p50 (getXs (ls.getD 0 .junk))) (step := fun ls => M_journal_every_fnext_p50 (getXs (ls.getD 0 .junk))) (L := fun ls => L_journal_every_fnext_p50 (getXs (ls.getD 0 .junk))) (fun _ => rfl) (fun ls => by kernel_rfl) c_journal_every_fnext_p50 (fun ls Rv => h_journal_every_fnext_p50 (getXs (ls.getD 0 .junk)) Rv)

noncomputable def TYbG1117t : FuncId → Option Go.Cx.Spec := addT TYbG1116t 47 S_journal_every_fnext_p50
theorem TYbG1117t_ok : TblOK Try.prog TYbG1117t := TYbG1116t_ok.add S_journal_every_fnext_p50_ok

/- comptoir/journal.Scan -/
noncomputable def E_journal_Scan : En := enK Try.prog TYbG1117t [] [] [] [] 0
def P_journal_Scan : List Pat := [.leaf (.slice 1 (.int .u8))]
def O_journal_Scan : Pat := .tuple [.leaf (.slice 1 (.slice 1 (.int .u8))), .leaf (.int .i64)]
def tup_journal_Scan : List AV → List AV × Int := fun ls => (getXs (ls.getD 0 .junk), getI (ls.getD 1 .junk))
def res_journal_Scan : List AV × Int → AV := fun x => .tuple [.slice 1 (.slice 1 (.int .u8)) (x.1) .ro, .int .i64 (x.2)]
noncomputable def T_journal_Scan (x0 : List AV) : Tr (List AV × Int) := (opt (Go.Proofs.Ytaejmfmamhdlhaa.g_journal_every_fnext_p50 x0) fun (y0 : List Go.Cx.AV × List Go.Cx.AV) => (.r ((Prod.fst y0, Go.IntKind.wrap Go.IntKind.i64 ((↑(List.length x0) : Int) - (↑(List.length (Prod.snd y0)) : Int))))))
noncomputable def g_journal_Scan (x0 : List AV) : Option (List AV × Int) := (T_journal_Scan x0).val
set_option maxRecDepth 100000 in
theorem c_journal_Scan (ls : List AV) (Rv : List AV × Int → Prop) : callA E_journal_Scan Try.f31 (instL ls P_journal_Scan 0) [] (outP O_journal_Scan fun ls => Rv (tup_journal_Scan ls)) = (T_journal_Scan (getXs (ls.getD 0 .junk))).fold False Rv := by kernel_rfl
noncomputable def S_journal_Scan : Go.Cx.Spec := pureS (patF P_journal_Scan fun ls => opt (g_journal_Scan (getXs (ls.getD 0 .junk))) fun x => .r (res_journal_Scan x))
set_option maxRecDepth 100000 in
theorem S_journal_Scan_ok : Sound Try.prog 31 S_journal_Scan :=
  pure_flat (E := E_journal_Scan) (TblOK.enK TYbG1117t_ok _ _ _ _ _) mixed rfl Try.func31 (c := Try.f31.body.getD .skip) (by kernel_rfl) (by kernel_rfl) (pats := P_journal_Scan) (O := O_journal_Scan) (tup := tup_journal_Scan) (res := res_journal_Scan) (g := fun ls => g_journal_Scan (getXs (ls.getD 0 .junk))) (T := fun ls => T_journal_Scan (getXs (ls.getD 0 .junk))) (fun _ => rfl) (fun ls => by kernel_rfl) c_journal_Scan

noncomputable def TYbG1118t : FuncId → Option Go.Cx.Spec := addT TYbG1117t 31 S_journal_Scan
theorem TYbG1118t_ok : TblOK Try.prog TYbG1118t := TYbG1117t_ok.add S_journal_Scan_ok

/- comptoir/comptoirhelp.Bytes -/
noncomputable def E_comptoirhelp_Bytes : En := enK Try.prog TYbG1118t [] [] [] [] 0
def P_comptoirhelp_Bytes : List Pat := [.leaf (.slice 1 (.int .u8)), .leaf (.slice 1 (.int .u8))]
def O_comptoirhelp_Bytes : Pat := .leaf .bool
def tup_comptoirhelp_Bytes : List AV → Bool := fun ls => getB (ls.getD 0 .junk)
def res_comptoirhelp_Bytes : Bool → AV := fun x => .bool (x)
noncomputable def T_comptoirhelp_Bytes (x0 : List AV) (x1 : List AV) : Tr (Bool) := (.r (Go.Cx.bytesOf x0 == Go.Cx.bytesOf x1))
noncomputable def g_comptoirhelp_Bytes (x0 : List AV) (x1 : List AV) : Option (Bool) := (T_comptoirhelp_Bytes x0 x1).val
set_option maxRecDepth 100000 in
theorem c_comptoirhelp_Bytes (ls : List AV) (Rv : Bool → Prop) : callA E_comptoirhelp_Bytes Try.f19 (instL ls P_comptoirhelp_Bytes 0) [] (outP O_comptoirhelp_Bytes fun ls => Rv (tup_comptoirhelp_Bytes ls)) = (T_comptoirhelp_Bytes (getXs (ls.getD 0 .junk)) (getXs (ls.getD 1 .junk))).fold False Rv := by kernel_rfl
noncomputable def S_comptoirhelp_Bytes : Go.Cx.Spec := pureS (patF P_comptoirhelp_Bytes fun ls => opt (g_comptoirhelp_Bytes (getXs (ls.getD 0 .junk)) (getXs (ls.getD 1 .junk))) fun x => .r (res_comptoirhelp_Bytes x))
set_option maxRecDepth 100000 in
theorem S_comptoirhelp_Bytes_ok : Sound Try.prog 19 S_comptoirhelp_Bytes :=
  pure_flat (E := E_comptoirhelp_Bytes) (TblOK.enK TYbG1118t_ok _ _ _ _ _) mixed rfl Try.func19 (c := Try.f19.body.getD .skip) (by kernel_rfl) (by kernel_rfl) (pats := P_comptoirhelp_Bytes) (O := O_comptoirhelp_Bytes) (tup := tup_comptoirhelp_Bytes) (res := res_comptoirhelp_Bytes) (g := fun ls => g_comptoirhelp_Bytes (getXs (ls.getD 0 .junk)) (getXs (ls.getD 1 .junk))) (T := fun ls => T_comptoirhelp_Bytes (getXs (ls.getD 0 .junk)) (getXs (ls.getD 1 .junk))) (fun _ => rfl) (fun ls => by kernel_rfl) c_comptoirhelp_Bytes

noncomputable def TYbG1119t : FuncId → Option Go.Cx.Spec := addT TYbG1118t 19 S_comptoirhelp_Bytes
theorem TYbG1119t_ok : TblOK Try.prog TYbG1119t := TYbG1118t_ok.add S_comptoirhelp_Bytes_ok

/- comptoir/comptoirlaw23.awake -/
noncomputable def E_comptoirlaw23_awake : En := enK Try.prog TYbG1119t [] [] [] [] 0
def P_comptoirlaw23_awake : List Pat := []
def O_comptoirlaw23_awake : Pat := .leaf .bool
def tup_comptoirlaw23_awake : List AV → Bool := fun ls => getB (ls.getD 0 .junk)
def res_comptoirlaw23_awake : Bool → AV := fun x => .bool (x)
noncomputable def T_comptoirlaw23_awake : Tr (Bool) := (opt (Go.Proofs.Ytaejmfmamhdlhaa.g_journal_Record [Go.Cx.AV.int Go.IntKind.u8 (7 : Int)]) fun (y0 : List Go.Cx.AV) => (opt (Go.Proofs.Ytaejmfmamhdlhaa.g_journal_Scan y0) fun (y1 : List Go.Cx.AV × Int) => (.c ((↑(List.length (Prod.fst y1)) : Int) == (1 : Int)) (.c (Decidable.decide ((0 : Int) < (↑(List.length (Prod.fst y1)) : Int))) (.c (Go.Cx.bytesOf (Go.Cx.getXs (List.getD (Prod.fst y1) (0 : Nat) (Go.Cx.AV.slice (1 : Nat) (Go.Cx.Sh.int Go.IntKind.u8) [] Go.Cx.SK.ro))) == [(7 : UInt8)]) (.r (Prod.snd y1 == (9 : Int))) (.r (Bool.false))) .bad) (.r (Bool.false)))))
noncomputable def g_comptoirlaw23_awake : Option (Bool) := (T_comptoirlaw23_awake).val
set_option maxRecDepth 100000 in
theorem c_comptoirlaw23_awake (ls : List AV) (Rv : Bool → Prop) : callA E_comptoirlaw23_awake Try.f30 (instL ls P_comptoirlaw23_awake 0) [] (outP O_comptoirlaw23_awake fun ls => Rv (tup_comptoirlaw23_awake ls)) = (T_comptoirlaw23_awake).fold False Rv := by kernel_rfl
noncomputable def S_comptoirlaw23_awake : Go.Cx.Spec := pureS (patF P_comptoirlaw23_awake fun ls => opt (g_comptoirlaw23_awake) fun x => .r (res_comptoirlaw23_awake x))
set_option maxRecDepth 100000 in
theorem S_comptoirlaw23_awake_ok : Sound Try.prog 30 S_comptoirlaw23_awake :=
  pure_flat (E := E_comptoirlaw23_awake) (TblOK.enK TYbG1119t_ok _ _ _ _ _) mixed rfl Try.func30 (c := Try.f30.body.getD .skip) (by kernel_rfl) (by kernel_rfl) (pats := P_comptoirlaw23_awake) (O := O_comptoirlaw23_awake) (tup := tup_comptoirlaw23_awake) (res := res_comptoirlaw23_awake) (g := fun ls => g_comptoirlaw23_awake) (T := fun ls => T_comptoirlaw23_awake) (fun _ => rfl) (fun ls => by kernel_rfl) c_comptoirlaw23_awake

noncomputable def TYbG1120t : FuncId → Option Go.Cx.Spec := addT TYbG1119t 30 S_comptoirlaw23_awake
theorem TYbG1120t_ok : TblOK Try.prog TYbG1120t := TYbG1119t_ok.add S_comptoirlaw23_awake_ok

/- comptoir/comptoirhelp.Same[[]byte] -/
noncomputable def E_comptoirhelp_Same_byte_00fBytes_ : En := enK Try.prog TYbG1120t [] [(4, ⟨[3, 4, 5, 6, 8, 9, 10, 11, 12, 13, 14, 15, 16, 17, 18, 19, 20, 21, 22, 23, 24, 25, 26, 27, 28, 29], [], [], none, [], [], [], [], true⟩)] [] [] 0
def P_comptoirhelp_Same_byte_00fBytes_ : List Pat := [.leaf (.slice 1 (.slice 1 (.int .u8))), .leaf (.slice 1 (.slice 1 (.int .u8))), .func 19 [] []]
def O_comptoirhelp_Same_byte_00fBytes_ : Pat := .leaf .bool
def tup_comptoirhelp_Same_byte_00fBytes_ : List AV → Bool := fun ls => getB (ls.getD 0 .junk)
def res_comptoirhelp_Same_byte_00fBytes_ : Bool → AV := fun x => .bool (x)
noncomputable def T_comptoirhelp_Same_byte_00fBytes_ (x0 : List AV) (x1 : List AV) : Tr ((Int) ⊕ (Bool)) := (.c ((↑(List.length x0) : Int) != (↑(List.length x1) : Int)) (.r (.inr (Bool.false))) (.r (.inl ((0 : Int)))))
noncomputable def M_comptoirhelp_Same_byte_00fBytes_ (x0 : List AV) (x1 : List AV) : Int → Tr ((Int) ⊕ (Bool))
  | i0 => (.c (Decidable.decide (i0 < (↑(List.length x0) : Int))) (.c (Decidable.decide ((0 : Int) ≤ i0)) (.c (Decidable.decide (i0 < (↑(List.length x0) : Int))) (.c (Decidable.decide ((0 : Int) ≤ i0)) (.c (Decidable.decide (i0 < (↑(List.length x1) : Int))) (.c (!Go.Cx.bytesOf (Go.Cx.getXs (List.getD x0 (Int.toNat i0) (Go.Cx.AV.slice (1 : Nat) (Go.Cx.Sh.int Go.IntKind.u8) [] Go.Cx.SK.ro))) == Go.Cx.bytesOf (Go.Cx.getXs (List.getD x1 (Int.toNat i0) (Go.Cx.AV.slice (1 : Nat) (Go.Cx.Sh.int Go.IntKind.u8) [] Go.Cx.SK.ro)))) (.r (.inr (Bool.false))) (.r (.inl (Go.IntKind.wrap Go.IntKind.i64 (i0 + (1 : Int)))))) .bad) .bad) .bad) .bad) (.r (.inr (Bool.true))))
noncomputable def g_comptoirhelp_Same_byte_00fBytes_ (x0 : List AV) (x1 : List AV) : Option (Bool) := run (M_comptoirhelp_Same_byte_00fBytes_ x0 x1) (T_comptoirhelp_Same_byte_00fBytes_ x0 x1)
noncomputable def b_comptoirhelp_Same_byte_00fBytes_ := Try.f29.body.getD .skip
noncomputable def st_comptoirhelp_Same_byte_00fBytes__0 (x0 : List AV) (x1 : List AV) (i0 : Int) : St := ⟨[Go.Cx.AV.slice (1 : Nat) (Go.Cx.Sh.slice (1 : Nat) (Go.Cx.Sh.int Go.IntKind.u8)) x0 Go.Cx.SK.ro, Go.Cx.AV.slice (1 : Nat) (Go.Cx.Sh.slice (1 : Nat) (Go.Cx.Sh.int Go.IntKind.u8)) x1 Go.Cx.SK.ro, Go.Cx.AV.func (19 : Nat) [] [], Go.Cx.AV.junk, Go.Cx.AV.junk, Go.Cx.AV.junk, Go.Cx.AV.junk, Go.Cx.AV.int Go.IntKind.i64 i0, Go.Cx.AV.junk, Go.Cx.AV.junk, Go.Cx.AV.junk, Go.Cx.AV.junk, Go.Cx.AV.junk, Go.Cx.AV.junk, Go.Cx.AV.junk, Go.Cx.AV.junk, Go.Cx.AV.junk, Go.Cx.AV.junk, Go.Cx.AV.junk, Go.Cx.AV.junk, Go.Cx.AV.junk, Go.Cx.AV.junk, Go.Cx.AV.junk, Go.Cx.AV.junk, Go.Cx.AV.junk, Go.Cx.AV.junk, Go.Cx.AV.junk, Go.Cx.AV.junk, Go.Cx.AV.junk, Go.Cx.AV.junk], []⟩
noncomputable def L_comptoirhelp_Same_byte_00fBytes_ (x0 : List AV) (x1 : List AV) (Rv : Bool → Prop) : Int → Prop
  | i0 => headL E_comptoirhelp_Same_byte_00fBytes_ [.r, .r, .l, .r, .d] b_comptoirhelp_Same_byte_00fBytes_ 1000 (bodyK E_comptoirhelp_Same_byte_00fBytes_ Try.f29 (outP O_comptoirhelp_Same_byte_00fBytes_ fun ls => Rv (tup_comptoirhelp_Same_byte_00fBytes_ ls))) (st_comptoirhelp_Same_byte_00fBytes__0 x0 x1 i0)
set_option maxRecDepth 100000 in
theorem l_comptoirhelp_Same_byte_00fBytes__0 (x0 : List AV) (x1 : List AV) (Rv : Bool → Prop) (i0 : Int) : stepL E_comptoirhelp_Same_byte_00fBytes_ [.r, .r, .l, .r, .d] b_comptoirhelp_Same_byte_00fBytes_ 1000 (bodyK E_comptoirhelp_Same_byte_00fBytes_ Try.f29 (outP O_comptoirhelp_Same_byte_00fBytes_ fun ls => Rv (tup_comptoirhelp_Same_byte_00fBytes_ ls))) (st_comptoirhelp_Same_byte_00fBytes__0 x0 x1 i0) =
  (M_comptoirhelp_Same_byte_00fBytes_ x0 x1 (i0)).fold False (Sum.elim (L_comptoirhelp_Same_byte_00fBytes_ x0 x1 Rv) Rv) := by kernel_rfl
set_option maxRecDepth 100000 in
theorem e_comptoirhelp_Same_byte_00fBytes__0 (x0 : List AV) (x1 : List AV) (Rv : Bool → Prop) (i0 : Int) : L_comptoirhelp_Same_byte_00fBytes_ x0 x1 Rv (i0) = headL E_comptoirhelp_Same_byte_00fBytes_ [.r, .r, .l, .r, .d] b_comptoirhelp_Same_byte_00fBytes_ 1000 (bodyK E_comptoirhelp_Same_byte_00fBytes_ Try.f29 (outP O_comptoirhelp_Same_byte_00fBytes_ fun ls => Rv (tup_comptoirhelp_Same_byte_00fBytes_ ls))) (st_comptoirhelp_Same_byte_00fBytes__0 x0 x1 i0) := by kernel_rfl
section
attribute [local irreducible] Tr.fold M_comptoirhelp_Same_byte_00fBytes_ L_comptoirhelp_Same_byte_00fBytes_ T_comptoirhelp_Same_byte_00fBytes_ E_comptoirhelp_Same_byte_00fBytes_ b_comptoirhelp_Same_byte_00fBytes_ bodyK headC headL stepC stepL wpX callA
set_option maxRecDepth 100000 in
theorem h_comptoirhelp_Same_byte_00fBytes_ (x0 : List AV) (x1 : List AV) (Rv : Bool → Prop) : ∀ s, (M_comptoirhelp_Same_byte_00fBytes_ x0 x1 s).fold False (Sum.elim (L_comptoirhelp_Same_byte_00fBytes_ x0 x1 Rv) Rv) → L_comptoirhelp_Same_byte_00fBytes_ x0 x1 Rv s := by
  rintro (v0)
  · exact fun h => Eq.mpr (e_comptoirhelp_Same_byte_00fBytes__0 x0 x1 Rv v0) (headL_of (Eq.mpr (l_comptoirhelp_Same_byte_00fBytes__0 x0 x1 Rv v0) h))
set_option maxRecDepth 100000 in
theorem c_comptoirhelp_Same_byte_00fBytes_ (ls : List AV) (Rv : Bool → Prop) : callA E_comptoirhelp_Same_byte_00fBytes_ Try.f29 (instL ls P_comptoirhelp_Same_byte_00fBytes_ 0) [] (outP O_comptoirhelp_Same_byte_00fBytes_ fun ls => Rv (tup_comptoirhelp_Same_byte_00fBytes_ ls)) = (T_comptoirhelp_Same_byte_00fBytes_ (getXs (ls.getD 0 .junk)) (getXs (ls.getD 1 .junk))).fold False (Sum.elim (L_comptoirhelp_Same_byte_00fBytes_ (getXs (ls.getD 0 .junk)) (getXs (ls.getD 1 .junk)) Rv) Rv) := by kernel_rfl
end
noncomputable def S_comptoirhelp_Same_byte_00fBytes_ : Go.Cx.Spec := pureS (patF P_comptoirhelp_Same_byte_00fBytes_ fun ls => opt (g_comptoirhelp_Same_byte_00fBytes_ (getXs (ls.getD 0 .junk)) (getXs (ls.getD 1 .junk))) fun x => .r (res_comptoirhelp_Same_byte_00fBytes_ x))
set_option maxRecDepth 100000 in
theorem S_comptoirhelp_Same_byte_00fBytes__ok : Sound Try.prog 29 S_comptoirhelp_Same_byte_00fBytes_ :=
  pure_mach (E := E_comptoirhelp_Same_byte_00fBytes_) (TblOK.enK TYbG1120t_ok _ _ _ _ _) mixed rfl Try.func29 (c := Try.f29.body.getD .skip) (by kernel_rfl) (by kernel_rfl) (pats := P_comptoirhelp_Same_byte_00fBytes_) (O := O_comptoirhelp_Same_byte_00fBytes_) (tup := tup_comptoirhelp_Same_byte_00fBytes_) (res := res_comptoirhelp_Same_byte_00fBytes_) (g := fun ls => g_comptoirhelp_Same_byte_00fBytes_ (getXs (ls.getD 0 .junk)) (getXs (ls.getD 1 .junk))) (T := fun ls => T_comptoirhelp_Same_byte_00fBytes_ (getXs (ls.getD 0 .junk)) (getXs (ls.getD 1 .junk))) (step := fun ls => M_comptoirhelp_Same_byte_00fBytes_ (getXs (ls.getD 0 .junk)) (getXs (ls.getD 1 .junk))) (L := fun ls => L_comptoirhelp_Same_byte_00fBytes_ (getXs (ls.getD 0 .junk)) (getXs (ls.getD 1 .junk))) (fun _ => rfl) (fun ls => by kernel_rfl) c_comptoirhelp_Same_byte_00fBytes_ (fun ls Rv => h_comptoirhelp_Same_byte_00fBytes_ (getXs (ls.getD 0 .junk)) (getXs (ls.getD 1 .junk)) Rv)

noncomputable def TYbG1121t : FuncId → Option Go.Cx.Spec := addT TYbG1120t 29 S_comptoirhelp_Same_byte_00fBytes_
theorem TYbG1121t_ok : TblOK Try.prog TYbG1121t := TYbG1120t_ok.add S_comptoirhelp_Same_byte_00fBytes__ok

/- comptoir/comptoirlaw23.JournalTorn -/
noncomputable def E_comptoirlaw23_JournalTorn : En := enK Try.prog (addT TYbG1121t 31 (frzAr S_journal_Scan)) [] [(4, ⟨[3, 4, 5, 6, 10, 11, 12, 13, 14, 15, 16, 17, 18, 19, 20, 21, 22, 23, 24, 25, 26, 27, 28, 29, 30, 31, 32, 33, 34, 35, 36, 37, 38, 39, 40, 41, 42, 43, 44, 45, 46, 47, 48, 49, 50, 51, 52, 53, 54, 55, 56, 57, 58, 59, 60, 61, 62, 63, 64, 65, 66, 67, 68, 69, 70, 71, 72, 73, 74, 75, 76, 77, 78, 79, 80, 81, 82, 83, 84, 85, 86, 87, 88, 89, 90, 91, 92, 93, 94, 95, 96, 97, 98, 99, 100, 101, 102, 103, 104, 105, 106, 107, 108, 109, 110, 111, 112, 113, 114, 115, 116, 117, 118, 119, 120, 121, 122, 123, 124, 125, 126, 127, 128, 129, 130, 131, 132, 133, 134, 135, 136, 137, 138, 139, 140, 141, 142, 143, 144, 145, 146, 147, 148, 149, 150, 151, 152, 153, 154, 155, 156, 157, 158, 159], [], [], none, [], [], [], [], true⟩), (6, ⟨[3, 4, 5, 6, 10, 11, 12, 13, 14, 15, 16, 17, 18, 19, 20, 21, 22, 23, 24, 25, 26, 27, 28, 29, 30, 31, 32, 33, 34, 35, 36, 37, 38, 39, 40, 41, 42, 43, 44, 45, 46, 47, 48, 49, 50, 51, 52, 53, 54, 55, 56, 57, 58, 59, 60, 61, 62, 63, 64, 65, 66, 67, 68, 69, 70, 71, 72, 73, 74, 75, 76, 77, 78, 79, 80, 81, 82, 83, 84, 85, 86, 87, 88, 89, 90, 91, 92, 93, 94, 95, 96, 97, 98, 99, 100, 101, 102, 103, 104, 105, 106, 107, 108, 109, 110, 111, 112, 113, 114, 115, 116, 117, 118, 119, 120, 121, 122, 123, 124, 125, 126, 127, 128, 129, 130, 131, 132, 133, 134, 135, 136, 137, 138, 139, 140, 141, 142, 143, 144, 145, 146, 147, 148, 149, 150, 151, 152, 153, 154, 155, 156, 157, 158, 159], [], [], some 1000, [], [], [], [], true⟩), (10, ⟨[3, 4, 5, 6, 9, 10, 11, 12, 13, 14, 15, 16, 17, 18, 19, 20, 21, 22, 23, 24, 25, 26, 27, 28, 29, 30, 31, 32, 33, 34, 35, 36, 37, 38, 39, 40, 41, 42, 43, 44, 45, 46, 47, 48, 49, 50, 51, 52, 53, 54, 55, 56, 57, 58, 59, 60, 61, 62, 63, 64, 65, 66, 67, 68, 69, 70, 71, 72, 73, 74, 75, 76, 77, 78, 79, 80, 81, 82, 83, 84, 85, 86, 87, 88, 89, 90, 91, 92, 93, 94, 95, 96, 97, 98, 99, 100, 101, 102, 103, 104, 105, 106, 107, 108, 109, 110, 111, 112, 113, 114, 115, 116, 117, 118, 119, 120, 121, 122, 123, 124, 125, 126, 127, 128, 129, 130, 131, 132, 133, 134, 135, 136, 137, 138, 139, 140, 141, 142, 143, 144, 145, 146, 147, 148, 149, 150, 151, 152, 153, 154, 155, 156, 157, 158, 159], [], [], some 1000, [], [], [], [], true⟩), (11, ⟨[3, 4, 5, 6, 9, 10, 11, 12, 13, 14, 15, 16, 17, 18, 19, 20, 21, 22, 23, 24, 25, 26, 27, 28, 29, 30, 31, 32, 33, 34, 35, 36, 37, 38, 39, 40, 41, 42, 43, 44, 45, 46, 47, 48, 49, 50, 51, 52, 53, 54, 55, 57, 58, 59, 60, 61, 62, 63, 64, 65, 66, 67, 68, 69, 70, 71, 72, 73, 74, 75, 76, 77, 78, 79, 80, 81, 82, 83, 84, 85, 86, 87, 88, 89, 90, 91, 92, 93, 94, 95, 96, 97, 98, 99, 100, 101, 102, 103, 104, 105, 106, 107, 108, 109, 110, 111, 112, 113, 114, 115, 116, 117, 118, 119, 120, 121, 122, 123, 124, 125, 126, 127, 128, 129, 130, 131, 132, 133, 134, 135, 136, 137, 138, 139, 140, 141, 142, 143, 144, 145, 146, 147, 148, 149, 150, 151, 152, 153, 154, 155, 156, 157, 158, 159], [], [], some 1000, [], [], [], [], true⟩), (15, ⟨[3, 4, 5, 6, 9, 15, 16, 17, 18, 19, 20, 21, 22, 23, 24, 25, 26, 27, 28, 29, 30, 31, 32, 33, 34, 35, 36, 37, 38, 39, 40, 41, 42, 43, 44, 45, 46, 47, 48, 49, 50, 51, 52, 53, 54, 55, 56, 57, 58, 59, 60, 61, 62, 63, 64, 65, 66, 67, 68, 69, 70, 71, 72, 73, 74, 75, 76, 77, 78, 79, 80, 81, 82, 83, 84, 85, 86, 87, 88, 89, 90, 91, 92, 93, 94, 95, 96, 97, 98, 99, 100, 101, 102, 103, 104, 105, 106, 107, 108, 109, 110, 111, 112, 113, 114, 115, 116, 117, 118, 119, 120, 121, 122, 123, 124, 125, 126, 127, 128, 129, 130, 131, 132, 133, 134, 135, 136, 137, 138, 139, 140, 141, 142, 143, 144, 145, 146, 147, 148, 149, 150, 151, 152, 153, 154, 155, 156, 157, 158, 159], [], [], none, [], [], [], [], true⟩), (19, ⟨[3, 4, 5, 6, 9, 15, 16, 17, 18, 19, 20, 21, 22, 23, 24, 25, 26, 27, 28, 29, 30, 31, 32, 33, 34, 35, 36, 37, 38, 39, 40, 41, 42, 43, 44, 45, 46, 47, 48, 49, 50, 51, 52, 53, 54, 55, 56, 57, 58, 59, 60, 61, 62, 63, 64, 65, 66, 67, 68, 69, 70, 71, 72, 73, 74, 75, 76, 77, 78, 79, 80, 81, 82, 83, 84, 85, 86, 87, 88, 89, 90, 91, 92, 93, 94, 95, 96, 97, 98, 99, 100, 101, 102, 103, 104, 105, 106, 107, 108, 109, 110, 111, 112, 113, 114, 115, 116, 117, 118, 119, 120, 121, 122, 123, 124, 125, 126, 127, 128, 129, 130, 131, 132, 133, 134, 135, 136, 137, 138, 139, 140, 141, 142, 143, 144, 145, 146, 147, 148, 149, 150, 151, 152, 153, 154, 155, 156, 157, 158, 159], [], [], some 1000, [], [], [], [], true⟩)] [(4, [(7, 5, (.int .u8)), (8, 3, (.int .i64))])] [] 0
def P_comptoirlaw23_JournalTorn : List Pat := [.leaf (.slice 1 (.slice 1 (.int .u8))), .leaf (.int .i64), .leaf (.int .i64)]
def O_comptoirlaw23_JournalTorn : Pat := .leaf .bool
def tup_comptoirlaw23_JournalTorn : List AV → Bool := fun ls => getB (ls.getD 0 .junk)
def res_comptoirlaw23_JournalTorn : Bool → AV := fun x => .bool (x)
noncomputable def T_comptoirlaw23_JournalTorn (x0 : List AV) (x1 : Int) (x2 : Int) : Tr (((Int × List AV × List AV) ⊕ (Int × List AV × List AV) ⊕ (List AV × List AV) ⊕ (List AV × List AV × Bool) ⊕ (Int × Int × List AV × List AV × Int × Int × Int × Int × Int) ⊕ (Int × Int × Int × List AV × List AV × Int × Int × Int × Int)) ⊕ (Bool)) := (.r (.inl (.inl (((0 : Int), [], [])))))
noncomputable def M_comptoirlaw23_JournalTorn (x0 : List AV) (x1 : Int) (x2 : Int) : (Int × List AV × List AV) ⊕ (Int × List AV × List AV) ⊕ (List AV × List AV) ⊕ (List AV × List AV × Bool) ⊕ (Int × Int × List AV × List AV × Int × Int × Int × Int × Int) ⊕ (Int × Int × Int × List AV × List AV × Int × Int × Int × Int) → Tr (((Int × List AV × List AV) ⊕ (Int × List AV × List AV) ⊕ (List AV × List AV) ⊕ (List AV × List AV × Bool) ⊕ (Int × Int × List AV × List AV × Int × Int × Int × Int × Int) ⊕ (Int × Int × Int × List AV × List AV × Int × Int × Int × Int)) ⊕ (Bool))
  | .inl ((i0, l0, l1)) => (.c (Decidable.decide (i0 < (↑(List.length x0) : Int))) (.c (Decidable.decide (i0 < (12 : Int))) (.r (.inl (.inr (.inl ((i0, l0, l1)))))) (.r (.inl (.inr (.inr (.inl ((l0, l1)))))))) (.r (.inl (.inr (.inr (.inl ((l0, l1))))))))
  | .inr (.inl ((i1, l2, l3))) => (.c (Decidable.decide ((0 : Int) ≤ i1)) (.c (Decidable.decide (i1 < (↑(List.length x0) : Int))) (.c (Decidable.decide ((↑(List.length (Go.Cx.getXs (List.getD x0 (Int.toNat i1) (Go.Cx.AV.slice (1 : Nat) (Go.Cx.Sh.int Go.IntKind.u8) [] Go.Cx.SK.ro)))) : Int) > (300 : Int))) (opt (Go.Proofs.Ytaejmfmamhdlhaa.g_comptoirlaw23_awake) fun (y0 : Bool) => (.r (.inr (y0)))) (.c (Decidable.decide ((0 : Int) ≤ i1)) (.c (Decidable.decide (i1 < (↑(List.length x0) : Int))) (opt (Go.Proofs.Ytaejmfmamhdlhaa.g_journal_Record (Go.Cx.getXs (List.getD x0 (Int.toNat i1) (Go.Cx.AV.slice (1 : Nat) (Go.Cx.Sh.int Go.IntKind.u8) [] Go.Cx.SK.ro)))) fun (y0 : List Go.Cx.AV) => (.c (List.length l2 == List.length l2) (.c (Decidable.decide (List.length (l2 ++ y0) * (2 : Nat) < (70368744177664 : Nat))) (.c (List.length l3 == List.length l3) (.c (Decidable.decide (List.length (l3 ++ [Go.Cx.AV.int Go.IntKind.i64 (↑(List.length (l2 ++ y0)) : Int)]) * (9 : Nat) < (70368744177664 : Nat))) (.r (.inl (.inl ((Go.IntKind.wrap Go.IntKind.i64 (i1 + (1 : Int)), l2 ++ y0, l3 ++ [Go.Cx.AV.int Go.IntKind.i64 (↑(List.length (l2 ++ y0)) : Int)]))))) .bad) .bad) .bad) .bad)) .bad) .bad)) .bad) .bad)
  | .inr (.inr (.inl ((l4, l5)))) => (opt (Go.Proofs.Ytaejmfmamhdlhaa.g_comptoirlaw23_awake) fun (y0 : Bool) => (.c (!y0) (.r (.inl (.inr (.inr (.inr (.inl ((l4, l5, Bool.true)))))))) (.r (.inl (.inr (.inr (.inr (.inl ((l4, l5, (↑(List.length l4) : Int) == (0 : Int)))))))))))
  | .inr (.inr (.inr (.inl ((l6, l7, b0))))) => (.c (b0) (opt (Go.Proofs.Ytaejmfmamhdlhaa.g_comptoirlaw23_awake) fun (y0 : Bool) => (.r (.inr (y0)))) (.c (Go.Cx.isZ (Go.IntKind.wrap Go.IntKind.u64 (Go.IntKind.wrap Go.IntKind.i64 ((↑(List.length l6) : Int) + (1 : Int))))) .bad (.c (Go.Cx.isZ (Go.IntKind.wrap Go.IntKind.u64 (Go.IntKind.wrap Go.IntKind.i64 ((8 : Int) * (↑(List.length l6) : Int))))) .bad (.r (.inl (.inr (.inr (.inr (.inr (.inl ((Go.IntKind.wrap Go.IntKind.i64 (Int.tmod (Go.IntKind.wrap Go.IntKind.u64 x1) (Go.IntKind.wrap Go.IntKind.u64 (Go.IntKind.wrap Go.IntKind.i64 ((↑(List.length l6) : Int) + (1 : Int))))), Go.IntKind.wrap Go.IntKind.i64 (Int.tmod (Go.IntKind.wrap Go.IntKind.u64 x2) (Go.IntKind.wrap Go.IntKind.u64 (Go.IntKind.wrap Go.IntKind.i64 ((8 : Int) * (↑(List.length l6) : Int))))), l6, l7, (0 : Int), (0 : Int), (0 : Int), (0 : Int), (0 : Int)))))))))))))
  | .inr (.inr (.inr (.inr (.inl ((i2, i3, l8, l9, i8, i9, i10, i11, i12)))))) => (.c (Decidable.decide (i12 < (↑(List.length l9) : Int))) (.c (Decidable.decide ((0 : Int) ≤ i12)) (.c (Decidable.decide (i12 < (↑(List.length l9) : Int))) (.c (List.length l9 == List.length l9) (.c (Decidable.decide (Int.toNat i12 < List.length l9)) (.c (Decidable.decide (Go.Cx.getI (List.getD l9 (Int.toNat i12) (Go.Cx.AV.int Go.IntKind.i64 (0 : Int))) ≤ i2)) (.c (Decidable.decide ((0 : Int) ≤ i12)) (.c (Decidable.decide (i12 < (↑(List.length l9) : Int))) (.c (List.length l9 == List.length l9) (.c (Decidable.decide (Int.toNat i12 < List.length l9)) (.r (.inl (.inr (.inr (.inr (.inr (.inr ((i2, i3, Go.Cx.getI (List.getD l9 (Int.toNat i12) (Go.Cx.AV.int Go.IntKind.i64 (0 : Int))), l8, l9, Go.IntKind.wrap Go.IntKind.i64 (i12 + (1 : Int)), i9, i11, i12))))))))) .bad) .bad) .bad) .bad) (.r (.inl (.inr (.inr (.inr (.inr (.inr ((i2, i3, i10, l8, l9, i8, i9, i11, i12)))))))))) .bad) .bad) .bad) .bad) (.c (List.length l8 == List.length l8) (.c (Decidable.decide ((0 : Int) ≤ i2)) (.c (Decidable.decide (i2 ≤ (↑(List.length l8) : Int))) (.c (Decidable.decide ((0 : Int) ≤ i2)) (opt (Go.Proofs.Ytaejmfmamhdlhaa.g_journal_Scan (List.drop (0 : Nat) (List.take (Int.toNat i2) l8))) fun (y0 : List Go.Cx.AV × Int) => (.c (List.length l8 == List.length l8) (.c (Decidable.decide (List.length l8 * (2 : Nat) < (70368744177664 : Nat))) (.c (Decidable.decide ((0 : Int) ≤ Go.IntKind.wrap Go.IntKind.i64 (Int.tdiv i3 (8 : Int)))) (.c (Decidable.decide (Go.IntKind.wrap Go.IntKind.i64 (Int.tdiv i3 (8 : Int)) < (↑(List.length l8) : Int))) (.c (List.length l8 == List.length l8) (.c (Decidable.decide (Int.toNat (Go.IntKind.wrap Go.IntKind.i64 (Int.tdiv i3 (8 : Int))) < List.length l8)) (.c (Decidable.decide ((0 : Int) ≤ Go.IntKind.wrap Go.IntKind.u64 (Int.tmod i3 (8 : Int)))) (.c (Decidable.decide ((0 : Int) ≤ Go.IntKind.wrap Go.IntKind.i64 (Int.tdiv i3 (8 : Int)))) (.c (Decidable.decide (Go.IntKind.wrap Go.IntKind.i64 (Int.tdiv i3 (8 : Int)) < (↑(List.length l8) : Int))) (.c (List.length l8 == List.length l8) (.c (Decidable.decide (Int.toNat (Go.IntKind.wrap Go.IntKind.i64 (Int.tdiv i3 (8 : Int))) < List.length l8)) (.c (Bool.true && List.length l8 == List.length (List.set l8 (Int.toNat (Go.IntKind.wrap Go.IntKind.i64 (Int.tdiv i3 (8 : Int)))) (Go.Cx.AV.int Go.IntKind.u8 (Go.Cx.bitsA Go.BinOp.xor Go.IntKind.u8 (Go.Cx.getI (List.getD l8 (Int.toNat (Go.IntKind.wrap Go.IntKind.i64 (Int.tdiv i3 (8 : Int)))) (Go.Cx.AV.int Go.IntKind.u8 (0 : Int)))) (Go.Cx.shlA Go.IntKind.u8 (1 : Int) (Go.IntKind.wrap Go.IntKind.u64 (Int.tmod i3 (8 : Int)))))))) (opt (Go.Proofs.Ytaejmfmamhdlhaa.g_journal_Scan (List.set l8 (Int.toNat (Go.IntKind.wrap Go.IntKind.i64 (Int.tdiv i3 (8 : Int)))) (Go.Cx.AV.int Go.IntKind.u8 (Go.Cx.bitsA Go.BinOp.xor Go.IntKind.u8 (Go.Cx.getI (List.getD l8 (Int.toNat (Go.IntKind.wrap Go.IntKind.i64 (Int.tdiv i3 (8 : Int)))) (Go.Cx.AV.int Go.IntKind.u8 (0 : Int)))) (Go.Cx.shlA Go.IntKind.u8 (1 : Int) (Go.IntKind.wrap Go.IntKind.u64 (Int.tmod i3 (8 : Int)))))))) fun (y1 : List Go.Cx.AV × Int) => (.c (Decidable.decide ((0 : Int) ≤ i8)) (.c (Decidable.decide (i8 ≤ (↑(List.length x0) : Int))) (.c (Decidable.decide ((0 : Int) ≤ i8)) (opt (Go.Proofs.Ytaejmfmamhdlhaa.g_comptoirhelp_Same_byte_00fBytes_ (Prod.fst y0) (List.drop (0 : Nat) (List.take (Int.toNat i8) x0))) fun (y2 : Bool) => (.c (y2) (.c (Prod.snd y0 == i10) (.c (Decidable.decide (Go.IntKind.wrap Go.IntKind.i64 (Go.IntKind.wrap Go.IntKind.i64 (Int.tdiv i3 (8 : Int)) - i11) < (4 : Int))) (.r (.inr (Bool.true))) (.c (Decidable.decide ((0 : Int) ≤ i9)) (.c (Decidable.decide (i9 ≤ (↑(List.length x0) : Int))) (.c (Decidable.decide ((0 : Int) ≤ i9)) (opt (Go.Proofs.Ytaejmfmamhdlhaa.g_comptoirhelp_Same_byte_00fBytes_ (Prod.fst y1) (List.drop (0 : Nat) (List.take (Int.toNat i9) x0))) fun (y3 : Bool) => (.c (y3) (.r (.inr (Prod.snd y1 == i11))) (.r (.inr (Bool.false))))) .bad) .bad) .bad)) (.r (.inr (Bool.false)))) (.r (.inr (Bool.false))))) .bad) .bad) .bad)) .bad) .bad) .bad) .bad) .bad) .bad) .bad) .bad) .bad) .bad) .bad) .bad)) .bad) .bad) .bad) .bad))
  | .inr (.inr (.inr (.inr (.inr ((i4, i5, i6, l10, l11, i7, i13, i14, i15)))))) => (.c (Decidable.decide ((0 : Int) ≤ i15)) (.c (Decidable.decide (i15 < (↑(List.length l11) : Int))) (.c (List.length l11 == List.length l11) (.c (Decidable.decide (Int.toNat i15 < List.length l11)) (.c (Decidable.decide (Go.Cx.getI (List.getD l11 (Int.toNat i15) (Go.Cx.AV.int Go.IntKind.i64 (0 : Int))) ≤ Go.IntKind.wrap Go.IntKind.i64 (Int.tdiv i5 (8 : Int)))) (.c (Decidable.decide ((0 : Int) ≤ i15)) (.c (Decidable.decide (i15 < (↑(List.length l11) : Int))) (.c (List.length l11 == List.length l11) (.c (Decidable.decide (Int.toNat i15 < List.length l11)) (.r (.inl (.inr (.inr (.inr (.inr (.inl ((i4, i5, l10, l11, i7, Go.IntKind.wrap Go.IntKind.i64 (i15 + (1 : Int)), i6, Go.Cx.getI (List.getD l11 (Int.toNat i15) (Go.Cx.AV.int Go.IntKind.i64 (0 : Int))), Go.IntKind.wrap Go.IntKind.i64 (i15 + (1 : Int))))))))))) .bad) .bad) .bad) .bad) (.r (.inl (.inr (.inr (.inr (.inr (.inl ((i4, i5, l10, l11, i7, i13, i6, i14, Go.IntKind.wrap Go.IntKind.i64 (i15 + (1 : Int)))))))))))) .bad) .bad) .bad) .bad)
noncomputable def g_comptoirlaw23_JournalTorn (x0 : List AV) (x1 : Int) (x2 : Int) : Option (Bool) := run (M_comptoirlaw23_JournalTorn x0 x1 x2) (T_comptoirlaw23_JournalTorn x0 x1 x2)
noncomputable def b_comptoirlaw23_JournalTorn := Try.f11.body.getD .skip
noncomputable def st_comptoirlaw23_JournalTorn_0 (x0 : List AV) (x1 : Int) (x2 : Int) (i0 : Int) (l0 : List AV) (l1 : List AV) : St := ⟨frOf 0 160 [(0, Go.Cx.AV.slice (1 : Nat) (Go.Cx.Sh.slice (1 : Nat) (Go.Cx.Sh.int Go.IntKind.u8)) x0 Go.Cx.SK.ro), (1, Go.Cx.AV.int Go.IntKind.i64 x1), (2, Go.Cx.AV.int Go.IntKind.i64 x2), (7, Go.Cx.AV.oslice (0 : Nat) (0 : Nat) (List.length l0)), (8, Go.Cx.AV.oslice (1 : Nat) (0 : Nat) (List.length l1)), (9, Go.Cx.AV.int Go.IntKind.i64 i0)], [Go.Cx.Ob.grow (5 : Nat) (0 : Nat) (1 : Nat) (Go.Cx.Sh.int Go.IntKind.u8) l0, Go.Cx.Ob.grow (3 : Nat) (0 : Nat) (1 : Nat) (Go.Cx.Sh.int Go.IntKind.i64) l1]⟩
noncomputable def st_comptoirlaw23_JournalTorn_1 (x0 : List AV) (x1 : Int) (x2 : Int) (i1 : Int) (l2 : List AV) (l3 : List AV) : St := ⟨frOf 0 160 [(0, Go.Cx.AV.slice (1 : Nat) (Go.Cx.Sh.slice (1 : Nat) (Go.Cx.Sh.int Go.IntKind.u8)) x0 Go.Cx.SK.ro), (1, Go.Cx.AV.int Go.IntKind.i64 x1), (2, Go.Cx.AV.int Go.IntKind.i64 x2), (7, Go.Cx.AV.oslice (0 : Nat) (0 : Nat) (List.length l2)), (8, Go.Cx.AV.oslice (1 : Nat) (0 : Nat) (List.length l3)), (9, Go.Cx.AV.int Go.IntKind.i64 i1)], [Go.Cx.Ob.grow (5 : Nat) (0 : Nat) (1 : Nat) (Go.Cx.Sh.int Go.IntKind.u8) l2, Go.Cx.Ob.grow (3 : Nat) (0 : Nat) (1 : Nat) (Go.Cx.Sh.int Go.IntKind.i64) l3]⟩
noncomputable def st_comptoirlaw23_JournalTorn_2 (x0 : List AV) (x1 : Int) (x2 : Int) (l4 : List AV) (l5 : List AV) : St := ⟨frOf 0 160 [(0, Go.Cx.AV.slice (1 : Nat) (Go.Cx.Sh.slice (1 : Nat) (Go.Cx.Sh.int Go.IntKind.u8)) x0 Go.Cx.SK.ro), (1, Go.Cx.AV.int Go.IntKind.i64 x1), (2, Go.Cx.AV.int Go.IntKind.i64 x2), (7, Go.Cx.AV.oslice (0 : Nat) (0 : Nat) (List.length l4)), (8, Go.Cx.AV.oslice (1 : Nat) (0 : Nat) (List.length l5))], [Go.Cx.Ob.grow (5 : Nat) (0 : Nat) (1 : Nat) (Go.Cx.Sh.int Go.IntKind.u8) l4, Go.Cx.Ob.grow (3 : Nat) (0 : Nat) (1 : Nat) (Go.Cx.Sh.int Go.IntKind.i64) l5]⟩
noncomputable def st_comptoirlaw23_JournalTorn_3 (x0 : List AV) (x1 : Int) (x2 : Int) (l6 : List AV) (l7 : List AV) (b0 : Bool) : St := ⟨frOf 0 160 [(0, Go.Cx.AV.slice (1 : Nat) (Go.Cx.Sh.slice (1 : Nat) (Go.Cx.Sh.int Go.IntKind.u8)) x0 Go.Cx.SK.ro), (1, Go.Cx.AV.int Go.IntKind.i64 x1), (2, Go.Cx.AV.int Go.IntKind.i64 x2), (7, Go.Cx.AV.oslice (0 : Nat) (0 : Nat) (List.length l6)), (8, Go.Cx.AV.oslice (1 : Nat) (0 : Nat) (List.length l7)), (56, Go.Cx.AV.bool b0)], [Go.Cx.Ob.grow (5 : Nat) (0 : Nat) (1 : Nat) (Go.Cx.Sh.int Go.IntKind.u8) l6, Go.Cx.Ob.grow (3 : Nat) (0 : Nat) (1 : Nat) (Go.Cx.Sh.int Go.IntKind.i64) l7]⟩
noncomputable def st_comptoirlaw23_JournalTorn_4 (x0 : List AV) (x1 : Int) (x2 : Int) (i2 : Int) (i3 : Int) (l8 : List AV) (l9 : List AV) (i8 : Int) (i9 : Int) (i10 : Int) (i11 : Int) (i12 : Int) : St := ⟨frOf 0 160 [(0, Go.Cx.AV.slice (1 : Nat) (Go.Cx.Sh.slice (1 : Nat) (Go.Cx.Sh.int Go.IntKind.u8)) x0 Go.Cx.SK.ro), (1, Go.Cx.AV.int Go.IntKind.i64 i2), (2, Go.Cx.AV.int Go.IntKind.i64 i3), (7, Go.Cx.AV.oslice (0 : Nat) (0 : Nat) (List.length l8)), (8, Go.Cx.AV.oslice (1 : Nat) (0 : Nat) (List.length l9)), (10, Go.Cx.AV.int Go.IntKind.i64 i8), (11, Go.Cx.AV.int Go.IntKind.i64 i9), (12, Go.Cx.AV.int Go.IntKind.i64 i10), (13, Go.Cx.AV.int Go.IntKind.i64 i11), (14, Go.Cx.AV.int Go.IntKind.i64 i12)], [Go.Cx.Ob.grow (5 : Nat) (0 : Nat) (1 : Nat) (Go.Cx.Sh.int Go.IntKind.u8) l8, Go.Cx.Ob.grow (3 : Nat) (0 : Nat) (1 : Nat) (Go.Cx.Sh.int Go.IntKind.i64) l9]⟩
noncomputable def st_comptoirlaw23_JournalTorn_5 (x0 : List AV) (x1 : Int) (x2 : Int) (i4 : Int) (i5 : Int) (i6 : Int) (l10 : List AV) (l11 : List AV) (i7 : Int) (i13 : Int) (i14 : Int) (i15 : Int) : St := ⟨frOf 0 160 [(0, Go.Cx.AV.slice (1 : Nat) (Go.Cx.Sh.slice (1 : Nat) (Go.Cx.Sh.int Go.IntKind.u8)) x0 Go.Cx.SK.ro), (1, Go.Cx.AV.int Go.IntKind.i64 i4), (2, Go.Cx.AV.int Go.IntKind.i64 i5), (7, Go.Cx.AV.oslice (0 : Nat) (0 : Nat) (List.length l10)), (8, Go.Cx.AV.oslice (1 : Nat) (0 : Nat) (List.length l11)), (10, Go.Cx.AV.int Go.IntKind.i64 i7), (11, Go.Cx.AV.int Go.IntKind.i64 i13), (12, Go.Cx.AV.int Go.IntKind.i64 i6), (13, Go.Cx.AV.int Go.IntKind.i64 i14), (14, Go.Cx.AV.int Go.IntKind.i64 i15)], [Go.Cx.Ob.grow (5 : Nat) (0 : Nat) (1 : Nat) (Go.Cx.Sh.int Go.IntKind.u8) l10, Go.Cx.Ob.grow (3 : Nat) (0 : Nat) (1 : Nat) (Go.Cx.Sh.int Go.IntKind.i64) l11]⟩
noncomputable def L_comptoirlaw23_JournalTorn (x0 : List AV) (x1 : Int) (x2 : Int) (Rv : Bool → Prop) : (Int × List AV × List AV) ⊕ (Int × List AV × List AV) ⊕ (List AV × List AV) ⊕ (List AV × List AV × Bool) ⊕ (Int × Int × List AV × List AV × Int × Int × Int × Int × Int) ⊕ (Int × Int × Int × List AV × List AV × Int × Int × Int × Int) → Prop
  | .inl ((i0, l0, l1)) => headL E_comptoirlaw23_JournalTorn [.r, .r, .r, .l, .r, .d] b_comptoirlaw23_JournalTorn 1000 (bodyK E_comptoirlaw23_JournalTorn Try.f11 (outP O_comptoirlaw23_JournalTorn fun ls => Rv (tup_comptoirlaw23_JournalTorn ls))) (st_comptoirlaw23_JournalTorn_0 x0 x1 x2 i0 l0 l1)
  | .inr (.inl ((i1, l2, l3))) => headC E_comptoirlaw23_JournalTorn [.r, .r, .r, .l, .r, .d, .o 1000, .r] b_comptoirlaw23_JournalTorn (bodyK E_comptoirlaw23_JournalTorn Try.f11 (outP O_comptoirlaw23_JournalTorn fun ls => Rv (tup_comptoirlaw23_JournalTorn ls))) (st_comptoirlaw23_JournalTorn_1 x0 x1 x2 i1 l2 l3)
  | .inr (.inr (.inl ((l4, l5)))) => headC E_comptoirlaw23_JournalTorn [.r, .r, .r, .r] b_comptoirlaw23_JournalTorn (bodyK E_comptoirlaw23_JournalTorn Try.f11 (outP O_comptoirlaw23_JournalTorn fun ls => Rv (tup_comptoirlaw23_JournalTorn ls))) (st_comptoirlaw23_JournalTorn_2 x0 x1 x2 l4 l5)
  | .inr (.inr (.inr (.inl ((l6, l7, b0))))) => headC E_comptoirlaw23_JournalTorn [.r, .r, .r, .r, .l, .r] b_comptoirlaw23_JournalTorn (bodyK E_comptoirlaw23_JournalTorn Try.f11 (outP O_comptoirlaw23_JournalTorn fun ls => Rv (tup_comptoirlaw23_JournalTorn ls))) (st_comptoirlaw23_JournalTorn_3 x0 x1 x2 l6 l7 b0)
  | .inr (.inr (.inr (.inr (.inl ((i2, i3, l8, l9, i8, i9, i10, i11, i12)))))) => headL E_comptoirlaw23_JournalTorn [.r, .r, .r, .r, .r, .r, .r, .l, .r, .d] b_comptoirlaw23_JournalTorn 1000 (bodyK E_comptoirlaw23_JournalTorn Try.f11 (outP O_comptoirlaw23_JournalTorn fun ls => Rv (tup_comptoirlaw23_JournalTorn ls))) (st_comptoirlaw23_JournalTorn_4 x0 x1 x2 i2 i3 l8 l9 i8 i9 i10 i11 i12)
  | .inr (.inr (.inr (.inr (.inr ((i4, i5, i6, l10, l11, i7, i13, i14, i15)))))) => headC E_comptoirlaw23_JournalTorn [.r, .r, .r, .r, .r, .r, .r, .l, .r, .d, .o 1000, .r, .l, .d, .r] b_comptoirlaw23_JournalTorn (bodyK E_comptoirlaw23_JournalTorn Try.f11 (outP O_comptoirlaw23_JournalTorn fun ls => Rv (tup_comptoirlaw23_JournalTorn ls))) (st_comptoirlaw23_JournalTorn_5 x0 x1 x2 i4 i5 i6 l10 l11 i7 i13 i14 i15)
set_option maxRecDepth 100000 in
theorem l_comptoirlaw23_JournalTorn_0 (x0 : List AV) (x1 : Int) (x2 : Int) (Rv : Bool → Prop) (i0 : Int) (l0 : List AV) (l1 : List AV) : stepL E_comptoirlaw23_JournalTorn [.r, .r, .r, .l, .r, .d] b_comptoirlaw23_JournalTorn 1000 (bodyK E_comptoirlaw23_JournalTorn Try.f11 (outP O_comptoirlaw23_JournalTorn fun ls => Rv (tup_comptoirlaw23_JournalTorn ls))) (st_comptoirlaw23_JournalTorn_0 x0 x1 x2 i0 l0 l1) =
  (M_comptoirlaw23_JournalTorn x0 x1 x2 (.inl ((i0, l0, l1)))).fold False (Sum.elim (L_comptoirlaw23_JournalTorn x0 x1 x2 Rv) Rv) := by kernel_rfl
set_option maxRecDepth 100000 in
theorem l_comptoirlaw23_JournalTorn_1 (x0 : List AV) (x1 : Int) (x2 : Int) (Rv : Bool → Prop) (i1 : Int) (l2 : List AV) (l3 : List AV) : stepC E_comptoirlaw23_JournalTorn [.r, .r, .r, .l, .r, .d, .o 1000, .r] b_comptoirlaw23_JournalTorn (bodyK E_comptoirlaw23_JournalTorn Try.f11 (outP O_comptoirlaw23_JournalTorn fun ls => Rv (tup_comptoirlaw23_JournalTorn ls))) (st_comptoirlaw23_JournalTorn_1 x0 x1 x2 i1 l2 l3) =
  (M_comptoirlaw23_JournalTorn x0 x1 x2 (.inr (.inl ((i1, l2, l3))))).fold False (Sum.elim (L_comptoirlaw23_JournalTorn x0 x1 x2 Rv) Rv) := by kernel_rfl
set_option maxRecDepth 100000 in
theorem l_comptoirlaw23_JournalTorn_2 (x0 : List AV) (x1 : Int) (x2 : Int) (Rv : Bool → Prop) (l4 : List AV) (l5 : List AV) : stepC E_comptoirlaw23_JournalTorn [.r, .r, .r, .r] b_comptoirlaw23_JournalTorn (bodyK E_comptoirlaw23_JournalTorn Try.f11 (outP O_comptoirlaw23_JournalTorn fun ls => Rv (tup_comptoirlaw23_JournalTorn ls))) (st_comptoirlaw23_JournalTorn_2 x0 x1 x2 l4 l5) =
  (M_comptoirlaw23_JournalTorn x0 x1 x2 (.inr (.inr (.inl ((l4, l5)))))).fold False (Sum.elim (L_comptoirlaw23_JournalTorn x0 x1 x2 Rv) Rv) := by kernel_rfl
set_option maxRecDepth 100000 in
theorem l_comptoirlaw23_JournalTorn_3 (x0 : List AV) (x1 : Int) (x2 : Int) (Rv : Bool → Prop) (l6 : List AV) (l7 : List AV) (b0 : Bool) : stepC E_comptoirlaw23_JournalTorn [.r, .r, .r, .r, .l, .r] b_comptoirlaw23_JournalTorn (bodyK E_comptoirlaw23_JournalTorn Try.f11 (outP O_comptoirlaw23_JournalTorn fun ls => Rv (tup_comptoirlaw23_JournalTorn ls))) (st_comptoirlaw23_JournalTorn_3 x0 x1 x2 l6 l7 b0) =
  (M_comptoirlaw23_JournalTorn x0 x1 x2 (.inr (.inr (.inr (.inl ((l6, l7, b0))))))).fold False (Sum.elim (L_comptoirlaw23_JournalTorn x0 x1 x2 Rv) Rv) := by kernel_rfl
set_option maxRecDepth 100000 in
theorem l_comptoirlaw23_JournalTorn_4 (x0 : List AV) (x1 : Int) (x2 : Int) (Rv : Bool → Prop) (i2 : Int) (i3 : Int) (l8 : List AV) (l9 : List AV) (i8 : Int) (i9 : Int) (i10 : Int) (i11 : Int) (i12 : Int) : stepL E_comptoirlaw23_JournalTorn [.r, .r, .r, .r, .r, .r, .r, .l, .r, .d] b_comptoirlaw23_JournalTorn 1000 (bodyK E_comptoirlaw23_JournalTorn Try.f11 (outP O_comptoirlaw23_JournalTorn fun ls => Rv (tup_comptoirlaw23_JournalTorn ls))) (st_comptoirlaw23_JournalTorn_4 x0 x1 x2 i2 i3 l8 l9 i8 i9 i10 i11 i12) =
  (M_comptoirlaw23_JournalTorn x0 x1 x2 (.inr (.inr (.inr (.inr (.inl ((i2, i3, l8, l9, i8, i9, i10, i11, i12)))))))).fold False (Sum.elim (L_comptoirlaw23_JournalTorn x0 x1 x2 Rv) Rv) := by kernel_rfl
set_option maxRecDepth 100000 in
theorem l_comptoirlaw23_JournalTorn_5 (x0 : List AV) (x1 : Int) (x2 : Int) (Rv : Bool → Prop) (i4 : Int) (i5 : Int) (i6 : Int) (l10 : List AV) (l11 : List AV) (i7 : Int) (i13 : Int) (i14 : Int) (i15 : Int) : stepC E_comptoirlaw23_JournalTorn [.r, .r, .r, .r, .r, .r, .r, .l, .r, .d, .o 1000, .r, .l, .d, .r] b_comptoirlaw23_JournalTorn (bodyK E_comptoirlaw23_JournalTorn Try.f11 (outP O_comptoirlaw23_JournalTorn fun ls => Rv (tup_comptoirlaw23_JournalTorn ls))) (st_comptoirlaw23_JournalTorn_5 x0 x1 x2 i4 i5 i6 l10 l11 i7 i13 i14 i15) =
  (M_comptoirlaw23_JournalTorn x0 x1 x2 (.inr (.inr (.inr (.inr (.inr ((i4, i5, i6, l10, l11, i7, i13, i14, i15)))))))).fold False (Sum.elim (L_comptoirlaw23_JournalTorn x0 x1 x2 Rv) Rv) := by kernel_rfl
set_option maxRecDepth 100000 in
theorem e_comptoirlaw23_JournalTorn_0 (x0 : List AV) (x1 : Int) (x2 : Int) (Rv : Bool → Prop) (i0 : Int) (l0 : List AV) (l1 : List AV) : L_comptoirlaw23_JournalTorn x0 x1 x2 Rv (.inl ((i0, l0, l1))) = headL E_comptoirlaw23_JournalTorn [.r, .r, .r, .l, .r, .d] b_comptoirlaw23_JournalTorn 1000 (bodyK E_comptoirlaw23_JournalTorn Try.f11 (outP O_comptoirlaw23_JournalTorn fun ls => Rv (tup_comptoirlaw23_JournalTorn ls))) (st_comptoirlaw23_JournalTorn_0 x0 x1 x2 i0 l0 l1) := by kernel_rfl
set_option maxRecDepth 100000 in
theorem e_comptoirlaw23_JournalTorn_1 (x0 : List AV) (x1 : Int) (x2 : Int) (Rv : Bool → Prop) (i1 : Int) (l2 : List AV) (l3 : List AV) : L_comptoirlaw23_JournalTorn x0 x1 x2 Rv (.inr (.inl ((i1, l2, l3)))) = headC E_comptoirlaw23_JournalTorn [.r, .r, .r, .l, .r, .d, .o 1000, .r] b_comptoirlaw23_JournalTorn (bodyK E_comptoirlaw23_JournalTorn Try.f11 (outP O_comptoirlaw23_JournalTorn fun ls => Rv (tup_comptoirlaw23_JournalTorn ls))) (st_comptoirlaw23_JournalTorn_1 x0 x1 x2 i1 l2 l3) := by kernel_rfl
set_option maxRecDepth 100000 in
theorem e_comptoirlaw23_JournalTorn_2 (x0 : List AV) (x1 : Int) (x2 : Int) (Rv : Bool → Prop) (l4 : List AV) (l5 : List AV) : L_comptoirlaw23_JournalTorn x0 x1 x2 Rv (.inr (.inr (.inl ((l4, l5))))) = headC E_comptoirlaw23_JournalTorn [.r, .r, .r, .r] b_comptoirlaw23_JournalTorn (bodyK E_comptoirlaw23_JournalTorn Try.f11 (outP O_comptoirlaw23_JournalTorn fun ls => Rv (tup_comptoirlaw23_JournalTorn ls))) (st_comptoirlaw23_JournalTorn_2 x0 x1 x2 l4 l5) := by kernel_rfl
set_option maxRecDepth 100000 in
theorem e_comptoirlaw23_JournalTorn_3 (x0 : List AV) (x1 : Int) (x2 : Int) (Rv : Bool → Prop) (l6 : List AV) (l7 : List AV) (b0 : Bool) : L_comptoirlaw23_JournalTorn x0 x1 x2 Rv (.inr (.inr (.inr (.inl ((l6, l7, b0)))))) = headC E_comptoirlaw23_JournalTorn [.r, .r, .r, .r, .l, .r] b_comptoirlaw23_JournalTorn (bodyK E_comptoirlaw23_JournalTorn Try.f11 (outP O_comptoirlaw23_JournalTorn fun ls => Rv (tup_comptoirlaw23_JournalTorn ls))) (st_comptoirlaw23_JournalTorn_3 x0 x1 x2 l6 l7 b0) := by kernel_rfl
set_option maxRecDepth 100000 in
theorem e_comptoirlaw23_JournalTorn_4 (x0 : List AV) (x1 : Int) (x2 : Int) (Rv : Bool → Prop) (i2 : Int) (i3 : Int) (l8 : List AV) (l9 : List AV) (i8 : Int) (i9 : Int) (i10 : Int) (i11 : Int) (i12 : Int) : L_comptoirlaw23_JournalTorn x0 x1 x2 Rv (.inr (.inr (.inr (.inr (.inl ((i2, i3, l8, l9, i8, i9, i10, i11, i12))))))) = headL E_comptoirlaw23_JournalTorn [.r, .r, .r, .r, .r, .r, .r, .l, .r, .d] b_comptoirlaw23_JournalTorn 1000 (bodyK E_comptoirlaw23_JournalTorn Try.f11 (outP O_comptoirlaw23_JournalTorn fun ls => Rv (tup_comptoirlaw23_JournalTorn ls))) (st_comptoirlaw23_JournalTorn_4 x0 x1 x2 i2 i3 l8 l9 i8 i9 i10 i11 i12) := by kernel_rfl
set_option maxRecDepth 100000 in
theorem e_comptoirlaw23_JournalTorn_5 (x0 : List AV) (x1 : Int) (x2 : Int) (Rv : Bool → Prop) (i4 : Int) (i5 : Int) (i6 : Int) (l10 : List AV) (l11 : List AV) (i7 : Int) (i13 : Int) (i14 : Int) (i15 : Int) : L_comptoirlaw23_JournalTorn x0 x1 x2 Rv (.inr (.inr (.inr (.inr (.inr ((i4, i5, i6, l10, l11, i7, i13, i14, i15))))))) = headC E_comptoirlaw23_JournalTorn [.r, .r, .r, .r, .r, .r, .r, .l, .r, .d, .o 1000, .r, .l, .d, .r] b_comptoirlaw23_JournalTorn (bodyK E_comptoirlaw23_JournalTorn Try.f11 (outP O_comptoirlaw23_JournalTorn fun ls => Rv (tup_comptoirlaw23_JournalTorn ls))) (st_comptoirlaw23_JournalTorn_5 x0 x1 x2 i4 i5 i6 l10 l11 i7 i13 i14 i15) := by kernel_rfl
section
attribute [local irreducible] Tr.fold M_comptoirlaw23_JournalTorn L_comptoirlaw23_JournalTorn T_comptoirlaw23_JournalTorn E_comptoirlaw23_JournalTorn b_comptoirlaw23_JournalTorn bodyK headC headL stepC stepL wpX callA
set_option maxRecDepth 100000 in
theorem h_comptoirlaw23_JournalTorn (x0 : List AV) (x1 : Int) (x2 : Int) (Rv : Bool → Prop) : ∀ s, (M_comptoirlaw23_JournalTorn x0 x1 x2 s).fold False (Sum.elim (L_comptoirlaw23_JournalTorn x0 x1 x2 Rv) Rv) → L_comptoirlaw23_JournalTorn x0 x1 x2 Rv s := by
  rintro (⟨v0, v1, v2⟩ | ⟨v0, v1, v2⟩ | ⟨v0, v1⟩ | ⟨v0, v1, v2⟩ | ⟨v0, v1, v2, v3, v4, v5, v6, v7, v8⟩ | ⟨v0, v1, v2, v3, v4, v5, v6, v7, v8⟩)
  · exact fun h => Eq.mpr (e_comptoirlaw23_JournalTorn_0 x0 x1 x2 Rv v0 v1 v2) (headL_of (Eq.mpr (l_comptoirlaw23_JournalTorn_0 x0 x1 x2 Rv v0 v1 v2) h))
  · exact fun h => Eq.mpr (e_comptoirlaw23_JournalTorn_1 x0 x1 x2 Rv v0 v1 v2) (headC_of (Eq.mpr (l_comptoirlaw23_JournalTorn_1 x0 x1 x2 Rv v0 v1 v2) h))
  · exact fun h => Eq.mpr (e_comptoirlaw23_JournalTorn_2 x0 x1 x2 Rv v0 v1) (headC_of (Eq.mpr (l_comptoirlaw23_JournalTorn_2 x0 x1 x2 Rv v0 v1) h))
  · exact fun h => Eq.mpr (e_comptoirlaw23_JournalTorn_3 x0 x1 x2 Rv v0 v1 v2) (headC_of (Eq.mpr (l_comptoirlaw23_JournalTorn_3 x0 x1 x2 Rv v0 v1 v2) h))
  · exact fun h => Eq.mpr (e_comptoirlaw23_JournalTorn_4 x0 x1 x2 Rv v0 v1 v2 v3 v4 v5 v6 v7 v8) (headL_of (Eq.mpr (l_comptoirlaw23_JournalTorn_4 x0 x1 x2 Rv v0 v1 v2 v3 v4 v5 v6 v7 v8) h))
  · exact fun h => Eq.mpr (e_comptoirlaw23_JournalTorn_5 x0 x1 x2 Rv v0 v1 v2 v3 v4 v5 v6 v7 v8) (headC_of (Eq.mpr (l_comptoirlaw23_JournalTorn_5 x0 x1 x2 Rv v0 v1 v2 v3 v4 v5 v6 v7 v8) h))
set_option maxRecDepth 100000 in
theorem c_comptoirlaw23_JournalTorn (ls : List AV) (Rv : Bool → Prop) : callA E_comptoirlaw23_JournalTorn Try.f11 (instL ls P_comptoirlaw23_JournalTorn 0) [] (outP O_comptoirlaw23_JournalTorn fun ls => Rv (tup_comptoirlaw23_JournalTorn ls)) = (T_comptoirlaw23_JournalTorn (getXs (ls.getD 0 .junk)) (getI (ls.getD 1 .junk)) (getI (ls.getD 2 .junk))).fold False (Sum.elim (L_comptoirlaw23_JournalTorn (getXs (ls.getD 0 .junk)) (getI (ls.getD 1 .junk)) (getI (ls.getD 2 .junk)) Rv) Rv) := by kernel_rfl
end
theorem eok_comptoirlaw23_JournalTorn : EnOK E_comptoirlaw23_JournalTorn := TblOK.enK (TblOK.add TYbG1121t_ok (Sound.frzAr S_journal_Scan_ok)) _ _ _ _ _


end Go.Proofs.Ytaejmfmamhdlhaa
