/- Printed: what the functions that a statement reaches come to. -/
import Derived.Test.YtaejmfmamhdlhaaYbB
namespace Go.Proofs.Ytaejmfmamhdlhaa
open Go.Cx Go.Cx.AV
set_option linter.unusedVariables false
/- comptoir/link.New -/
noncomputable def E_link_New : En := enK Try.prog T0t [] [] [] [] 1
def P_link_New : List Pat := []
def Q_link_New : List OPat := []
def O_link_New : Pat := .lit (.ptr 0 0)
def OO_link_New : List OPat := [.fix 68 [.leaf (.slice 1 (.int .u8)), .leaf .bool]]
def tup_link_New : List AV → List AV × Bool := fun ls => (getXs (ls.getD 0 .junk), getB (ls.getD 1 .junk))
def res_link_New : List AV × Bool → AV × List Ob := fun x => (.ptr 0 0, [.fix 68 [.slice 1 (.int .u8) (x.1) .ro, .bool (x.2)]])
noncomputable def T_link_New : Tr (List AV × Bool) := (.r (([], Bool.false)))
noncomputable def g_link_New : Option (List AV × Bool) := (T_link_New).val
set_option maxRecDepth 100000 in
theorem c_link_New (ls : List AV) (Rv : List AV × Bool → Prop) : callA E_link_New Try.f23 (instL ls P_link_New 0) (instH ls Q_link_New 0) (outH O_link_New OO_link_New fun ls => Rv (tup_link_New ls)) = (T_link_New).fold False Rv := by kernel_rfl
noncomputable def S_link_New : Go.Cx.Spec := heapS (patH P_link_New Q_link_New fun ls => opt (g_link_New) fun x => .r (res_link_New x))
set_option maxRecDepth 100000 in
theorem S_link_New_ok : Sound Try.prog 23 S_link_New :=
  heap_flat (E := E_link_New) (TblOK.enK T0t_ok _ _ _ _ _) mixed Try.func23 (c := Try.f23.body.getD .skip) (by kernel_rfl) (by kernel_rfl) (by decide) (pats := P_link_New) (ops := Q_link_New) (OO := OO_link_New) (O := O_link_New) (tup := tup_link_New) (res := res_link_New) (g := fun ls => g_link_New) (T := fun ls => T_link_New) (fun _ => rfl) (fun ls => by kernel_rfl) c_link_New

noncomputable def TYbG61t : FuncId → Option Go.Cx.Spec := addT T0t 23 S_link_New
theorem TYbG61t_ok : TblOK Try.prog TYbG61t := T0t_ok.add S_link_New_ok

/- slices.Grow[[]byte,byte] -/
noncomputable def E_slices_Grow_byte_byte : En := enK Try.prog TYbG61t [25] [(3, ⟨[2, 3, 4, 5, 6, 7, 8, 9, 10, 11, 12, 13, 14, 15, 16, 17, 18, 19, 20, 21, 22, 23, 24, 25, 26], [], [], some 1000, [], []⟩), (6, ⟨[1, 2, 3, 4, 5, 6, 7, 8, 9, 10, 11, 12, 13, 14, 15, 16, 17, 18, 19, 20, 21, 22, 23, 24, 25, 26], [], [], some 1000, [], []⟩)] [(6, [(1000000, 5, (.int .u8))])] [] 1
def P_slices_Grow_byte_byte : List Pat := [.lit .nilsl, .leaf (.int .i64)]
def Q_slices_Grow_byte_byte : List OPat := []
def O_slices_Grow_byte_byte : Pat := .own 0 1 0
def OO_slices_Grow_byte_byte : List OPat := [.grow 5 1 1 (.int .u8)]
def tup_slices_Grow_byte_byte : List AV → List AV := fun ls => getXs (ls.getD 0 .junk)
def res_slices_Grow_byte_byte : List AV → AV × List Ob := fun x => (.oslice 0 1 (List.length (x)), [.grow 5 1 1 (.int .u8) (x)])
noncomputable def T_slices_Grow_byte_byte (x0 : Int) : Tr (((Unit) ⊕ (Unit)) ⊕ (List AV)) := (.c (Decidable.decide (x0 < (0 : Int))) .bad (.r (.inl (.inl (())))))
noncomputable def M_slices_Grow_byte_byte (x0 : Int) : (Unit) ⊕ (Unit) → Tr (((Unit) ⊕ (Unit)) ⊕ (List AV))
  | .inl (()) => (.c (Decidable.decide (Go.IntKind.wrap Go.IntKind.i64 (x0 - (0 : Int)) > (0 : Int))) (.c (Decidable.decide ((0 : Int) < Go.IntKind.wrap Go.IntKind.i64 (x0 - (0 : Int)))) (.c (Decidable.decide (List.length (List.replicate (Int.toNat (Go.IntKind.wrap Go.IntKind.i64 (x0 - (0 : Int)))) (Go.Cx.AV.int Go.IntKind.u8 (0 : Int))) * (2 : Nat) < (70368744177664 : Nat))) (.c (List.length (List.replicate (Int.toNat (Go.IntKind.wrap Go.IntKind.i64 (x0 - (0 : Int)))) (Go.Cx.AV.int Go.IntKind.u8 (0 : Int))) == List.length (List.replicate (Int.toNat (Go.IntKind.wrap Go.IntKind.i64 (x0 - (0 : Int)))) (Go.Cx.AV.int Go.IntKind.u8 (0 : Int)))) (.r (.inl (.inr (())))) .bad) .bad) .bad) (.r (.inl (.inr (())))))
  | .inr (()) => (.c ((0 : Nat) == List.length ([] : List AV)) (.r (.inr ([]))) .bad)
noncomputable def g_slices_Grow_byte_byte (x0 : Int) : Option (List AV) := run (M_slices_Grow_byte_byte x0) (T_slices_Grow_byte_byte x0)
noncomputable def b_slices_Grow_byte_byte := Try.f54.body.getD .skip
noncomputable def st_slices_Grow_byte_byte_0 (x0 : Int) : St := ⟨[Go.Cx.AV.nilsl, Go.Cx.AV.int Go.IntKind.i64 x0, Go.Cx.AV.junk, Go.Cx.AV.junk, Go.Cx.AV.junk, Go.Cx.AV.junk, Go.Cx.AV.junk, Go.Cx.AV.junk, Go.Cx.AV.junk, Go.Cx.AV.junk, Go.Cx.AV.junk, Go.Cx.AV.junk, Go.Cx.AV.junk, Go.Cx.AV.junk, Go.Cx.AV.junk, Go.Cx.AV.junk, Go.Cx.AV.junk, Go.Cx.AV.junk, Go.Cx.AV.junk, Go.Cx.AV.junk, Go.Cx.AV.junk, Go.Cx.AV.junk, Go.Cx.AV.junk, Go.Cx.AV.junk, Go.Cx.AV.junk, Go.Cx.AV.junk, Go.Cx.AV.junk], []⟩
noncomputable def st_slices_Grow_byte_byte_1 (x0 : Int) : St := ⟨[Go.Cx.AV.oslice (0 : Nat) (1 : Nat) (0 : Nat), Go.Cx.AV.junk, Go.Cx.AV.junk, Go.Cx.AV.junk, Go.Cx.AV.junk, Go.Cx.AV.junk, Go.Cx.AV.junk, Go.Cx.AV.junk, Go.Cx.AV.junk, Go.Cx.AV.junk, Go.Cx.AV.junk, Go.Cx.AV.junk, Go.Cx.AV.junk, Go.Cx.AV.junk, Go.Cx.AV.junk, Go.Cx.AV.junk, Go.Cx.AV.junk, Go.Cx.AV.junk, Go.Cx.AV.junk, Go.Cx.AV.junk, Go.Cx.AV.junk, Go.Cx.AV.junk, Go.Cx.AV.junk, Go.Cx.AV.junk, Go.Cx.AV.junk, Go.Cx.AV.junk, Go.Cx.AV.junk], [Go.Cx.Ob.grow (5 : Nat) (1 : Nat) (1 : Nat) (Go.Cx.Sh.int Go.IntKind.u8) []]⟩
noncomputable def L_slices_Grow_byte_byte (x0 : Int) (Rv : List AV → Prop) : (Unit) ⊕ (Unit) → Prop
  | .inl (()) => headC E_slices_Grow_byte_byte [.r, .r] b_slices_Grow_byte_byte (bodyK E_slices_Grow_byte_byte Try.f54 (outH O_slices_Grow_byte_byte OO_slices_Grow_byte_byte fun ls => Rv (tup_slices_Grow_byte_byte ls))) (st_slices_Grow_byte_byte_0 x0)
  | .inr (()) => headC E_slices_Grow_byte_byte [.r, .r, .r] b_slices_Grow_byte_byte (bodyK E_slices_Grow_byte_byte Try.f54 (outH O_slices_Grow_byte_byte OO_slices_Grow_byte_byte fun ls => Rv (tup_slices_Grow_byte_byte ls))) (st_slices_Grow_byte_byte_1 x0)
set_option maxRecDepth 100000 in
theorem l_slices_Grow_byte_byte_0 (x0 : Int) (Rv : List AV → Prop) : stepC E_slices_Grow_byte_byte [.r, .r] b_slices_Grow_byte_byte (bodyK E_slices_Grow_byte_byte Try.f54 (outH O_slices_Grow_byte_byte OO_slices_Grow_byte_byte fun ls => Rv (tup_slices_Grow_byte_byte ls))) (st_slices_Grow_byte_byte_0 x0) =
  (M_slices_Grow_byte_byte x0 (.inl (()))).fold False (Sum.elim (L_slices_Grow_byte_byte x0 Rv) Rv) := by kernel_rfl
set_option maxRecDepth 100000 in
theorem l_slices_Grow_byte_byte_1 (x0 : Int) (Rv : List AV → Prop) : stepC E_slices_Grow_byte_byte [.r, .r, .r] b_slices_Grow_byte_byte (bodyK E_slices_Grow_byte_byte Try.f54 (outH O_slices_Grow_byte_byte OO_slices_Grow_byte_byte fun ls => Rv (tup_slices_Grow_byte_byte ls))) (st_slices_Grow_byte_byte_1 x0) =
  (M_slices_Grow_byte_byte x0 (.inr (()))).fold False (Sum.elim (L_slices_Grow_byte_byte x0 Rv) Rv) := by kernel_rfl
set_option maxRecDepth 100000 in
theorem e_slices_Grow_byte_byte_0 (x0 : Int) (Rv : List AV → Prop) : L_slices_Grow_byte_byte x0 Rv (.inl (())) = headC E_slices_Grow_byte_byte [.r, .r] b_slices_Grow_byte_byte (bodyK E_slices_Grow_byte_byte Try.f54 (outH O_slices_Grow_byte_byte OO_slices_Grow_byte_byte fun ls => Rv (tup_slices_Grow_byte_byte ls))) (st_slices_Grow_byte_byte_0 x0) := by kernel_rfl
set_option maxRecDepth 100000 in
theorem e_slices_Grow_byte_byte_1 (x0 : Int) (Rv : List AV → Prop) : L_slices_Grow_byte_byte x0 Rv (.inr (())) = headC E_slices_Grow_byte_byte [.r, .r, .r] b_slices_Grow_byte_byte (bodyK E_slices_Grow_byte_byte Try.f54 (outH O_slices_Grow_byte_byte OO_slices_Grow_byte_byte fun ls => Rv (tup_slices_Grow_byte_byte ls))) (st_slices_Grow_byte_byte_1 x0) := by kernel_rfl
section
attribute [local irreducible] Tr.fold M_slices_Grow_byte_byte L_slices_Grow_byte_byte T_slices_Grow_byte_byte E_slices_Grow_byte_byte b_slices_Grow_byte_byte bodyK headC headL stepC stepL wpX callA
set_option maxRecDepth 100000 in
theorem h_slices_Grow_byte_byte (x0 : Int) (Rv : List AV → Prop) : ∀ s, (M_slices_Grow_byte_byte x0 s).fold False (Sum.elim (L_slices_Grow_byte_byte x0 Rv) Rv) → L_slices_Grow_byte_byte x0 Rv s := by
  rintro (⟨⟩ | ⟨⟩)
  · exact fun h => Eq.mpr (e_slices_Grow_byte_byte_0 x0 Rv) (headC_of (Eq.mpr (l_slices_Grow_byte_byte_0 x0 Rv) h))
  · exact fun h => Eq.mpr (e_slices_Grow_byte_byte_1 x0 Rv) (headC_of (Eq.mpr (l_slices_Grow_byte_byte_1 x0 Rv) h))
set_option maxRecDepth 100000 in
theorem c_slices_Grow_byte_byte (ls : List AV) (Rv : List AV → Prop) : callA E_slices_Grow_byte_byte Try.f54 (instL ls P_slices_Grow_byte_byte 0) (instH ls Q_slices_Grow_byte_byte 1) (outH O_slices_Grow_byte_byte OO_slices_Grow_byte_byte fun ls => Rv (tup_slices_Grow_byte_byte ls)) = (T_slices_Grow_byte_byte (getI (ls.getD 0 .junk))).fold False (Sum.elim (L_slices_Grow_byte_byte (getI (ls.getD 0 .junk)) Rv) Rv) := by kernel_rfl
end
noncomputable def S_slices_Grow_byte_byte : Go.Cx.Spec := heapS (patH P_slices_Grow_byte_byte Q_slices_Grow_byte_byte fun ls => opt (g_slices_Grow_byte_byte (getI (ls.getD 0 .junk))) fun x => .r (res_slices_Grow_byte_byte x))
set_option maxRecDepth 100000 in
theorem S_slices_Grow_byte_byte_ok : Sound Try.prog 54 S_slices_Grow_byte_byte :=
  heap_mach (E := E_slices_Grow_byte_byte) (TblOK.enK TYbG61t_ok _ _ _ _ _) mixed Try.func54 (c := Try.f54.body.getD .skip) (by kernel_rfl) (by kernel_rfl) (by decide) (pats := P_slices_Grow_byte_byte) (ops := Q_slices_Grow_byte_byte) (OO := OO_slices_Grow_byte_byte) (O := O_slices_Grow_byte_byte) (tup := tup_slices_Grow_byte_byte) (res := res_slices_Grow_byte_byte) (g := fun ls => g_slices_Grow_byte_byte (getI (ls.getD 0 .junk))) (T := fun ls => T_slices_Grow_byte_byte (getI (ls.getD 0 .junk))) (step := fun ls => M_slices_Grow_byte_byte (getI (ls.getD 0 .junk))) (L := fun ls => L_slices_Grow_byte_byte (getI (ls.getD 0 .junk))) (fun _ => rfl) (fun ls => by kernel_rfl) c_slices_Grow_byte_byte (fun ls Rv => h_slices_Grow_byte_byte (getI (ls.getD 0 .junk)) Rv)

noncomputable def TYbG62t : FuncId → Option Go.Cx.Spec := addT TYbG61t 54 S_slices_Grow_byte_byte
theorem TYbG62t_ok : TblOK Try.prog TYbG62t := TYbG61t_ok.add S_slices_Grow_byte_byte_ok

/- slices.Concat[[]byte,byte] -/
noncomputable def E_slices_Concat_byte_byte : En := enK Try.prog TYbG62t [] [(3, ⟨[1, 2, 4, 5, 6, 7, 8, 12, 13, 14, 15, 16, 17, 18, 19, 20, 21, 22, 23, 24, 25, 26, 27, 28, 29, 30, 31, 32, 33, 34, 35], [], [], none, [], []⟩), (11, ⟨[0, 1, 2, 3, 4, 5, 7, 8, 9, 10, 11, 12, 13, 14, 15, 16, 17, 18, 19, 20, 21, 22, 23, 24, 28, 29, 30, 31, 32, 33, 34, 35], [], [], none, [], []⟩)] [] [] 0
def P_slices_Concat_byte_byte : List Pat := [.leaf (.slice 1 (.slice 1 (.int .u8)))]
def O_slices_Concat_byte_byte : Pat := .leaf (.slice 1 (.int .u8))
def tup_slices_Concat_byte_byte : List AV → List AV := fun ls => getXs (ls.getD 0 .junk)
def res_slices_Concat_byte_byte : List AV → AV := fun x => .slice 1 (.int .u8) (x) .ro
noncomputable def T_slices_Concat_byte_byte (x0 : List AV) : Tr (((Int × Int) ⊕ (List AV × Int)) ⊕ (List AV)) := (.r (.inl (.inl (((0 : Int), (0 : Int))))))
noncomputable def M_slices_Concat_byte_byte (x0 : List AV) : (Int × Int) ⊕ (List AV × Int) → Tr (((Int × Int) ⊕ (List AV × Int)) ⊕ (List AV))
  | .inl ((i0, i1)) => (.c (Decidable.decide (i1 < (↑(List.length x0) : Int))) (.c (Decidable.decide ((0 : Int) ≤ i1)) (.c (Decidable.decide (i1 < (↑(List.length x0) : Int))) (.c (Decidable.decide (Go.IntKind.wrap Go.IntKind.i64 (i0 + (↑(List.length (Go.Cx.getXs (List.getD x0 (Int.toNat i1) (Go.Cx.AV.slice (1 : Nat) (Go.Cx.Sh.int Go.IntKind.u8) [] Go.Cx.SK.ro)))) : Int)) < (0 : Int))) .bad (.r (.inl (.inl ((Go.IntKind.wrap Go.IntKind.i64 (i0 + (↑(List.length (Go.Cx.getXs (List.getD x0 (Int.toNat i1) (Go.Cx.AV.slice (1 : Nat) (Go.Cx.Sh.int Go.IntKind.u8) [] Go.Cx.SK.ro)))) : Int)), Go.IntKind.wrap Go.IntKind.i64 (i1 + (1 : Int)))))))) .bad) .bad) (opt (Go.Proofs.Ytaejmfmamhdlhaa.g_slices_Grow_byte_byte i0) fun (y0 : List Go.Cx.AV) => (.r (.inl (.inr ((y0, (0 : Int))))))))
  | .inr ((l0, i2)) => (.c (Decidable.decide (i2 < (↑(List.length x0) : Int))) (.c (Decidable.decide ((0 : Int) ≤ i2)) (.c (Decidable.decide (i2 < (↑(List.length x0) : Int))) (.c (List.length l0 == List.length l0) (.c (Decidable.decide (List.length (l0 ++ Go.Cx.getXs (List.getD x0 (Int.toNat i2) (Go.Cx.AV.slice (1 : Nat) (Go.Cx.Sh.int Go.IntKind.u8) [] Go.Cx.SK.ro))) * (2 : Nat) < (70368744177664 : Nat))) (.r (.inl (.inr ((l0 ++ Go.Cx.getXs (List.getD x0 (Int.toNat i2) (Go.Cx.AV.slice (1 : Nat) (Go.Cx.Sh.int Go.IntKind.u8) [] Go.Cx.SK.ro)), Go.IntKind.wrap Go.IntKind.i64 (i2 + (1 : Int))))))) .bad) .bad) .bad) .bad) (.c (List.length l0 == List.length l0) (.r (.inr (l0))) .bad))
noncomputable def g_slices_Concat_byte_byte (x0 : List AV) : Option (List AV) := run (M_slices_Concat_byte_byte x0) (T_slices_Concat_byte_byte x0)
noncomputable def b_slices_Concat_byte_byte := Try.f44.body.getD .skip
noncomputable def st_slices_Concat_byte_byte_0 (x0 : List AV) (i0 : Int) (i1 : Int) : St := ⟨[Go.Cx.AV.slice (1 : Nat) (Go.Cx.Sh.slice (1 : Nat) (Go.Cx.Sh.int Go.IntKind.u8)) x0 Go.Cx.SK.ro, Go.Cx.AV.junk, Go.Cx.AV.junk, Go.Cx.AV.int Go.IntKind.i64 i0, Go.Cx.AV.junk, Go.Cx.AV.junk, Go.Cx.AV.junk, Go.Cx.AV.junk, Go.Cx.AV.junk, Go.Cx.AV.slice (1 : Nat) (Go.Cx.Sh.slice (1 : Nat) (Go.Cx.Sh.int Go.IntKind.u8)) x0 Go.Cx.SK.ro, Go.Cx.AV.int Go.IntKind.i64 (↑(List.length x0) : Int), Go.Cx.AV.int Go.IntKind.i64 i1, Go.Cx.AV.junk, Go.Cx.AV.junk, Go.Cx.AV.junk, Go.Cx.AV.junk, Go.Cx.AV.junk, Go.Cx.AV.junk, Go.Cx.AV.junk, Go.Cx.AV.junk, Go.Cx.AV.junk, Go.Cx.AV.junk, Go.Cx.AV.junk, Go.Cx.AV.junk, Go.Cx.AV.junk, Go.Cx.AV.junk, Go.Cx.AV.junk, Go.Cx.AV.junk, Go.Cx.AV.junk, Go.Cx.AV.junk, Go.Cx.AV.junk, Go.Cx.AV.junk, Go.Cx.AV.junk, Go.Cx.AV.junk, Go.Cx.AV.junk, Go.Cx.AV.junk], []⟩
noncomputable def st_slices_Concat_byte_byte_1 (x0 : List AV) (l0 : List AV) (i2 : Int) : St := ⟨[Go.Cx.AV.junk, Go.Cx.AV.junk, Go.Cx.AV.junk, Go.Cx.AV.junk, Go.Cx.AV.junk, Go.Cx.AV.junk, Go.Cx.AV.oslice (0 : Nat) (1 : Nat) (List.length l0), Go.Cx.AV.junk, Go.Cx.AV.junk, Go.Cx.AV.junk, Go.Cx.AV.junk, Go.Cx.AV.junk, Go.Cx.AV.junk, Go.Cx.AV.junk, Go.Cx.AV.junk, Go.Cx.AV.junk, Go.Cx.AV.junk, Go.Cx.AV.junk, Go.Cx.AV.junk, Go.Cx.AV.junk, Go.Cx.AV.junk, Go.Cx.AV.junk, Go.Cx.AV.junk, Go.Cx.AV.junk, Go.Cx.AV.junk, Go.Cx.AV.slice (1 : Nat) (Go.Cx.Sh.slice (1 : Nat) (Go.Cx.Sh.int Go.IntKind.u8)) x0 Go.Cx.SK.ro, Go.Cx.AV.int Go.IntKind.i64 (↑(List.length x0) : Int), Go.Cx.AV.int Go.IntKind.i64 i2, Go.Cx.AV.junk, Go.Cx.AV.junk, Go.Cx.AV.junk, Go.Cx.AV.junk, Go.Cx.AV.junk, Go.Cx.AV.junk, Go.Cx.AV.junk, Go.Cx.AV.junk], [Go.Cx.Ob.grow (5 : Nat) (1 : Nat) (1 : Nat) (Go.Cx.Sh.int Go.IntKind.u8) l0]⟩
noncomputable def L_slices_Concat_byte_byte (x0 : List AV) (Rv : List AV → Prop) : (Int × Int) ⊕ (List AV × Int) → Prop
  | .inl ((i0, i1)) => headL E_slices_Concat_byte_byte [.r, .r, .l, .r, .d] b_slices_Concat_byte_byte 0 (bodyK E_slices_Concat_byte_byte Try.f44 (outP O_slices_Concat_byte_byte fun ls => Rv (tup_slices_Concat_byte_byte ls))) (st_slices_Concat_byte_byte_0 x0 i0 i1)
  | .inr ((l0, i2)) => headL E_slices_Concat_byte_byte [.r, .r, .r, .r, .l, .r, .d] b_slices_Concat_byte_byte 1 (bodyK E_slices_Concat_byte_byte Try.f44 (outP O_slices_Concat_byte_byte fun ls => Rv (tup_slices_Concat_byte_byte ls))) (st_slices_Concat_byte_byte_1 x0 l0 i2)
set_option maxRecDepth 100000 in
theorem l_slices_Concat_byte_byte_0 (x0 : List AV) (Rv : List AV → Prop) (i0 : Int) (i1 : Int) : stepL E_slices_Concat_byte_byte [.r, .r, .l, .r, .d] b_slices_Concat_byte_byte 0 (bodyK E_slices_Concat_byte_byte Try.f44 (outP O_slices_Concat_byte_byte fun ls => Rv (tup_slices_Concat_byte_byte ls))) (st_slices_Concat_byte_byte_0 x0 i0 i1) =
  (M_slices_Concat_byte_byte x0 (.inl ((i0, i1)))).fold False (Sum.elim (L_slices_Concat_byte_byte x0 Rv) Rv) := by kernel_rfl
set_option maxRecDepth 100000 in
theorem l_slices_Concat_byte_byte_1 (x0 : List AV) (Rv : List AV → Prop) (l0 : List AV) (i2 : Int) : stepL E_slices_Concat_byte_byte [.r, .r, .r, .r, .l, .r, .d] b_slices_Concat_byte_byte 1 (bodyK E_slices_Concat_byte_byte Try.f44 (outP O_slices_Concat_byte_byte fun ls => Rv (tup_slices_Concat_byte_byte ls))) (st_slices_Concat_byte_byte_1 x0 l0 i2) =
  (M_slices_Concat_byte_byte x0 (.inr ((l0, i2)))).fold False (Sum.elim (L_slices_Concat_byte_byte x0 Rv) Rv) := by kernel_rfl
set_option maxRecDepth 100000 in
theorem e_slices_Concat_byte_byte_0 (x0 : List AV) (Rv : List AV → Prop) (i0 : Int) (i1 : Int) : L_slices_Concat_byte_byte x0 Rv (.inl ((i0, i1))) = headL E_slices_Concat_byte_byte [.r, .r, .l, .r, .d] b_slices_Concat_byte_byte 0 (bodyK E_slices_Concat_byte_byte Try.f44 (outP O_slices_Concat_byte_byte fun ls => Rv (tup_slices_Concat_byte_byte ls))) (st_slices_Concat_byte_byte_0 x0 i0 i1) := by kernel_rfl
set_option maxRecDepth 100000 in
theorem e_slices_Concat_byte_byte_1 (x0 : List AV) (Rv : List AV → Prop) (l0 : List AV) (i2 : Int) : L_slices_Concat_byte_byte x0 Rv (.inr ((l0, i2))) = headL E_slices_Concat_byte_byte [.r, .r, .r, .r, .l, .r, .d] b_slices_Concat_byte_byte 1 (bodyK E_slices_Concat_byte_byte Try.f44 (outP O_slices_Concat_byte_byte fun ls => Rv (tup_slices_Concat_byte_byte ls))) (st_slices_Concat_byte_byte_1 x0 l0 i2) := by kernel_rfl
section
attribute [local irreducible] Tr.fold M_slices_Concat_byte_byte L_slices_Concat_byte_byte T_slices_Concat_byte_byte E_slices_Concat_byte_byte b_slices_Concat_byte_byte bodyK headC headL stepC stepL wpX callA
set_option maxRecDepth 100000 in
theorem h_slices_Concat_byte_byte (x0 : List AV) (Rv : List AV → Prop) : ∀ s, (M_slices_Concat_byte_byte x0 s).fold False (Sum.elim (L_slices_Concat_byte_byte x0 Rv) Rv) → L_slices_Concat_byte_byte x0 Rv s := by
  rintro (⟨v0, v1⟩ | ⟨v0, v1⟩)
  · exact fun h => Eq.mpr (e_slices_Concat_byte_byte_0 x0 Rv v0 v1) (headL_of (Eq.mpr (l_slices_Concat_byte_byte_0 x0 Rv v0 v1) h))
  · exact fun h => Eq.mpr (e_slices_Concat_byte_byte_1 x0 Rv v0 v1) (headL_of (Eq.mpr (l_slices_Concat_byte_byte_1 x0 Rv v0 v1) h))
set_option maxRecDepth 100000 in
theorem c_slices_Concat_byte_byte (ls : List AV) (Rv : List AV → Prop) : callA E_slices_Concat_byte_byte Try.f44 (instL ls P_slices_Concat_byte_byte 0) [] (outP O_slices_Concat_byte_byte fun ls => Rv (tup_slices_Concat_byte_byte ls)) = (T_slices_Concat_byte_byte (getXs (ls.getD 0 .junk))).fold False (Sum.elim (L_slices_Concat_byte_byte (getXs (ls.getD 0 .junk)) Rv) Rv) := by kernel_rfl
end
noncomputable def S_slices_Concat_byte_byte : Go.Cx.Spec := pureS (patF P_slices_Concat_byte_byte fun ls => opt (g_slices_Concat_byte_byte (getXs (ls.getD 0 .junk))) fun x => .r (res_slices_Concat_byte_byte x))
set_option maxRecDepth 100000 in
theorem S_slices_Concat_byte_byte_ok : Sound Try.prog 44 S_slices_Concat_byte_byte :=
  pure_mach (E := E_slices_Concat_byte_byte) (TblOK.enK TYbG62t_ok _ _ _ _ _) mixed rfl Try.func44 (c := Try.f44.body.getD .skip) (by kernel_rfl) (by kernel_rfl) (pats := P_slices_Concat_byte_byte) (O := O_slices_Concat_byte_byte) (tup := tup_slices_Concat_byte_byte) (res := res_slices_Concat_byte_byte) (g := fun ls => g_slices_Concat_byte_byte (getXs (ls.getD 0 .junk))) (T := fun ls => T_slices_Concat_byte_byte (getXs (ls.getD 0 .junk))) (step := fun ls => M_slices_Concat_byte_byte (getXs (ls.getD 0 .junk))) (L := fun ls => L_slices_Concat_byte_byte (getXs (ls.getD 0 .junk))) (fun _ => rfl) (fun ls => by kernel_rfl) c_slices_Concat_byte_byte (fun ls Rv => h_slices_Concat_byte_byte (getXs (ls.getD 0 .junk)) Rv)

noncomputable def TYbG63t : FuncId → Option Go.Cx.Spec := addT TYbG62t 44 S_slices_Concat_byte_byte
theorem TYbG63t_ok : TblOK Try.prog TYbG63t := TYbG62t_ok.add S_slices_Concat_byte_byte_ok

/- comptoir/cursor.New -/
noncomputable def E_cursor_New : En := enK Try.prog TYbG63t [] [] [] [] 1
def P_cursor_New : List Pat := [.leaf (.slice 1 (.int .u8))]
def Q_cursor_New : List OPat := []
def O_cursor_New : Pat := .lit (.ptr 0 0)
def OO_cursor_New : List OPat := [.fix 76 [.leaf (.slice 1 (.int .u8)), .leaf (.int .i64)]]
def tup_cursor_New : List AV → List AV × Int := fun ls => (getXs (ls.getD 0 .junk), getI (ls.getD 1 .junk))
def res_cursor_New : List AV × Int → AV × List Ob := fun x => (.ptr 0 0, [.fix 76 [.slice 1 (.int .u8) (x.1) .ro, .int .i64 (x.2)]])
noncomputable def T_cursor_New (x0 : List AV) : Tr (List AV × Int) := (.c (Decidable.decide (List.length x0 * (2 : Nat) < (70368744177664 : Nat))) (.r ((x0, (0 : Int)))) .bad)
noncomputable def g_cursor_New (x0 : List AV) : Option (List AV × Int) := (T_cursor_New x0).val
set_option maxRecDepth 100000 in
theorem c_cursor_New (ls : List AV) (Rv : List AV × Int → Prop) : callA E_cursor_New Try.f35 (instL ls P_cursor_New 0) (instH ls Q_cursor_New 1) (outH O_cursor_New OO_cursor_New fun ls => Rv (tup_cursor_New ls)) = (T_cursor_New (getXs (ls.getD 0 .junk))).fold False Rv := by kernel_rfl
noncomputable def S_cursor_New : Go.Cx.Spec := heapS (patH P_cursor_New Q_cursor_New fun ls => opt (g_cursor_New (getXs (ls.getD 0 .junk))) fun x => .r (res_cursor_New x))
set_option maxRecDepth 100000 in
theorem S_cursor_New_ok : Sound Try.prog 35 S_cursor_New :=
  heap_flat (E := E_cursor_New) (TblOK.enK TYbG63t_ok _ _ _ _ _) mixed Try.func35 (c := Try.f35.body.getD .skip) (by kernel_rfl) (by kernel_rfl) (by decide) (pats := P_cursor_New) (ops := Q_cursor_New) (OO := OO_cursor_New) (O := O_cursor_New) (tup := tup_cursor_New) (res := res_cursor_New) (g := fun ls => g_cursor_New (getXs (ls.getD 0 .junk))) (T := fun ls => T_cursor_New (getXs (ls.getD 0 .junk))) (fun _ => rfl) (fun ls => by kernel_rfl) c_cursor_New

noncomputable def TYbG64t : FuncId → Option Go.Cx.Spec := addT TYbG63t 35 S_cursor_New
theorem TYbG64t_ok : TblOK Try.prog TYbG64t := TYbG63t_ok.add S_cursor_New_ok

/- (*comptoir/cursor.Cursor).Left -/
noncomputable def E_cursor_Cursor_Left_p : En := enK Try.prog TYbG64t [] [] [] [] 0
def P_cursor_Cursor_Left_p : List Pat := [.rptr [.leaf (.slice 1 (.int .u8)), .leaf (.int .i64)]]
def O_cursor_Cursor_Left_p : Pat := .leaf (.int .i64)
def tup_cursor_Cursor_Left_p : List AV → Int := fun ls => getI (ls.getD 0 .junk)
def res_cursor_Cursor_Left_p : Int → AV := fun x => .int .i64 (x)
noncomputable def T_cursor_Cursor_Left_p (x0 : List AV) (x1 : Int) : Tr (Int) := (.r (Go.IntKind.wrap Go.IntKind.i64 ((↑(List.length x0) : Int) - x1)))
noncomputable def g_cursor_Cursor_Left_p (x0 : List AV) (x1 : Int) : Option (Int) := (T_cursor_Cursor_Left_p x0 x1).val
set_option maxRecDepth 100000 in
theorem c_cursor_Cursor_Left_p (ls : List AV) (Rv : Int → Prop) : callA E_cursor_Cursor_Left_p Try.f56 (instL ls P_cursor_Cursor_Left_p 0) [] (outP O_cursor_Cursor_Left_p fun ls => Rv (tup_cursor_Cursor_Left_p ls)) = (T_cursor_Cursor_Left_p (getXs (ls.getD 0 .junk)) (getI (ls.getD 1 .junk))).fold False Rv := by kernel_rfl
noncomputable def S_cursor_Cursor_Left_p : Go.Cx.Spec := pureS (patF P_cursor_Cursor_Left_p fun ls => opt (g_cursor_Cursor_Left_p (getXs (ls.getD 0 .junk)) (getI (ls.getD 1 .junk))) fun x => .r (res_cursor_Cursor_Left_p x))
set_option maxRecDepth 100000 in
theorem S_cursor_Cursor_Left_p_ok : Sound Try.prog 56 S_cursor_Cursor_Left_p :=
  pure_flat (E := E_cursor_Cursor_Left_p) (TblOK.enK TYbG64t_ok _ _ _ _ _) mixed rfl Try.func56 (c := Try.f56.body.getD .skip) (by kernel_rfl) (by kernel_rfl) (pats := P_cursor_Cursor_Left_p) (O := O_cursor_Cursor_Left_p) (tup := tup_cursor_Cursor_Left_p) (res := res_cursor_Cursor_Left_p) (g := fun ls => g_cursor_Cursor_Left_p (getXs (ls.getD 0 .junk)) (getI (ls.getD 1 .junk))) (T := fun ls => T_cursor_Cursor_Left_p (getXs (ls.getD 0 .junk)) (getI (ls.getD 1 .junk))) (fun _ => rfl) (fun ls => by kernel_rfl) c_cursor_Cursor_Left_p

noncomputable def TYbG65t : FuncId → Option Go.Cx.Spec := addT TYbG64t 56 S_cursor_Cursor_Left_p
theorem TYbG65t_ok : TblOK Try.prog TYbG65t := TYbG64t_ok.add S_cursor_Cursor_Left_p_ok

/- (*comptoir/cursor.Cursor).take -/
noncomputable def E_cursor_Cursor_take_p0500 : En := enK Try.prog TYbG65t [] [] [] [] 1
def P_cursor_Cursor_take_p0500 : List Pat := [.lit (.ptr 0 0), .leaf (.int .i64)]
def Q_cursor_Cursor_take_p0500 : List OPat := [.fix 76 [.leaf (.slice 1 (.int .u8)), .leaf (.int .i64)]]
def O_cursor_Cursor_take_p0500 : Pat := .tuple [.leaf (.slice 1 (.int .u8)), .leaf (.int .i64)]
def OO_cursor_Cursor_take_p0500 : List OPat := [.fix 76 [.leaf (.slice 1 (.int .u8)), .leaf (.int .i64)]]
def tup_cursor_Cursor_take_p0500 : List AV → List AV × Int × List AV × Int := fun ls => (getXs (ls.getD 0 .junk), getI (ls.getD 1 .junk), getXs (ls.getD 2 .junk), getI (ls.getD 3 .junk))
def res_cursor_Cursor_take_p0500 : List AV × Int × List AV × Int → AV × List Ob := fun x => (.tuple [.slice 1 (.int .u8) (x.1) .ro, .int .i64 (x.2.1)], [.fix 76 [.slice 1 (.int .u8) (x.2.2.1) .ro, .int .i64 (x.2.2.2)]])
noncomputable def T_cursor_Cursor_take_p0500 (x0 : Int) (x1 : List AV) (x2 : Int) : Tr (List AV × Int × List AV × Int) := (.c (Decidable.decide (x0 < (0 : Int))) (.r (([], (1 : Int), x1, x2))) (.c (Decidable.decide (x0 > Go.IntKind.wrap Go.IntKind.i64 ((↑(List.length x1) : Int) - x2))) (.r (([], (3 : Int), x1, x2))) (.c (Decidable.decide ((0 : Int) ≤ Go.IntKind.wrap Go.IntKind.i64 (x2 + x0))) (.c (Decidable.decide (Go.IntKind.wrap Go.IntKind.i64 (x2 + x0) ≤ (↑(List.length x1) : Int))) (.c (Decidable.decide ((0 : Int) ≤ Go.IntKind.wrap Go.IntKind.i64 (Go.IntKind.wrap Go.IntKind.i64 (x2 + x0) - x0))) (.c (Decidable.decide (Go.IntKind.wrap Go.IntKind.i64 (Go.IntKind.wrap Go.IntKind.i64 (x2 + x0) - x0) ≤ Go.IntKind.wrap Go.IntKind.i64 (x2 + x0))) (.r ((List.drop (Int.toNat (Go.IntKind.wrap Go.IntKind.i64 (Go.IntKind.wrap Go.IntKind.i64 (x2 + x0) - x0))) (List.take (Int.toNat (Go.IntKind.wrap Go.IntKind.i64 (x2 + x0))) x1), (0 : Int), x1, Go.IntKind.wrap Go.IntKind.i64 (x2 + x0)))) .bad) .bad) .bad) .bad)))
noncomputable def g_cursor_Cursor_take_p0500 (x0 : Int) (x1 : List AV) (x2 : Int) : Option (List AV × Int × List AV × Int) := (T_cursor_Cursor_take_p0500 x0 x1 x2).val
set_option maxRecDepth 100000 in
theorem c_cursor_Cursor_take_p0500 (ls : List AV) (Rv : List AV × Int × List AV × Int → Prop) : callA E_cursor_Cursor_take_p0500 Try.f51 (instL ls P_cursor_Cursor_take_p0500 0) (instH ls Q_cursor_Cursor_take_p0500 1) (outH O_cursor_Cursor_take_p0500 OO_cursor_Cursor_take_p0500 fun ls => Rv (tup_cursor_Cursor_take_p0500 ls)) = (T_cursor_Cursor_take_p0500 (getI (ls.getD 0 .junk)) (getXs (ls.getD 1 .junk)) (getI (ls.getD 2 .junk))).fold False Rv := by kernel_rfl
noncomputable def S_cursor_Cursor_take_p0500 : Go.Cx.Spec := heapS (patH P_cursor_Cursor_take_p0500 Q_cursor_Cursor_take_p0500 fun ls => opt (g_cursor_Cursor_take_p0500 (getI (ls.getD 0 .junk)) (getXs (ls.getD 1 .junk)) (getI (ls.getD 2 .junk))) fun x => .r (res_cursor_Cursor_take_p0500 x))
set_option maxRecDepth 100000 in
theorem S_cursor_Cursor_take_p0500_ok : Sound Try.prog 51 S_cursor_Cursor_take_p0500 :=
  heap_flat (E := E_cursor_Cursor_take_p0500) (TblOK.enK TYbG65t_ok _ _ _ _ _) mixed Try.func51 (c := Try.f51.body.getD .skip) (by kernel_rfl) (by kernel_rfl) (by decide) (pats := P_cursor_Cursor_take_p0500) (ops := Q_cursor_Cursor_take_p0500) (OO := OO_cursor_Cursor_take_p0500) (O := O_cursor_Cursor_take_p0500) (tup := tup_cursor_Cursor_take_p0500) (res := res_cursor_Cursor_take_p0500) (g := fun ls => g_cursor_Cursor_take_p0500 (getI (ls.getD 0 .junk)) (getXs (ls.getD 1 .junk)) (getI (ls.getD 2 .junk))) (T := fun ls => T_cursor_Cursor_take_p0500 (getI (ls.getD 0 .junk)) (getXs (ls.getD 1 .junk)) (getI (ls.getD 2 .junk))) (fun _ => rfl) (fun ls => by kernel_rfl) c_cursor_Cursor_take_p0500

noncomputable def TYbG66t : FuncId → Option Go.Cx.Spec := addT TYbG65t 51 S_cursor_Cursor_take_p0500
theorem TYbG66t_ok : TblOK Try.prog TYbG66t := TYbG65t_ok.add S_cursor_Cursor_take_p0500_ok

/- comptoir/cursor.read -/
noncomputable def E_cursor_read_ftake_0p500 : En := enK Try.prog TYbG66t [] [] [] [] 1
def P_cursor_read_ftake_0p500 : List Pat := [.func 51 [.lit (.ptr 0 0)] [], .leaf (.int .i64)]
def Q_cursor_read_ftake_0p500 : List OPat := [.fix 76 [.leaf (.slice 1 (.int .u8)), .leaf (.int .i64)]]
def O_cursor_read_ftake_0p500 : Pat := .tuple [.leaf (.slice 1 (.int .u8)), .leaf (.int .i64)]
def OO_cursor_read_ftake_0p500 : List OPat := [.fix 76 [.leaf (.slice 1 (.int .u8)), .leaf (.int .i64)]]
def tup_cursor_read_ftake_0p500 : List AV → List AV × Int × List AV × Int := fun ls => (getXs (ls.getD 0 .junk), getI (ls.getD 1 .junk), getXs (ls.getD 2 .junk), getI (ls.getD 3 .junk))
def res_cursor_read_ftake_0p500 : List AV × Int × List AV × Int → AV × List Ob := fun x => (.tuple [.slice 1 (.int .u8) (x.1) .ro, .int .i64 (x.2.1)], [.fix 76 [.slice 1 (.int .u8) (x.2.2.1) .ro, .int .i64 (x.2.2.2)]])
noncomputable def T_cursor_read_ftake_0p500 (x0 : Int) (x1 : List AV) (x2 : Int) : Tr (List AV × Int × List AV × Int) := (opt (Go.Proofs.Ytaejmfmamhdlhaa.g_cursor_Cursor_take_p0500 x0 x1 x2) fun (y0 : List Go.Cx.AV × Int × List Go.Cx.AV × Int) => (.r ((Prod.fst y0, Prod.fst (Prod.snd y0), Prod.fst (Prod.snd (Prod.snd y0)), Prod.snd (Prod.snd (Prod.snd y0))))))
noncomputable def g_cursor_read_ftake_0p500 (x0 : Int) (x1 : List AV) (x2 : Int) : Option (List AV × Int × List AV × Int) := (T_cursor_read_ftake_0p500 x0 x1 x2).val
set_option maxRecDepth 100000 in
theorem c_cursor_read_ftake_0p500 (ls : List AV) (Rv : List AV × Int × List AV × Int → Prop) : callA E_cursor_read_ftake_0p500 Try.f50 (instL ls P_cursor_read_ftake_0p500 0) (instH ls Q_cursor_read_ftake_0p500 1) (outH O_cursor_read_ftake_0p500 OO_cursor_read_ftake_0p500 fun ls => Rv (tup_cursor_read_ftake_0p500 ls)) = (T_cursor_read_ftake_0p500 (getI (ls.getD 0 .junk)) (getXs (ls.getD 1 .junk)) (getI (ls.getD 2 .junk))).fold False Rv := by kernel_rfl
noncomputable def S_cursor_read_ftake_0p500 : Go.Cx.Spec := heapS (patH P_cursor_read_ftake_0p500 Q_cursor_read_ftake_0p500 fun ls => opt (g_cursor_read_ftake_0p500 (getI (ls.getD 0 .junk)) (getXs (ls.getD 1 .junk)) (getI (ls.getD 2 .junk))) fun x => .r (res_cursor_read_ftake_0p500 x))
set_option maxRecDepth 100000 in
theorem S_cursor_read_ftake_0p500_ok : Sound Try.prog 50 S_cursor_read_ftake_0p500 :=
  heap_flat (E := E_cursor_read_ftake_0p500) (TblOK.enK TYbG66t_ok _ _ _ _ _) mixed Try.func50 (c := Try.f50.body.getD .skip) (by kernel_rfl) (by kernel_rfl) (by decide) (pats := P_cursor_read_ftake_0p500) (ops := Q_cursor_read_ftake_0p500) (OO := OO_cursor_read_ftake_0p500) (O := O_cursor_read_ftake_0p500) (tup := tup_cursor_read_ftake_0p500) (res := res_cursor_read_ftake_0p500) (g := fun ls => g_cursor_read_ftake_0p500 (getI (ls.getD 0 .junk)) (getXs (ls.getD 1 .junk)) (getI (ls.getD 2 .junk))) (T := fun ls => T_cursor_read_ftake_0p500 (getI (ls.getD 0 .junk)) (getXs (ls.getD 1 .junk)) (getI (ls.getD 2 .junk))) (fun _ => rfl) (fun ls => by kernel_rfl) c_cursor_read_ftake_0p500

noncomputable def TYbG67t : FuncId → Option Go.Cx.Spec := addT TYbG66t 50 S_cursor_read_ftake_0p500
theorem TYbG67t_ok : TblOK Try.prog TYbG67t := TYbG66t_ok.add S_cursor_read_ftake_0p500_ok

/- (*comptoir/cursor.Cursor).Number -/
noncomputable def E_cursor_Cursor_Number_p0500 : En := enK Try.prog TYbG67t [] [(8, ⟨[0, 1, 2, 3, 4, 5, 6, 9, 10, 11, 12, 13, 14, 15, 16, 17, 18, 19, 20, 21, 22, 23, 24, 25, 26, 27, 31, 32, 33, 34, 35, 36, 37, 38, 39, 40, 41], [], [], none, [], []⟩)] [] [] 1
def P_cursor_Cursor_Number_p0500 : List Pat := [.lit (.ptr 0 0), .leaf (.int .i64)]
def Q_cursor_Cursor_Number_p0500 : List OPat := [.fix 76 [.leaf (.slice 1 (.int .u8)), .leaf (.int .i64)]]
def O_cursor_Cursor_Number_p0500 : Pat := .tuple [.leaf (.int .u64), .leaf (.int .i64)]
def OO_cursor_Cursor_Number_p0500 : List OPat := [.fix 76 [.leaf (.slice 1 (.int .u8)), .leaf (.int .i64)]]
def tup_cursor_Cursor_Number_p0500 : List AV → Int × Int × List AV × Int := fun ls => (getI (ls.getD 0 .junk), getI (ls.getD 1 .junk), getXs (ls.getD 2 .junk), getI (ls.getD 3 .junk))
def res_cursor_Cursor_Number_p0500 : Int × Int × List AV × Int → AV × List Ob := fun x => (.tuple [.int .u64 (x.1), .int .i64 (x.2.1)], [.fix 76 [.slice 1 (.int .u8) (x.2.2.1) .ro, .int .i64 (x.2.2.2)]])
noncomputable def T_cursor_Cursor_Number_p0500 (x0 : Int) (x1 : List AV) (x2 : Int) : Tr ((Int × List AV × Int × List AV × Int × Int × Int) ⊕ (Int × Int × List AV × Int)) := (.c (Decidable.decide (x0 < (1 : Int))) (.r (.inr (((0 : Int), (1 : Int), x1, x2)))) (.c (Decidable.decide (x0 > (8 : Int))) (.r (.inr (((0 : Int), (1 : Int), x1, x2)))) (opt (Go.Proofs.Ytaejmfmamhdlhaa.g_cursor_read_ftake_0p500 x0 x1 x2) fun (y0 : List Go.Cx.AV × Int × List Go.Cx.AV × Int) => (.r (.inl ((Prod.fst (Prod.snd y0), Prod.fst y0, (↑(List.length (Prod.fst y0)) : Int), Prod.fst (Prod.snd (Prod.snd y0)), Prod.snd (Prod.snd (Prod.snd y0)), (0 : Int), (0 : Int))))))))
noncomputable def M_cursor_Cursor_Number_p0500 (x0 : Int) (x1 : List AV) (x2 : Int) : Int × List AV × Int × List AV × Int × Int × Int → Tr ((Int × List AV × Int × List AV × Int × Int × Int) ⊕ (Int × Int × List AV × Int))
  | (i0, l0, i1, l1, i2, i3, i4) => (.c (Decidable.decide (i4 < i1)) (.c (Decidable.decide ((0 : Int) ≤ i4)) (.c (Decidable.decide (i4 < (↑(List.length l0) : Int))) (.r (.inl ((i0, l0, i1, l1, i2, Go.Cx.bitsA Go.BinOp.or Go.IntKind.u64 (Go.Cx.shlA Go.IntKind.u64 i3 (8 : Int)) (Go.IntKind.wrap Go.IntKind.u64 (Go.Cx.getI (List.getD l0 (Int.toNat i4) (Go.Cx.AV.int Go.IntKind.u8 (0 : Int))))), Go.IntKind.wrap Go.IntKind.i64 (i4 + (1 : Int)))))) .bad) .bad) (.r (.inr ((i3, i0, l1, i2)))))
noncomputable def g_cursor_Cursor_Number_p0500 (x0 : Int) (x1 : List AV) (x2 : Int) : Option (Int × Int × List AV × Int) := run (M_cursor_Cursor_Number_p0500 x0 x1 x2) (T_cursor_Cursor_Number_p0500 x0 x1 x2)
noncomputable def b_cursor_Cursor_Number_p0500 := Try.f37.body.getD .skip
noncomputable def st_cursor_Cursor_Number_p0500_0 (x0 : Int) (x1 : List AV) (x2 : Int) (i0 : Int) (l0 : List AV) (i1 : Int) (l1 : List AV) (i2 : Int) (i3 : Int) (i4 : Int) : St := ⟨frOf 0 42 [(7, Go.Cx.AV.int Go.IntKind.i64 i0), (8, Go.Cx.AV.int Go.IntKind.u64 i3), (28, Go.Cx.AV.slice (1 : Nat) (Go.Cx.Sh.int Go.IntKind.u8) l0 Go.Cx.SK.ro), (29, Go.Cx.AV.int Go.IntKind.i64 i1), (30, Go.Cx.AV.int Go.IntKind.i64 i4)], [Go.Cx.Ob.fix (76 : Nat) [Go.Cx.AV.slice (1 : Nat) (Go.Cx.Sh.int Go.IntKind.u8) l1 Go.Cx.SK.ro, Go.Cx.AV.int Go.IntKind.i64 i2]]⟩
noncomputable def L_cursor_Cursor_Number_p0500 (x0 : Int) (x1 : List AV) (x2 : Int) (Rv : Int × Int × List AV × Int → Prop) : Int × List AV × Int × List AV × Int × Int × Int → Prop
  | (i0, l0, i1, l1, i2, i3, i4) => headL E_cursor_Cursor_Number_p0500 [.r, .r, .r, .r, .l, .r, .d] b_cursor_Cursor_Number_p0500 1 (bodyK E_cursor_Cursor_Number_p0500 Try.f37 (outH O_cursor_Cursor_Number_p0500 OO_cursor_Cursor_Number_p0500 fun ls => Rv (tup_cursor_Cursor_Number_p0500 ls))) (st_cursor_Cursor_Number_p0500_0 x0 x1 x2 i0 l0 i1 l1 i2 i3 i4)
set_option maxRecDepth 100000 in
theorem l_cursor_Cursor_Number_p0500_0 (x0 : Int) (x1 : List AV) (x2 : Int) (Rv : Int × Int × List AV × Int → Prop) (i0 : Int) (l0 : List AV) (i1 : Int) (l1 : List AV) (i2 : Int) (i3 : Int) (i4 : Int) : stepL E_cursor_Cursor_Number_p0500 [.r, .r, .r, .r, .l, .r, .d] b_cursor_Cursor_Number_p0500 1 (bodyK E_cursor_Cursor_Number_p0500 Try.f37 (outH O_cursor_Cursor_Number_p0500 OO_cursor_Cursor_Number_p0500 fun ls => Rv (tup_cursor_Cursor_Number_p0500 ls))) (st_cursor_Cursor_Number_p0500_0 x0 x1 x2 i0 l0 i1 l1 i2 i3 i4) =
  (M_cursor_Cursor_Number_p0500 x0 x1 x2 ((i0, l0, i1, l1, i2, i3, i4))).fold False (Sum.elim (L_cursor_Cursor_Number_p0500 x0 x1 x2 Rv) Rv) := by kernel_rfl
set_option maxRecDepth 100000 in
theorem e_cursor_Cursor_Number_p0500_0 (x0 : Int) (x1 : List AV) (x2 : Int) (Rv : Int × Int × List AV × Int → Prop) (i0 : Int) (l0 : List AV) (i1 : Int) (l1 : List AV) (i2 : Int) (i3 : Int) (i4 : Int) : L_cursor_Cursor_Number_p0500 x0 x1 x2 Rv ((i0, l0, i1, l1, i2, i3, i4)) = headL E_cursor_Cursor_Number_p0500 [.r, .r, .r, .r, .l, .r, .d] b_cursor_Cursor_Number_p0500 1 (bodyK E_cursor_Cursor_Number_p0500 Try.f37 (outH O_cursor_Cursor_Number_p0500 OO_cursor_Cursor_Number_p0500 fun ls => Rv (tup_cursor_Cursor_Number_p0500 ls))) (st_cursor_Cursor_Number_p0500_0 x0 x1 x2 i0 l0 i1 l1 i2 i3 i4) := by kernel_rfl
section
attribute [local irreducible] Tr.fold M_cursor_Cursor_Number_p0500 L_cursor_Cursor_Number_p0500 T_cursor_Cursor_Number_p0500 E_cursor_Cursor_Number_p0500 b_cursor_Cursor_Number_p0500 bodyK headC headL stepC stepL wpX callA
set_option maxRecDepth 100000 in
theorem h_cursor_Cursor_Number_p0500 (x0 : Int) (x1 : List AV) (x2 : Int) (Rv : Int × Int × List AV × Int → Prop) : ∀ s, (M_cursor_Cursor_Number_p0500 x0 x1 x2 s).fold False (Sum.elim (L_cursor_Cursor_Number_p0500 x0 x1 x2 Rv) Rv) → L_cursor_Cursor_Number_p0500 x0 x1 x2 Rv s := by
  rintro (⟨v0, v1, v2, v3, v4, v5, v6⟩)
  · exact fun h => Eq.mpr (e_cursor_Cursor_Number_p0500_0 x0 x1 x2 Rv v0 v1 v2 v3 v4 v5 v6) (headL_of (Eq.mpr (l_cursor_Cursor_Number_p0500_0 x0 x1 x2 Rv v0 v1 v2 v3 v4 v5 v6) h))
set_option maxRecDepth 100000 in
theorem c_cursor_Cursor_Number_p0500 (ls : List AV) (Rv : Int × Int × List AV × Int → Prop) : callA E_cursor_Cursor_Number_p0500 Try.f37 (instL ls P_cursor_Cursor_Number_p0500 0) (instH ls Q_cursor_Cursor_Number_p0500 1) (outH O_cursor_Cursor_Number_p0500 OO_cursor_Cursor_Number_p0500 fun ls => Rv (tup_cursor_Cursor_Number_p0500 ls)) = (T_cursor_Cursor_Number_p0500 (getI (ls.getD 0 .junk)) (getXs (ls.getD 1 .junk)) (getI (ls.getD 2 .junk))).fold False (Sum.elim (L_cursor_Cursor_Number_p0500 (getI (ls.getD 0 .junk)) (getXs (ls.getD 1 .junk)) (getI (ls.getD 2 .junk)) Rv) Rv) := by kernel_rfl
end
noncomputable def S_cursor_Cursor_Number_p0500 : Go.Cx.Spec := heapS (patH P_cursor_Cursor_Number_p0500 Q_cursor_Cursor_Number_p0500 fun ls => opt (g_cursor_Cursor_Number_p0500 (getI (ls.getD 0 .junk)) (getXs (ls.getD 1 .junk)) (getI (ls.getD 2 .junk))) fun x => .r (res_cursor_Cursor_Number_p0500 x))
set_option maxRecDepth 100000 in
theorem S_cursor_Cursor_Number_p0500_ok : Sound Try.prog 37 S_cursor_Cursor_Number_p0500 :=
  heap_mach (E := E_cursor_Cursor_Number_p0500) (TblOK.enK TYbG67t_ok _ _ _ _ _) mixed Try.func37 (c := Try.f37.body.getD .skip) (by kernel_rfl) (by kernel_rfl) (by decide) (pats := P_cursor_Cursor_Number_p0500) (ops := Q_cursor_Cursor_Number_p0500) (OO := OO_cursor_Cursor_Number_p0500) (O := O_cursor_Cursor_Number_p0500) (tup := tup_cursor_Cursor_Number_p0500) (res := res_cursor_Cursor_Number_p0500) (g := fun ls => g_cursor_Cursor_Number_p0500 (getI (ls.getD 0 .junk)) (getXs (ls.getD 1 .junk)) (getI (ls.getD 2 .junk))) (T := fun ls => T_cursor_Cursor_Number_p0500 (getI (ls.getD 0 .junk)) (getXs (ls.getD 1 .junk)) (getI (ls.getD 2 .junk))) (step := fun ls => M_cursor_Cursor_Number_p0500 (getI (ls.getD 0 .junk)) (getXs (ls.getD 1 .junk)) (getI (ls.getD 2 .junk))) (L := fun ls => L_cursor_Cursor_Number_p0500 (getI (ls.getD 0 .junk)) (getXs (ls.getD 1 .junk)) (getI (ls.getD 2 .junk))) (fun _ => rfl) (fun ls => by kernel_rfl) c_cursor_Cursor_Number_p0500 (fun ls Rv => h_cursor_Cursor_Number_p0500 (getI (ls.getD 0 .junk)) (getXs (ls.getD 1 .junk)) (getI (ls.getD 2 .junk)) Rv)

noncomputable def TYbG68t : FuncId → Option Go.Cx.Spec := addT TYbG67t 37 S_cursor_Cursor_Number_p0500
theorem TYbG68t_ok : TblOK Try.prog TYbG68t := TYbG67t_ok.add S_cursor_Cursor_Number_p0500_ok

/- (*comptoir/cursor.Cursor).Take -/
noncomputable def E_cursor_Cursor_Take_p0500 : En := enK Try.prog TYbG68t [] [] [] [] 1
def P_cursor_Cursor_Take_p0500 : List Pat := [.lit (.ptr 0 0), .leaf (.int .i64)]
def Q_cursor_Cursor_Take_p0500 : List OPat := [.fix 76 [.leaf (.slice 1 (.int .u8)), .leaf (.int .i64)]]
def O_cursor_Cursor_Take_p0500 : Pat := .tuple [.leaf (.slice 1 (.int .u8)), .leaf (.int .i64)]
def OO_cursor_Cursor_Take_p0500 : List OPat := [.fix 76 [.leaf (.slice 1 (.int .u8)), .leaf (.int .i64)]]
def tup_cursor_Cursor_Take_p0500 : List AV → List AV × Int × List AV × Int := fun ls => (getXs (ls.getD 0 .junk), getI (ls.getD 1 .junk), getXs (ls.getD 2 .junk), getI (ls.getD 3 .junk))
def res_cursor_Cursor_Take_p0500 : List AV × Int × List AV × Int → AV × List Ob := fun x => (.tuple [.slice 1 (.int .u8) (x.1) .ro, .int .i64 (x.2.1)], [.fix 76 [.slice 1 (.int .u8) (x.2.2.1) .ro, .int .i64 (x.2.2.2)]])
noncomputable def T_cursor_Cursor_Take_p0500 (x0 : Int) (x1 : List AV) (x2 : Int) : Tr (List AV × Int × List AV × Int) := (opt (Go.Proofs.Ytaejmfmamhdlhaa.g_cursor_read_ftake_0p500 x0 x1 x2) fun (y0 : List Go.Cx.AV × Int × List Go.Cx.AV × Int) => (.c (Decidable.decide (List.length (Prod.fst y0) * (2 : Nat) < (70368744177664 : Nat))) (.r ((Prod.fst y0, Prod.fst (Prod.snd y0), Prod.fst (Prod.snd (Prod.snd y0)), Prod.snd (Prod.snd (Prod.snd y0))))) .bad))
noncomputable def g_cursor_Cursor_Take_p0500 (x0 : Int) (x1 : List AV) (x2 : Int) : Option (List AV × Int × List AV × Int) := (T_cursor_Cursor_Take_p0500 x0 x1 x2).val
set_option maxRecDepth 100000 in
theorem c_cursor_Cursor_Take_p0500 (ls : List AV) (Rv : List AV × Int × List AV × Int → Prop) : callA E_cursor_Cursor_Take_p0500 Try.f36 (instL ls P_cursor_Cursor_Take_p0500 0) (instH ls Q_cursor_Cursor_Take_p0500 1) (outH O_cursor_Cursor_Take_p0500 OO_cursor_Cursor_Take_p0500 fun ls => Rv (tup_cursor_Cursor_Take_p0500 ls)) = (T_cursor_Cursor_Take_p0500 (getI (ls.getD 0 .junk)) (getXs (ls.getD 1 .junk)) (getI (ls.getD 2 .junk))).fold False Rv := by kernel_rfl
noncomputable def S_cursor_Cursor_Take_p0500 : Go.Cx.Spec := heapS (patH P_cursor_Cursor_Take_p0500 Q_cursor_Cursor_Take_p0500 fun ls => opt (g_cursor_Cursor_Take_p0500 (getI (ls.getD 0 .junk)) (getXs (ls.getD 1 .junk)) (getI (ls.getD 2 .junk))) fun x => .r (res_cursor_Cursor_Take_p0500 x))
set_option maxRecDepth 100000 in
theorem S_cursor_Cursor_Take_p0500_ok : Sound Try.prog 36 S_cursor_Cursor_Take_p0500 :=
  heap_flat (E := E_cursor_Cursor_Take_p0500) (TblOK.enK TYbG68t_ok _ _ _ _ _) mixed Try.func36 (c := Try.f36.body.getD .skip) (by kernel_rfl) (by kernel_rfl) (by decide) (pats := P_cursor_Cursor_Take_p0500) (ops := Q_cursor_Cursor_Take_p0500) (OO := OO_cursor_Cursor_Take_p0500) (O := O_cursor_Cursor_Take_p0500) (tup := tup_cursor_Cursor_Take_p0500) (res := res_cursor_Cursor_Take_p0500) (g := fun ls => g_cursor_Cursor_Take_p0500 (getI (ls.getD 0 .junk)) (getXs (ls.getD 1 .junk)) (getI (ls.getD 2 .junk))) (T := fun ls => T_cursor_Cursor_Take_p0500 (getI (ls.getD 0 .junk)) (getXs (ls.getD 1 .junk)) (getI (ls.getD 2 .junk))) (fun _ => rfl) (fun ls => by kernel_rfl) c_cursor_Cursor_Take_p0500

noncomputable def TYbG69t : FuncId → Option Go.Cx.Spec := addT TYbG68t 36 S_cursor_Cursor_Take_p0500
theorem TYbG69t_ok : TblOK Try.prog TYbG69t := TYbG68t_ok.add S_cursor_Cursor_Take_p0500_ok

/- (*comptoir/cursor.Cursor).At -/
noncomputable def E_cursor_Cursor_At_p : En := enK Try.prog TYbG69t [] [] [] [] 0
def P_cursor_Cursor_At_p : List Pat := [.rptr [.leaf (.slice 1 (.int .u8)), .leaf (.int .i64)]]
def O_cursor_Cursor_At_p : Pat := .leaf (.int .i64)
def tup_cursor_Cursor_At_p : List AV → Int := fun ls => getI (ls.getD 0 .junk)
def res_cursor_Cursor_At_p : Int → AV := fun x => .int .i64 (x)
noncomputable def T_cursor_Cursor_At_p (x0 : List AV) (x1 : Int) : Tr (Int) := (.r (x1))
noncomputable def g_cursor_Cursor_At_p (x0 : List AV) (x1 : Int) : Option (Int) := (T_cursor_Cursor_At_p x0 x1).val
set_option maxRecDepth 100000 in
theorem c_cursor_Cursor_At_p (ls : List AV) (Rv : Int → Prop) : callA E_cursor_Cursor_At_p Try.f55 (instL ls P_cursor_Cursor_At_p 0) [] (outP O_cursor_Cursor_At_p fun ls => Rv (tup_cursor_Cursor_At_p ls)) = (T_cursor_Cursor_At_p (getXs (ls.getD 0 .junk)) (getI (ls.getD 1 .junk))).fold False Rv := by kernel_rfl
noncomputable def S_cursor_Cursor_At_p : Go.Cx.Spec := pureS (patF P_cursor_Cursor_At_p fun ls => opt (g_cursor_Cursor_At_p (getXs (ls.getD 0 .junk)) (getI (ls.getD 1 .junk))) fun x => .r (res_cursor_Cursor_At_p x))
set_option maxRecDepth 100000 in
theorem S_cursor_Cursor_At_p_ok : Sound Try.prog 55 S_cursor_Cursor_At_p :=
  pure_flat (E := E_cursor_Cursor_At_p) (TblOK.enK TYbG69t_ok _ _ _ _ _) mixed rfl Try.func55 (c := Try.f55.body.getD .skip) (by kernel_rfl) (by kernel_rfl) (pats := P_cursor_Cursor_At_p) (O := O_cursor_Cursor_At_p) (tup := tup_cursor_Cursor_At_p) (res := res_cursor_Cursor_At_p) (g := fun ls => g_cursor_Cursor_At_p (getXs (ls.getD 0 .junk)) (getI (ls.getD 1 .junk))) (T := fun ls => T_cursor_Cursor_At_p (getXs (ls.getD 0 .junk)) (getI (ls.getD 1 .junk))) (fun _ => rfl) (fun ls => by kernel_rfl) c_cursor_Cursor_At_p

noncomputable def TYbG610t : FuncId → Option Go.Cx.Spec := addT TYbG69t 55 S_cursor_Cursor_At_p
theorem TYbG610t_ok : TblOK Try.prog TYbG610t := TYbG69t_ok.add S_cursor_Cursor_At_p_ok

/- (*comptoir/link.Link).next -/
noncomputable def E_link_Link_next_p500 : En := enK Try.prog TYbG610t [] [] [] [] 1
def P_link_Link_next_p500 : List Pat := [.lit (.ptr 0 0)]
def Q_link_Link_next_p500 : List OPat := [.fix 68 [.leaf (.slice 1 (.int .u8)), .leaf .bool]]
def O_link_Link_next_p500 : Pat := .tuple [.leaf (.slice 1 (.int .u8)), .leaf .bool]
def OO_link_Link_next_p500 : List OPat := [.fix 68 [.leaf (.slice 1 (.int .u8)), .leaf .bool]]
def tup_link_Link_next_p500 : List AV → List AV × Bool × List AV × Bool := fun ls => (getXs (ls.getD 0 .junk), getB (ls.getD 1 .junk), getXs (ls.getD 2 .junk), getB (ls.getD 3 .junk))
def res_link_Link_next_p500 : List AV × Bool × List AV × Bool → AV × List Ob := fun x => (.tuple [.slice 1 (.int .u8) (x.1) .ro, .bool (x.2.1)], [.fix 68 [.slice 1 (.int .u8) (x.2.2.1) .ro, .bool (x.2.2.2)]])
noncomputable def T_link_Link_next_p500 (x0 : List AV) (x1 : Bool) : Tr (List AV × Bool × List AV × Bool) := (opt (Go.Proofs.Ytaejmfmamhdlhaa.g_cursor_New x0) fun (y0 : List Go.Cx.AV × Int) => (opt (Go.Proofs.Ytaejmfmamhdlhaa.g_cursor_Cursor_Number_p0500 (2 : Int) (Prod.fst y0) (Prod.snd y0)) fun (y1 : Int × Int × List Go.Cx.AV × Int) => (.c (Prod.fst (Prod.snd y1) != (0 : Int)) (.r (([], Bool.false, x0, x1))) (.c (Prod.fst y1 == (0 : Int)) (.r (([], Bool.false, x0, Bool.true))) (.c (Decidable.decide (Prod.fst y1 > (4096 : Int))) (.r (([], Bool.false, x0, Bool.true))) (opt (Go.Proofs.Ytaejmfmamhdlhaa.g_cursor_Cursor_Take_p0500 (Go.IntKind.wrap Go.IntKind.i64 (Prod.fst y1)) (Prod.fst (Prod.snd (Prod.snd y1))) (Prod.snd (Prod.snd (Prod.snd y1)))) fun (y2 : List Go.Cx.AV × Int × List Go.Cx.AV × Int) => (.c (Prod.fst (Prod.snd y2) != (0 : Int)) (.r (([], Bool.false, x0, x1))) (.c (Decidable.decide ((↑(List.length x0) : Int) ≤ (↑(List.length x0) : Int))) (.c (Decidable.decide ((0 : Int) ≤ Prod.snd (Prod.snd (Prod.snd y2)))) (.c (Decidable.decide (Prod.snd (Prod.snd (Prod.snd y2)) ≤ (↑(List.length x0) : Int))) (.r ((Prod.fst y2, Bool.true, List.drop (Int.toNat (Prod.snd (Prod.snd (Prod.snd y2)))) (List.take (List.length x0) x0), x1))) .bad) .bad) .bad))))))))
noncomputable def g_link_Link_next_p500 (x0 : List AV) (x1 : Bool) : Option (List AV × Bool × List AV × Bool) := (T_link_Link_next_p500 x0 x1).val
set_option maxRecDepth 100000 in
theorem c_link_Link_next_p500 (ls : List AV) (Rv : List AV × Bool × List AV × Bool → Prop) : callA E_link_Link_next_p500 Try.f46 (instL ls P_link_Link_next_p500 0) (instH ls Q_link_Link_next_p500 0) (outH O_link_Link_next_p500 OO_link_Link_next_p500 fun ls => Rv (tup_link_Link_next_p500 ls)) = (T_link_Link_next_p500 (getXs (ls.getD 0 .junk)) (getB (ls.getD 1 .junk))).fold False Rv := by kernel_rfl
noncomputable def S_link_Link_next_p500 : Go.Cx.Spec := heapS (patH P_link_Link_next_p500 Q_link_Link_next_p500 fun ls => opt (g_link_Link_next_p500 (getXs (ls.getD 0 .junk)) (getB (ls.getD 1 .junk))) fun x => .r (res_link_Link_next_p500 x))
set_option maxRecDepth 100000 in
theorem S_link_Link_next_p500_ok : Sound Try.prog 46 S_link_Link_next_p500 :=
  heap_flat (E := E_link_Link_next_p500) (TblOK.enK TYbG610t_ok _ _ _ _ _) mixed Try.func46 (c := Try.f46.body.getD .skip) (by kernel_rfl) (by kernel_rfl) (by decide) (pats := P_link_Link_next_p500) (ops := Q_link_Link_next_p500) (OO := OO_link_Link_next_p500) (O := O_link_Link_next_p500) (tup := tup_link_Link_next_p500) (res := res_link_Link_next_p500) (g := fun ls => g_link_Link_next_p500 (getXs (ls.getD 0 .junk)) (getB (ls.getD 1 .junk))) (T := fun ls => T_link_Link_next_p500 (getXs (ls.getD 0 .junk)) (getB (ls.getD 1 .junk))) (fun _ => rfl) (fun ls => by kernel_rfl) c_link_Link_next_p500

noncomputable def TYbG611t : FuncId → Option Go.Cx.Spec := addT TYbG610t 46 S_link_Link_next_p500
theorem TYbG611t_ok : TblOK Try.prog TYbG611t := TYbG610t_ok.add S_link_Link_next_p500_ok

/- comptoir/link.every -/
noncomputable def E_link_every_fnext_p500 : En := enK Try.prog TYbG611t [1000018] [(3, ⟨[1, 2, 6, 7, 8, 9, 10, 11, 12, 13, 14, 15, 16, 17, 18, 19, 20, 21], [], [], none, [], []⟩)] [(3, [(3, 22, (.slice 1 (.int .u8)))])] [] 1
def P_link_every_fnext_p500 : List Pat := [.func 46 [.lit (.ptr 0 0)] []]
def Q_link_every_fnext_p500 : List OPat := [.fix 68 [.leaf (.slice 1 (.int .u8)), .leaf .bool]]
def O_link_every_fnext_p500 : Pat := .leaf (.slice 1 (.slice 1 (.int .u8)))
def OO_link_every_fnext_p500 : List OPat := [.fix 68 [.leaf (.slice 1 (.int .u8)), .leaf .bool]]
def tup_link_every_fnext_p500 : List AV → List AV × List AV × Bool := fun ls => (getXs (ls.getD 0 .junk), getXs (ls.getD 1 .junk), getB (ls.getD 2 .junk))
def res_link_every_fnext_p500 : List AV × List AV × Bool → AV × List Ob := fun x => (.slice 1 (.slice 1 (.int .u8)) (x.1) .ro, [.fix 68 [.slice 1 (.int .u8) (x.2.1) .ro, .bool (x.2.2)]])
noncomputable def T_link_every_fnext_p500 (x0 : List AV) (x1 : Bool) : Tr ((List AV × Bool × List AV × Bool × List AV) ⊕ (List AV × List AV × Bool)) := (opt (Go.Proofs.Ytaejmfmamhdlhaa.g_link_Link_next_p500 x0 x1) fun (y0 : List Go.Cx.AV × Bool × List Go.Cx.AV × Bool) => (.r (.inl ((Prod.fst y0, Prod.fst (Prod.snd y0), Prod.fst (Prod.snd (Prod.snd y0)), Prod.snd (Prod.snd (Prod.snd y0)), [])))))
noncomputable def M_link_every_fnext_p500 (x0 : List AV) (x1 : Bool) : List AV × Bool × List AV × Bool × List AV → Tr ((List AV × Bool × List AV × Bool × List AV) ⊕ (List AV × List AV × Bool))
  | (l0, b0, l1, b1, l2) => (.c (b0) (.c (List.length l2 == List.length l2) (.c (Decidable.decide (List.length (l2 ++ [Go.Cx.AV.slice (1 : Nat) (Go.Cx.Sh.int Go.IntKind.u8) l0 Go.Cx.SK.ro]) * (25 : Nat) < (70368744177664 : Nat))) (opt (Go.Proofs.Ytaejmfmamhdlhaa.g_link_Link_next_p500 l1 b1) fun (y0 : List Go.Cx.AV × Bool × List Go.Cx.AV × Bool) => (.r (.inl ((Prod.fst y0, Prod.fst (Prod.snd y0), Prod.fst (Prod.snd (Prod.snd y0)), Prod.snd (Prod.snd (Prod.snd y0)), l2 ++ [Go.Cx.AV.slice (1 : Nat) (Go.Cx.Sh.int Go.IntKind.u8) l0 Go.Cx.SK.ro]))))) .bad) .bad) (.c (List.length l2 == List.length l2) (.r (.inr ((l2, l1, b1)))) .bad))
noncomputable def g_link_every_fnext_p500 (x0 : List AV) (x1 : Bool) : Option (List AV × List AV × Bool) := run (M_link_every_fnext_p500 x0 x1) (T_link_every_fnext_p500 x0 x1)
noncomputable def b_link_every_fnext_p500 := Try.f45.body.getD .skip
noncomputable def st_link_every_fnext_p500_0 (x0 : List AV) (x1 : Bool) (l0 : List AV) (b0 : Bool) (l1 : List AV) (b1 : Bool) (l2 : List AV) : St := ⟨[Go.Cx.AV.func (46 : Nat) [Go.Cx.AV.ptr (0 : Nat) (0 : Nat)] [], Go.Cx.AV.junk, Go.Cx.AV.junk, Go.Cx.AV.oslice (1 : Nat) (0 : Nat) (List.length l2), Go.Cx.AV.slice (1 : Nat) (Go.Cx.Sh.int Go.IntKind.u8) l0 Go.Cx.SK.ro, Go.Cx.AV.bool b0, Go.Cx.AV.junk, Go.Cx.AV.junk, Go.Cx.AV.junk, Go.Cx.AV.junk, Go.Cx.AV.junk, Go.Cx.AV.junk, Go.Cx.AV.junk, Go.Cx.AV.junk, Go.Cx.AV.junk, Go.Cx.AV.junk, Go.Cx.AV.junk, Go.Cx.AV.junk, Go.Cx.AV.junk, Go.Cx.AV.junk, Go.Cx.AV.junk, Go.Cx.AV.junk], [Go.Cx.Ob.fix (68 : Nat) [Go.Cx.AV.slice (1 : Nat) (Go.Cx.Sh.int Go.IntKind.u8) l1 Go.Cx.SK.ro, Go.Cx.AV.bool b1], Go.Cx.Ob.grow (22 : Nat) (0 : Nat) (1 : Nat) (Go.Cx.Sh.slice (1 : Nat) (Go.Cx.Sh.int Go.IntKind.u8)) l2]⟩
noncomputable def L_link_every_fnext_p500 (x0 : List AV) (x1 : Bool) (Rv : List AV × List AV × Bool → Prop) : List AV × Bool × List AV × Bool × List AV → Prop
  | (l0, b0, l1, b1, l2) => headL E_link_every_fnext_p500 [.r, .r, .l, .r, .d] b_link_every_fnext_p500 2 (bodyK E_link_every_fnext_p500 Try.f45 (outH O_link_every_fnext_p500 OO_link_every_fnext_p500 fun ls => Rv (tup_link_every_fnext_p500 ls))) (st_link_every_fnext_p500_0 x0 x1 l0 b0 l1 b1 l2)
set_option maxRecDepth 100000 in
theorem l_link_every_fnext_p500_0 (x0 : List AV) (x1 : Bool) (Rv : List AV × List AV × Bool → Prop) (l0 : List AV) (b0 : Bool) (l1 : List AV) (b1 : Bool) (l2 : List AV) : stepL E_link_every_fnext_p500 [.r, .r, .l, .r, .d] b_link_every_fnext_p500 2 (bodyK E_link_every_fnext_p500 Try.f45 (outH O_link_every_fnext_p500 OO_link_every_fnext_p500 fun ls => Rv (tup_link_every_fnext_p500 ls))) (st_link_every_fnext_p500_0 x0 x1 l0 b0 l1 b1 l2) =
  (M_link_every_fnext_p500 x0 x1 ((l0, b0, l1, b1, l2))).fold False (Sum.elim (L_link_every_fnext_p500 x0 x1 Rv) Rv) := by kernel_rfl
set_option maxRecDepth 100000 in
theorem e_link_every_fnext_p500_0 (x0 : List AV) (x1 : Bool) (Rv : List AV × List AV × Bool → Prop) (l0 : List AV) (b0 : Bool) (l1 : List AV) (b1 : Bool) (l2 : List AV) : L_link_every_fnext_p500 x0 x1 Rv ((l0, b0, l1, b1, l2)) = headL E_link_every_fnext_p500 [.r, .r, .l, .r, .d] b_link_every_fnext_p500 2 (bodyK E_link_every_fnext_p500 Try.f45 (outH O_link_every_fnext_p500 OO_link_every_fnext_p500 fun ls => Rv (tup_link_every_fnext_p500 ls))) (st_link_every_fnext_p500_0 x0 x1 l0 b0 l1 b1 l2) := by kernel_rfl
section
attribute [local irreducible] Tr.fold M_link_every_fnext_p500 L_link_every_fnext_p500 T_link_every_fnext_p500 E_link_every_fnext_p500 b_link_every_fnext_p500 bodyK headC headL stepC stepL wpX callA
set_option maxRecDepth 100000 in
theorem h_link_every_fnext_p500 (x0 : List AV) (x1 : Bool) (Rv : List AV × List AV × Bool → Prop) : ∀ s, (M_link_every_fnext_p500 x0 x1 s).fold False (Sum.elim (L_link_every_fnext_p500 x0 x1 Rv) Rv) → L_link_every_fnext_p500 x0 x1 Rv s := by
  rintro (⟨v0, v1, v2, v3, v4⟩)
  · exact fun h => Eq.mpr (e_link_every_fnext_p500_0 x0 x1 Rv v0 v1 v2 v3 v4) (headL_of (Eq.mpr (l_link_every_fnext_p500_0 x0 x1 Rv v0 v1 v2 v3 v4) h))
set_option maxRecDepth 100000 in
theorem c_link_every_fnext_p500 (ls : List AV) (Rv : List AV × List AV × Bool → Prop) : callA E_link_every_fnext_p500 Try.f45 (instL ls P_link_every_fnext_p500 0) (instH ls Q_link_every_fnext_p500 0) (outH O_link_every_fnext_p500 OO_link_every_fnext_p500 fun ls => Rv (tup_link_every_fnext_p500 ls)) = (T_link_every_fnext_p500 (getXs (ls.getD 0 .junk)) (getB (ls.getD 1 .junk))).fold False (Sum.elim (L_link_every_fnext_p500 (getXs (ls.getD 0 .junk)) (getB (ls.getD 1 .junk)) Rv) Rv) := by kernel_rfl
end
noncomputable def S_link_every_fnext_p500 : Go.Cx.Spec := heapS (patH P_link_every_fnext_p500 Q_link_every_fnext_p500 fun ls => opt (g_link_every_fnext_p500 (getXs (ls.getD 0 .junk)) (getB (ls.getD 1 .junk))) fun x => .r (res_link_every_fnext_p500 x))
set_option maxRecDepth 100000 in
theorem S_link_every_fnext_p500_ok : Sound Try.prog 45 S_link_every_fnext_p500 :=
  heap_mach (E := E_link_every_fnext_p500) (TblOK.enK TYbG611t_ok _ _ _ _ _) mixed Try.func45 (c := Try.f45.body.getD .skip) (by kernel_rfl) (by kernel_rfl) (by decide) (pats := P_link_every_fnext_p500) (ops := Q_link_every_fnext_p500) (OO := OO_link_every_fnext_p500) (O := O_link_every_fnext_p500) (tup := tup_link_every_fnext_p500) (res := res_link_every_fnext_p500) (g := fun ls => g_link_every_fnext_p500 (getXs (ls.getD 0 .junk)) (getB (ls.getD 1 .junk))) (T := fun ls => T_link_every_fnext_p500 (getXs (ls.getD 0 .junk)) (getB (ls.getD 1 .junk))) (step := fun ls => M_link_every_fnext_p500 (getXs (ls.getD 0 .junk)) (getB (ls.getD 1 .junk))) (L := fun ls => L_link_every_fnext_p500 (getXs (ls.getD 0 .junk)) (getB (ls.getD 1 .junk))) (fun _ => rfl) (fun ls => by kernel_rfl) c_link_every_fnext_p500 (fun ls Rv => h_link_every_fnext_p500 (getXs (ls.getD 0 .junk)) (getB (ls.getD 1 .junk)) Rv)

noncomputable def TYbG612t : FuncId → Option Go.Cx.Spec := addT TYbG611t 45 S_link_every_fnext_p500
theorem TYbG612t_ok : TblOK Try.prog TYbG612t := TYbG611t_ok.add S_link_every_fnext_p500_ok

/- (*comptoir/link.Link).Feed -/
noncomputable def E_link_Link_Feed_p0500 : En := enK Try.prog TYbG612t [1000019] [] [] [] 1
def P_link_Link_Feed_p0500 : List Pat := [.lit (.ptr 0 0), .leaf (.slice 1 (.int .u8))]
def Q_link_Link_Feed_p0500 : List OPat := [.fix 68 [.leaf (.slice 1 (.int .u8)), .leaf .bool]]
def O_link_Link_Feed_p0500 : Pat := .tuple [.leaf (.slice 1 (.slice 1 (.int .u8))), .leaf (.int .i64)]
def OO_link_Link_Feed_p0500 : List OPat := [.fix 68 [.leaf (.slice 1 (.int .u8)), .leaf .bool]]
def tup_link_Link_Feed_p0500 : List AV → List AV × Int × List AV × Bool := fun ls => (getXs (ls.getD 0 .junk), getI (ls.getD 1 .junk), getXs (ls.getD 2 .junk), getB (ls.getD 3 .junk))
def res_link_Link_Feed_p0500 : List AV × Int × List AV × Bool → AV × List Ob := fun x => (.tuple [.slice 1 (.slice 1 (.int .u8)) (x.1) .ro, .int .i64 (x.2.1)], [.fix 68 [.slice 1 (.int .u8) (x.2.2.1) .ro, .bool (x.2.2.2)]])
noncomputable def T_link_Link_Feed_p0500 (x0 : List AV) (x1 : List AV) (x2 : Bool) : Tr (List AV × Int × List AV × Bool) := (.c (!x2) (opt (Go.Proofs.Ytaejmfmamhdlhaa.g_slices_Concat_byte_byte [Go.Cx.AV.slice (1 : Nat) (Go.Cx.Sh.int Go.IntKind.u8) x1 Go.Cx.SK.ro, Go.Cx.AV.slice (1 : Nat) (Go.Cx.Sh.int Go.IntKind.u8) x0 Go.Cx.SK.ro]) fun (y0 : List Go.Cx.AV) => (opt (Go.Proofs.Ytaejmfmamhdlhaa.g_link_every_fnext_p500 y0 x2) fun (y1 : List Go.Cx.AV × List Go.Cx.AV × Bool) => (.c (Prod.snd (Prod.snd y1)) (.r (([], (4 : Int), Prod.fst (Prod.snd y1), Prod.snd (Prod.snd y1)))) (.r ((Prod.fst y1, (0 : Int), Prod.fst (Prod.snd y1), Prod.snd (Prod.snd y1))))))) (.c (x2) (.r (([], (4 : Int), x1, x2))) (.r (([], (0 : Int), x1, x2)))))
noncomputable def g_link_Link_Feed_p0500 (x0 : List AV) (x1 : List AV) (x2 : Bool) : Option (List AV × Int × List AV × Bool) := (T_link_Link_Feed_p0500 x0 x1 x2).val
set_option maxRecDepth 100000 in
theorem c_link_Link_Feed_p0500 (ls : List AV) (Rv : List AV × Int × List AV × Bool → Prop) : callA E_link_Link_Feed_p0500 Try.f27 (instL ls P_link_Link_Feed_p0500 0) (instH ls Q_link_Link_Feed_p0500 1) (outH O_link_Link_Feed_p0500 OO_link_Link_Feed_p0500 fun ls => Rv (tup_link_Link_Feed_p0500 ls)) = (T_link_Link_Feed_p0500 (getXs (ls.getD 0 .junk)) (getXs (ls.getD 1 .junk)) (getB (ls.getD 2 .junk))).fold False Rv := by kernel_rfl
noncomputable def S_link_Link_Feed_p0500 : Go.Cx.Spec := heapS (patH P_link_Link_Feed_p0500 Q_link_Link_Feed_p0500 fun ls => opt (g_link_Link_Feed_p0500 (getXs (ls.getD 0 .junk)) (getXs (ls.getD 1 .junk)) (getB (ls.getD 2 .junk))) fun x => .r (res_link_Link_Feed_p0500 x))
set_option maxRecDepth 100000 in
theorem S_link_Link_Feed_p0500_ok : Sound Try.prog 27 S_link_Link_Feed_p0500 :=
  heap_flat (E := E_link_Link_Feed_p0500) (TblOK.enK TYbG612t_ok _ _ _ _ _) mixed Try.func27 (c := Try.f27.body.getD .skip) (by kernel_rfl) (by kernel_rfl) (by decide) (pats := P_link_Link_Feed_p0500) (ops := Q_link_Link_Feed_p0500) (OO := OO_link_Link_Feed_p0500) (O := O_link_Link_Feed_p0500) (tup := tup_link_Link_Feed_p0500) (res := res_link_Link_Feed_p0500) (g := fun ls => g_link_Link_Feed_p0500 (getXs (ls.getD 0 .junk)) (getXs (ls.getD 1 .junk)) (getB (ls.getD 2 .junk))) (T := fun ls => T_link_Link_Feed_p0500 (getXs (ls.getD 0 .junk)) (getXs (ls.getD 1 .junk)) (getB (ls.getD 2 .junk))) (fun _ => rfl) (fun ls => by kernel_rfl) c_link_Link_Feed_p0500

noncomputable def TYbG613t : FuncId → Option Go.Cx.Spec := addT TYbG612t 27 S_link_Link_Feed_p0500
theorem TYbG613t_ok : TblOK Try.prog TYbG613t := TYbG612t_ok.add S_link_Link_Feed_p0500_ok

/- comptoir/cursor.Put -/
noncomputable def E_cursor_Put : En := enK Try.prog TYbG613t [1000031, 1000032] [(4, ⟨[3, 4, 5, 6, 8, 9, 10, 11, 12, 13, 14, 17, 18, 19, 20, 21, 22, 23, 24, 25, 26, 27, 28, 29, 30, 31, 32, 33, 34], [], [], none, [7], []⟩)] [] [] 0
def P_cursor_Put : List Pat := [.leaf (.slice 1 (.int .u8)), .leaf (.int .u64), .leaf (.int .i64)]
def O_cursor_Put : Pat := .leaf (.slice 1 (.int .u8))
def tup_cursor_Put : List AV → List AV := fun ls => getXs (ls.getD 0 .junk)
def res_cursor_Put : List AV → AV := fun x => .slice 1 (.int .u8) (x) .ro
noncomputable def T_cursor_Put (x0 : List AV) (x1 : Int) (x2 : Int) : Tr ((Int × Int × List AV × Int) ⊕ (List AV)) := (.c (Decidable.decide ((0 : Int) ≤ if (8 : Int) < if (0 : Int) > x2 then (0 : Int) else x2 then (8 : Int) else if (0 : Int) > x2 then (0 : Int) else x2)) (.c ((if (8 : Int) < if (0 : Int) > x2 then (0 : Int) else x2 then (8 : Int) else if (0 : Int) > x2 then (0 : Int) else x2) == if (8 : Int) < if (0 : Int) > x2 then (0 : Int) else x2 then (8 : Int) else if (0 : Int) > x2 then (0 : Int) else x2) (.c (Decidable.decide (List.length (List.replicate (Int.toNat (if (8 : Int) < if (0 : Int) > x2 then (0 : Int) else x2 then (8 : Int) else if (0 : Int) > x2 then (0 : Int) else x2)) (Go.Cx.AV.int Go.IntKind.u8 (0 : Int))) * (2 : Nat) < (70368744177664 : Nat))) (.c (List.length (List.replicate (Int.toNat (if (8 : Int) < if (0 : Int) > x2 then (0 : Int) else x2 then (8 : Int) else if (0 : Int) > x2 then (0 : Int) else x2)) (Go.Cx.AV.int Go.IntKind.u8 (0 : Int))) == List.length (List.replicate (Int.toNat (if (8 : Int) < if (0 : Int) > x2 then (0 : Int) else x2 then (8 : Int) else if (0 : Int) > x2 then (0 : Int) else x2)) (Go.Cx.AV.int Go.IntKind.u8 (0 : Int)))) (.r (.inl ((if (8 : Int) < if (0 : Int) > x2 then (0 : Int) else x2 then (8 : Int) else if (0 : Int) > x2 then (0 : Int) else x2, (↑(List.length (List.replicate (Int.toNat (if (8 : Int) < if (0 : Int) > x2 then (0 : Int) else x2 then (8 : Int) else if (0 : Int) > x2 then (0 : Int) else x2)) (Go.Cx.AV.int Go.IntKind.u8 (0 : Int)))) : Int), List.replicate (Int.toNat (if (8 : Int) < if (0 : Int) > x2 then (0 : Int) else x2 then (8 : Int) else if (0 : Int) > x2 then (0 : Int) else x2)) (Go.Cx.AV.int Go.IntKind.u8 (0 : Int)), (0 : Int))))) .bad) .bad) .bad) .bad)
noncomputable def M_cursor_Put (x0 : List AV) (x1 : Int) (x2 : Int) : Int × Int × List AV × Int → Tr ((Int × Int × List AV × Int) ⊕ (List AV))
  | (i0, i1, l0, i2) => (.c (Decidable.decide (i2 < i1)) (.c (Decidable.decide ((0 : Int) ≤ Go.IntKind.wrap Go.IntKind.i64 ((8 : Int) * i2))) (.c (Decidable.decide ((0 : Int) ≤ Go.IntKind.wrap Go.IntKind.i64 (Go.IntKind.wrap Go.IntKind.i64 (i0 - (1 : Int)) - i2))) (.c (Decidable.decide (Go.IntKind.wrap Go.IntKind.i64 (Go.IntKind.wrap Go.IntKind.i64 (i0 - (1 : Int)) - i2) < (↑(List.length l0) : Int))) (.c (List.length l0 == List.length l0) (.c (Decidable.decide (Int.toNat (Go.IntKind.wrap Go.IntKind.i64 (Go.IntKind.wrap Go.IntKind.i64 (i0 - (1 : Int)) - i2)) < List.length l0)) (.c (List.length l0 == List.length (List.set l0 (Int.toNat (Go.IntKind.wrap Go.IntKind.i64 (Go.IntKind.wrap Go.IntKind.i64 (i0 - (1 : Int)) - i2))) (Go.Cx.AV.int Go.IntKind.u8 (Go.IntKind.wrap Go.IntKind.u8 (Go.Cx.shrA Go.IntKind.u64 x1 (Go.IntKind.wrap Go.IntKind.i64 ((8 : Int) * i2))))))) (.r (.inl ((i0, i1, List.set l0 (Int.toNat (Go.IntKind.wrap Go.IntKind.i64 (Go.IntKind.wrap Go.IntKind.i64 (i0 - (1 : Int)) - i2))) (Go.Cx.AV.int Go.IntKind.u8 (Go.IntKind.wrap Go.IntKind.u8 (Go.Cx.shrA Go.IntKind.u64 x1 (Go.IntKind.wrap Go.IntKind.i64 ((8 : Int) * i2))))), Go.IntKind.wrap Go.IntKind.i64 (i2 + (1 : Int)))))) .bad) .bad) .bad) .bad) .bad) .bad) (.c (List.length l0 == List.length l0) (opt (Go.Proofs.Ytaejmfmamhdlhaa.g_slices_Concat_byte_byte [Go.Cx.AV.slice (1 : Nat) (Go.Cx.Sh.int Go.IntKind.u8) x0 Go.Cx.SK.ro, Go.Cx.AV.slice (1 : Nat) (Go.Cx.Sh.int Go.IntKind.u8) l0 Go.Cx.SK.ro]) fun (y0 : List Go.Cx.AV) => (.r (.inr (y0)))) .bad))
noncomputable def g_cursor_Put (x0 : List AV) (x1 : Int) (x2 : Int) : Option (List AV) := run (M_cursor_Put x0 x1 x2) (T_cursor_Put x0 x1 x2)
noncomputable def b_cursor_Put := Try.f41.body.getD .skip
noncomputable def st_cursor_Put_0 (x0 : List AV) (x1 : Int) (x2 : Int) (i0 : Int) (i1 : Int) (l0 : List AV) (i2 : Int) : St := ⟨[Go.Cx.AV.slice (1 : Nat) (Go.Cx.Sh.int Go.IntKind.u8) x0 Go.Cx.SK.ro, Go.Cx.AV.int Go.IntKind.u64 x1, Go.Cx.AV.int Go.IntKind.i64 i0, Go.Cx.AV.junk, Go.Cx.AV.junk, Go.Cx.AV.junk, Go.Cx.AV.junk, Go.Cx.AV.oslice (0 : Nat) (0 : Nat) (List.length l0), Go.Cx.AV.junk, Go.Cx.AV.junk, Go.Cx.AV.junk, Go.Cx.AV.junk, Go.Cx.AV.junk, Go.Cx.AV.junk, Go.Cx.AV.junk, Go.Cx.AV.int Go.IntKind.i64 i1, Go.Cx.AV.int Go.IntKind.i64 i2, Go.Cx.AV.junk, Go.Cx.AV.junk, Go.Cx.AV.junk, Go.Cx.AV.junk, Go.Cx.AV.junk, Go.Cx.AV.junk, Go.Cx.AV.junk, Go.Cx.AV.junk, Go.Cx.AV.junk, Go.Cx.AV.junk, Go.Cx.AV.junk, Go.Cx.AV.junk, Go.Cx.AV.junk, Go.Cx.AV.junk, Go.Cx.AV.junk, Go.Cx.AV.junk, Go.Cx.AV.junk, Go.Cx.AV.junk], [Go.Cx.Ob.grow (5 : Nat) (0 : Nat) (1 : Nat) (Go.Cx.Sh.int Go.IntKind.u8) l0]⟩
noncomputable def L_cursor_Put (x0 : List AV) (x1 : Int) (x2 : Int) (Rv : List AV → Prop) : Int × Int × List AV × Int → Prop
  | (i0, i1, l0, i2) => headL E_cursor_Put [.r, .r, .r, .l, .r, .d] b_cursor_Put 1 (bodyK E_cursor_Put Try.f41 (outP O_cursor_Put fun ls => Rv (tup_cursor_Put ls))) (st_cursor_Put_0 x0 x1 x2 i0 i1 l0 i2)
set_option maxRecDepth 100000 in
theorem l_cursor_Put_0 (x0 : List AV) (x1 : Int) (x2 : Int) (Rv : List AV → Prop) (i0 : Int) (i1 : Int) (l0 : List AV) (i2 : Int) : stepL E_cursor_Put [.r, .r, .r, .l, .r, .d] b_cursor_Put 1 (bodyK E_cursor_Put Try.f41 (outP O_cursor_Put fun ls => Rv (tup_cursor_Put ls))) (st_cursor_Put_0 x0 x1 x2 i0 i1 l0 i2) =
  (M_cursor_Put x0 x1 x2 ((i0, i1, l0, i2))).fold False (Sum.elim (L_cursor_Put x0 x1 x2 Rv) Rv) := by kernel_rfl
set_option maxRecDepth 100000 in
theorem e_cursor_Put_0 (x0 : List AV) (x1 : Int) (x2 : Int) (Rv : List AV → Prop) (i0 : Int) (i1 : Int) (l0 : List AV) (i2 : Int) : L_cursor_Put x0 x1 x2 Rv ((i0, i1, l0, i2)) = headL E_cursor_Put [.r, .r, .r, .l, .r, .d] b_cursor_Put 1 (bodyK E_cursor_Put Try.f41 (outP O_cursor_Put fun ls => Rv (tup_cursor_Put ls))) (st_cursor_Put_0 x0 x1 x2 i0 i1 l0 i2) := by kernel_rfl
section
attribute [local irreducible] Tr.fold M_cursor_Put L_cursor_Put T_cursor_Put E_cursor_Put b_cursor_Put bodyK headC headL stepC stepL wpX callA
set_option maxRecDepth 100000 in
theorem h_cursor_Put (x0 : List AV) (x1 : Int) (x2 : Int) (Rv : List AV → Prop) : ∀ s, (M_cursor_Put x0 x1 x2 s).fold False (Sum.elim (L_cursor_Put x0 x1 x2 Rv) Rv) → L_cursor_Put x0 x1 x2 Rv s := by
  rintro (⟨v0, v1, v2, v3⟩)
  · exact fun h => Eq.mpr (e_cursor_Put_0 x0 x1 x2 Rv v0 v1 v2 v3) (headL_of (Eq.mpr (l_cursor_Put_0 x0 x1 x2 Rv v0 v1 v2 v3) h))
set_option maxRecDepth 100000 in
theorem c_cursor_Put (ls : List AV) (Rv : List AV → Prop) : callA E_cursor_Put Try.f41 (instL ls P_cursor_Put 0) [] (outP O_cursor_Put fun ls => Rv (tup_cursor_Put ls)) = (T_cursor_Put (getXs (ls.getD 0 .junk)) (getI (ls.getD 1 .junk)) (getI (ls.getD 2 .junk))).fold False (Sum.elim (L_cursor_Put (getXs (ls.getD 0 .junk)) (getI (ls.getD 1 .junk)) (getI (ls.getD 2 .junk)) Rv) Rv) := by kernel_rfl
end
noncomputable def S_cursor_Put : Go.Cx.Spec := pureS (patF P_cursor_Put fun ls => opt (g_cursor_Put (getXs (ls.getD 0 .junk)) (getI (ls.getD 1 .junk)) (getI (ls.getD 2 .junk))) fun x => .r (res_cursor_Put x))
set_option maxRecDepth 100000 in
theorem S_cursor_Put_ok : Sound Try.prog 41 S_cursor_Put :=
  pure_mach (E := E_cursor_Put) (TblOK.enK TYbG613t_ok _ _ _ _ _) mixed rfl Try.func41 (c := Try.f41.body.getD .skip) (by kernel_rfl) (by kernel_rfl) (pats := P_cursor_Put) (O := O_cursor_Put) (tup := tup_cursor_Put) (res := res_cursor_Put) (g := fun ls => g_cursor_Put (getXs (ls.getD 0 .junk)) (getI (ls.getD 1 .junk)) (getI (ls.getD 2 .junk))) (T := fun ls => T_cursor_Put (getXs (ls.getD 0 .junk)) (getI (ls.getD 1 .junk)) (getI (ls.getD 2 .junk))) (step := fun ls => M_cursor_Put (getXs (ls.getD 0 .junk)) (getI (ls.getD 1 .junk)) (getI (ls.getD 2 .junk))) (L := fun ls => L_cursor_Put (getXs (ls.getD 0 .junk)) (getI (ls.getD 1 .junk)) (getI (ls.getD 2 .junk))) (fun _ => rfl) (fun ls => by kernel_rfl) c_cursor_Put (fun ls Rv => h_cursor_Put (getXs (ls.getD 0 .junk)) (getI (ls.getD 1 .junk)) (getI (ls.getD 2 .junk)) Rv)

noncomputable def TYbG614t : FuncId → Option Go.Cx.Spec := addT TYbG613t 41 S_cursor_Put
theorem TYbG614t_ok : TblOK Try.prog TYbG614t := TYbG613t_ok.add S_cursor_Put_ok

/- comptoir/link.Frame -/
noncomputable def E_link_Frame : En := enK Try.prog TYbG614t [1000016] [] [] [] 0
def P_link_Frame : List Pat := [.leaf (.slice 1 (.int .u8))]
def O_link_Frame : Pat := .tuple [.leaf (.slice 1 (.int .u8)), .leaf (.int .i64)]
def tup_link_Frame : List AV → List AV × Int := fun ls => (getXs (ls.getD 0 .junk), getI (ls.getD 1 .junk))
def res_link_Frame : List AV × Int → AV := fun x => .tuple [.slice 1 (.int .u8) (x.1) .ro, .int .i64 (x.2)]
noncomputable def T_link_Frame (x0 : List AV) : Tr (List AV × Int) := (.c ((↑(List.length x0) : Int) == (0 : Int)) (.r (([], (1 : Int)))) (.c (Decidable.decide ((↑(List.length x0) : Int) > (4096 : Int))) (.r (([], (4 : Int)))) (opt (Go.Proofs.Ytaejmfmamhdlhaa.g_cursor_Put [] (Go.IntKind.wrap Go.IntKind.u64 (↑(List.length x0) : Int)) (2 : Int)) fun (y0 : List Go.Cx.AV) => (opt (Go.Proofs.Ytaejmfmamhdlhaa.g_slices_Concat_byte_byte [Go.Cx.AV.slice (1 : Nat) (Go.Cx.Sh.int Go.IntKind.u8) y0 Go.Cx.SK.ro, Go.Cx.AV.slice (1 : Nat) (Go.Cx.Sh.int Go.IntKind.u8) x0 Go.Cx.SK.ro]) fun (y1 : List Go.Cx.AV) => (.r ((y1, (0 : Int))))))))
noncomputable def g_link_Frame (x0 : List AV) : Option (List AV × Int) := (T_link_Frame x0).val
set_option maxRecDepth 100000 in
theorem c_link_Frame (ls : List AV) (Rv : List AV × Int → Prop) : callA E_link_Frame Try.f25 (instL ls P_link_Frame 0) [] (outP O_link_Frame fun ls => Rv (tup_link_Frame ls)) = (T_link_Frame (getXs (ls.getD 0 .junk))).fold False Rv := by kernel_rfl
noncomputable def S_link_Frame : Go.Cx.Spec := pureS (patF P_link_Frame fun ls => opt (g_link_Frame (getXs (ls.getD 0 .junk))) fun x => .r (res_link_Frame x))
set_option maxRecDepth 100000 in
theorem S_link_Frame_ok : Sound Try.prog 25 S_link_Frame :=
  pure_flat (E := E_link_Frame) (TblOK.enK TYbG614t_ok _ _ _ _ _) mixed rfl Try.func25 (c := Try.f25.body.getD .skip) (by kernel_rfl) (by kernel_rfl) (pats := P_link_Frame) (O := O_link_Frame) (tup := tup_link_Frame) (res := res_link_Frame) (g := fun ls => g_link_Frame (getXs (ls.getD 0 .junk))) (T := fun ls => T_link_Frame (getXs (ls.getD 0 .junk))) (fun _ => rfl) (fun ls => by kernel_rfl) c_link_Frame

noncomputable def TYbG615t : FuncId → Option Go.Cx.Spec := addT TYbG614t 25 S_link_Frame
theorem TYbG615t_ok : TblOK Try.prog TYbG615t := TYbG614t_ok.add S_link_Frame_ok

/- comptoir/comptoirhelp.Bytes -/
noncomputable def E_comptoirhelp_Bytes : En := enK Try.prog TYbG615t [] [] [] [] 0
def P_comptoirhelp_Bytes : List Pat := [.leaf (.slice 1 (.int .u8)), .leaf (.slice 1 (.int .u8))]
def O_comptoirhelp_Bytes : Pat := .leaf .bool
def tup_comptoirhelp_Bytes : List AV → Bool := fun ls => getB (ls.getD 0 .junk)
def res_comptoirhelp_Bytes : Bool → AV := fun x => .bool (x)
noncomputable def T_comptoirhelp_Bytes (x0 : List AV) (x1 : List AV) : Tr (Bool) := (.r (Go.Cx.bytesOf x0 == Go.Cx.bytesOf x1))
noncomputable def g_comptoirhelp_Bytes (x0 : List AV) (x1 : List AV) : Option (Bool) := (T_comptoirhelp_Bytes x0 x1).val
set_option maxRecDepth 100000 in
theorem c_comptoirhelp_Bytes (ls : List AV) (Rv : Bool → Prop) : callA E_comptoirhelp_Bytes Try.f19 (instL ls P_comptoirhelp_Bytes 0) [] (outP O_comptoirhelp_Bytes fun ls => Rv (tup_comptoirhelp_Bytes ls)) = (T_comptoirhelp_Bytes (getXs (ls.getD 0 .junk)) (getXs (ls.getD 1 .junk))).fold False Rv := by kernel_rfl
noncomputable def S_comptoirhelp_Bytes : Go.Cx.Spec := pureS (patF P_comptoirhelp_Bytes fun ls => opt (g_comptoirhelp_Bytes (getXs (ls.getD 0 .junk)) (getXs (ls.getD 1 .junk))) fun x => .r (res_comptoirhelp_Bytes x))
set_option maxRecDepth 100000 in
theorem S_comptoirhelp_Bytes_ok : Sound Try.prog 19 S_comptoirhelp_Bytes :=
  pure_flat (E := E_comptoirhelp_Bytes) (TblOK.enK TYbG615t_ok _ _ _ _ _) mixed rfl Try.func19 (c := Try.f19.body.getD .skip) (by kernel_rfl) (by kernel_rfl) (pats := P_comptoirhelp_Bytes) (O := O_comptoirhelp_Bytes) (tup := tup_comptoirhelp_Bytes) (res := res_comptoirhelp_Bytes) (g := fun ls => g_comptoirhelp_Bytes (getXs (ls.getD 0 .junk)) (getXs (ls.getD 1 .junk))) (T := fun ls => T_comptoirhelp_Bytes (getXs (ls.getD 0 .junk)) (getXs (ls.getD 1 .junk))) (fun _ => rfl) (fun ls => by kernel_rfl) c_comptoirhelp_Bytes

noncomputable def TYbG616t : FuncId → Option Go.Cx.Spec := addT TYbG615t 19 S_comptoirhelp_Bytes
theorem TYbG616t_ok : TblOK Try.prog TYbG616t := TYbG615t_ok.add S_comptoirhelp_Bytes_ok

/- comptoir/comptoirlaw06.awake -/
noncomputable def E_comptoirlaw06_awake : En := enK Try.prog TYbG616t [] [] [] [] 0
def P_comptoirlaw06_awake : List Pat := []
def O_comptoirlaw06_awake : Pat := .leaf .bool
def tup_comptoirlaw06_awake : List AV → Bool := fun ls => getB (ls.getD 0 .junk)
def res_comptoirlaw06_awake : Bool → AV := fun x => .bool (x)
noncomputable def T_comptoirlaw06_awake : Tr (Bool) := (opt (Go.Proofs.Ytaejmfmamhdlhaa.g_link_Link_Feed_p0500 [Go.Cx.AV.int Go.IntKind.u8 (0 : Int), Go.Cx.AV.int Go.IntKind.u8 (1 : Int), Go.Cx.AV.int Go.IntKind.u8 (7 : Int)] [] Bool.false) fun (y0 : List Go.Cx.AV × Int × List Go.Cx.AV × Bool) => (opt (Go.Proofs.Ytaejmfmamhdlhaa.g_link_Frame [Go.Cx.AV.int Go.IntKind.u8 (7 : Int)]) fun (y1 : List Go.Cx.AV × Int) => (.c (Prod.fst (Prod.snd y0) == (0 : Int)) (.c ((↑(List.length (Prod.fst y0)) : Int) == (1 : Int)) (.c (Decidable.decide ((0 : Int) < (↑(List.length (Prod.fst y0)) : Int))) (.c (Go.Cx.bytesOf (Go.Cx.getXs (List.getD (Prod.fst y0) (0 : Nat) (Go.Cx.AV.slice (1 : Nat) (Go.Cx.Sh.int Go.IntKind.u8) [] Go.Cx.SK.ro))) == [(7 : UInt8)]) (.c (Prod.snd y1 == (0 : Int)) (.r (Go.Cx.bytesOf (Prod.fst y1) == [(0 : UInt8), (1 : UInt8), (7 : UInt8)])) (.r (Bool.false))) (.r (Bool.false))) .bad) (.r (Bool.false))) (.r (Bool.false)))))
noncomputable def g_comptoirlaw06_awake : Option (Bool) := (T_comptoirlaw06_awake).val
set_option maxRecDepth 100000 in
theorem c_comptoirlaw06_awake (ls : List AV) (Rv : Bool → Prop) : callA E_comptoirlaw06_awake Try.f24 (instL ls P_comptoirlaw06_awake 0) [] (outP O_comptoirlaw06_awake fun ls => Rv (tup_comptoirlaw06_awake ls)) = (T_comptoirlaw06_awake).fold False Rv := by kernel_rfl
noncomputable def S_comptoirlaw06_awake : Go.Cx.Spec := pureS (patF P_comptoirlaw06_awake fun ls => opt (g_comptoirlaw06_awake) fun x => .r (res_comptoirlaw06_awake x))
set_option maxRecDepth 100000 in
theorem S_comptoirlaw06_awake_ok : Sound Try.prog 24 S_comptoirlaw06_awake :=
  pure_flat (E := E_comptoirlaw06_awake) (TblOK.enK TYbG616t_ok _ _ _ _ _) mixed rfl Try.func24 (c := Try.f24.body.getD .skip) (by kernel_rfl) (by kernel_rfl) (pats := P_comptoirlaw06_awake) (O := O_comptoirlaw06_awake) (tup := tup_comptoirlaw06_awake) (res := res_comptoirlaw06_awake) (g := fun ls => g_comptoirlaw06_awake) (T := fun ls => T_comptoirlaw06_awake) (fun _ => rfl) (fun ls => by kernel_rfl) c_comptoirlaw06_awake

noncomputable def TYbG617t : FuncId → Option Go.Cx.Spec := addT TYbG616t 24 S_comptoirlaw06_awake
theorem TYbG617t_ok : TblOK Try.prog TYbG617t := TYbG616t_ok.add S_comptoirlaw06_awake_ok

/- comptoir/comptoirref01.Put -/
noncomputable def E_comptoirref01_Put : En := enK Try.prog TYbG617t [] [(3, ⟨[0, 2, 3, 4, 5, 6, 9, 10, 11, 12, 13, 14, 15, 16, 17, 18, 19, 20, 21, 22, 23, 24, 25, 26, 27, 28], [], [], none, [], []⟩)] [] [] 1
def P_comptoirref01_Put : List Pat := [.leaf (.slice 1 (.int .u8)), .leaf (.int .u64), .leaf (.int .i64)]
def Q_comptoirref01_Put : List OPat := []
def O_comptoirref01_Put : Pat := .own 0 0 0
def OO_comptoirref01_Put : List OPat := [.grow 5 0 1 (.int .u8)]
def tup_comptoirref01_Put : List AV → List AV := fun ls => getXs (ls.getD 0 .junk)
def res_comptoirref01_Put : List AV → AV × List Ob := fun x => (.oslice 0 0 (List.length (x)), [.grow 5 0 1 (.int .u8) (x)])
noncomputable def T_comptoirref01_Put (x0 : List AV) (x1 : Int) (x2 : Int) : Tr ((Int × List AV) ⊕ (List AV)) := (.c (Decidable.decide (List.length x0 * (2 : Nat) < (70368744177664 : Nat))) (.r (.inl ((Go.IntKind.wrap Go.IntKind.i64 ((if (if (8 : Int) < x2 then (8 : Int) else x2) > (0 : Int) then if (8 : Int) < x2 then (8 : Int) else x2 else (0 : Int)) - (1 : Int)), x0)))) .bad)
noncomputable def M_comptoirref01_Put (x0 : List AV) (x1 : Int) (x2 : Int) : Int × List AV → Tr ((Int × List AV) ⊕ (List AV))
  | (i0, l0) => (.c (Decidable.decide (i0 ≥ (0 : Int))) (.c (Decidable.decide ((0 : Int) ≤ Go.IntKind.wrap Go.IntKind.u64 (Go.IntKind.wrap Go.IntKind.i64 ((8 : Int) * i0)))) (.c (List.length l0 == List.length l0) (.c (Decidable.decide (List.length (l0 ++ [Go.Cx.AV.int Go.IntKind.u8 (Go.IntKind.wrap Go.IntKind.u8 (Go.Cx.shrA Go.IntKind.u64 x1 (Go.IntKind.wrap Go.IntKind.u64 (Go.IntKind.wrap Go.IntKind.i64 ((8 : Int) * i0)))))]) * (2 : Nat) < (70368744177664 : Nat))) (.r (.inl ((Go.IntKind.wrap Go.IntKind.i64 (i0 - (1 : Int)), l0 ++ [Go.Cx.AV.int Go.IntKind.u8 (Go.IntKind.wrap Go.IntKind.u8 (Go.Cx.shrA Go.IntKind.u64 x1 (Go.IntKind.wrap Go.IntKind.u64 (Go.IntKind.wrap Go.IntKind.i64 ((8 : Int) * i0)))))])))) .bad) .bad) .bad) (.c (List.length l0 == List.length (l0 : List AV)) (.r (.inr (l0))) .bad))
noncomputable def g_comptoirref01_Put (x0 : List AV) (x1 : Int) (x2 : Int) : Option (List AV) := run (M_comptoirref01_Put x0 x1 x2) (T_comptoirref01_Put x0 x1 x2)
noncomputable def b_comptoirref01_Put := Try.f42.body.getD .skip
noncomputable def st_comptoirref01_Put_0 (x0 : List AV) (x1 : Int) (x2 : Int) (i0 : Int) (l0 : List AV) : St := ⟨[Go.Cx.AV.junk, Go.Cx.AV.int Go.IntKind.u64 x1, Go.Cx.AV.junk, Go.Cx.AV.junk, Go.Cx.AV.junk, Go.Cx.AV.junk, Go.Cx.AV.junk, Go.Cx.AV.oslice (0 : Nat) (0 : Nat) (List.length l0), Go.Cx.AV.int Go.IntKind.i64 i0, Go.Cx.AV.junk, Go.Cx.AV.junk, Go.Cx.AV.junk, Go.Cx.AV.junk, Go.Cx.AV.junk, Go.Cx.AV.junk, Go.Cx.AV.junk, Go.Cx.AV.junk, Go.Cx.AV.junk, Go.Cx.AV.junk, Go.Cx.AV.junk, Go.Cx.AV.junk, Go.Cx.AV.junk, Go.Cx.AV.junk, Go.Cx.AV.junk, Go.Cx.AV.junk, Go.Cx.AV.junk, Go.Cx.AV.junk, Go.Cx.AV.junk, Go.Cx.AV.junk], [Go.Cx.Ob.grow (5 : Nat) (0 : Nat) (1 : Nat) (Go.Cx.Sh.int Go.IntKind.u8) l0]⟩
noncomputable def L_comptoirref01_Put (x0 : List AV) (x1 : Int) (x2 : Int) (Rv : List AV → Prop) : Int × List AV → Prop
  | (i0, l0) => headL E_comptoirref01_Put [.r, .r, .l, .r, .d] b_comptoirref01_Put 1 (bodyK E_comptoirref01_Put Try.f42 (outH O_comptoirref01_Put OO_comptoirref01_Put fun ls => Rv (tup_comptoirref01_Put ls))) (st_comptoirref01_Put_0 x0 x1 x2 i0 l0)
set_option maxRecDepth 100000 in
theorem l_comptoirref01_Put_0 (x0 : List AV) (x1 : Int) (x2 : Int) (Rv : List AV → Prop) (i0 : Int) (l0 : List AV) : stepL E_comptoirref01_Put [.r, .r, .l, .r, .d] b_comptoirref01_Put 1 (bodyK E_comptoirref01_Put Try.f42 (outH O_comptoirref01_Put OO_comptoirref01_Put fun ls => Rv (tup_comptoirref01_Put ls))) (st_comptoirref01_Put_0 x0 x1 x2 i0 l0) =
  (M_comptoirref01_Put x0 x1 x2 ((i0, l0))).fold False (Sum.elim (L_comptoirref01_Put x0 x1 x2 Rv) Rv) := by kernel_rfl
set_option maxRecDepth 100000 in
theorem e_comptoirref01_Put_0 (x0 : List AV) (x1 : Int) (x2 : Int) (Rv : List AV → Prop) (i0 : Int) (l0 : List AV) : L_comptoirref01_Put x0 x1 x2 Rv ((i0, l0)) = headL E_comptoirref01_Put [.r, .r, .l, .r, .d] b_comptoirref01_Put 1 (bodyK E_comptoirref01_Put Try.f42 (outH O_comptoirref01_Put OO_comptoirref01_Put fun ls => Rv (tup_comptoirref01_Put ls))) (st_comptoirref01_Put_0 x0 x1 x2 i0 l0) := by kernel_rfl
section
attribute [local irreducible] Tr.fold M_comptoirref01_Put L_comptoirref01_Put T_comptoirref01_Put E_comptoirref01_Put b_comptoirref01_Put bodyK headC headL stepC stepL wpX callA
set_option maxRecDepth 100000 in
theorem h_comptoirref01_Put (x0 : List AV) (x1 : Int) (x2 : Int) (Rv : List AV → Prop) : ∀ s, (M_comptoirref01_Put x0 x1 x2 s).fold False (Sum.elim (L_comptoirref01_Put x0 x1 x2 Rv) Rv) → L_comptoirref01_Put x0 x1 x2 Rv s := by
  rintro (⟨v0, v1⟩)
  · exact fun h => Eq.mpr (e_comptoirref01_Put_0 x0 x1 x2 Rv v0 v1) (headL_of (Eq.mpr (l_comptoirref01_Put_0 x0 x1 x2 Rv v0 v1) h))
set_option maxRecDepth 100000 in
theorem c_comptoirref01_Put (ls : List AV) (Rv : List AV → Prop) : callA E_comptoirref01_Put Try.f42 (instL ls P_comptoirref01_Put 0) (instH ls Q_comptoirref01_Put 3) (outH O_comptoirref01_Put OO_comptoirref01_Put fun ls => Rv (tup_comptoirref01_Put ls)) = (T_comptoirref01_Put (getXs (ls.getD 0 .junk)) (getI (ls.getD 1 .junk)) (getI (ls.getD 2 .junk))).fold False (Sum.elim (L_comptoirref01_Put (getXs (ls.getD 0 .junk)) (getI (ls.getD 1 .junk)) (getI (ls.getD 2 .junk)) Rv) Rv) := by kernel_rfl
end
noncomputable def S_comptoirref01_Put : Go.Cx.Spec := heapS (patH P_comptoirref01_Put Q_comptoirref01_Put fun ls => opt (g_comptoirref01_Put (getXs (ls.getD 0 .junk)) (getI (ls.getD 1 .junk)) (getI (ls.getD 2 .junk))) fun x => .r (res_comptoirref01_Put x))
set_option maxRecDepth 100000 in
theorem S_comptoirref01_Put_ok : Sound Try.prog 42 S_comptoirref01_Put :=
  heap_mach (E := E_comptoirref01_Put) (TblOK.enK TYbG617t_ok _ _ _ _ _) mixed Try.func42 (c := Try.f42.body.getD .skip) (by kernel_rfl) (by kernel_rfl) (by decide) (pats := P_comptoirref01_Put) (ops := Q_comptoirref01_Put) (OO := OO_comptoirref01_Put) (O := O_comptoirref01_Put) (tup := tup_comptoirref01_Put) (res := res_comptoirref01_Put) (g := fun ls => g_comptoirref01_Put (getXs (ls.getD 0 .junk)) (getI (ls.getD 1 .junk)) (getI (ls.getD 2 .junk))) (T := fun ls => T_comptoirref01_Put (getXs (ls.getD 0 .junk)) (getI (ls.getD 1 .junk)) (getI (ls.getD 2 .junk))) (step := fun ls => M_comptoirref01_Put (getXs (ls.getD 0 .junk)) (getI (ls.getD 1 .junk)) (getI (ls.getD 2 .junk))) (L := fun ls => L_comptoirref01_Put (getXs (ls.getD 0 .junk)) (getI (ls.getD 1 .junk)) (getI (ls.getD 2 .junk))) (fun _ => rfl) (fun ls => by kernel_rfl) c_comptoirref01_Put (fun ls Rv => h_comptoirref01_Put (getXs (ls.getD 0 .junk)) (getI (ls.getD 1 .junk)) (getI (ls.getD 2 .junk)) Rv)

noncomputable def TYbG618t : FuncId → Option Go.Cx.Spec := addT TYbG617t 42 S_comptoirref01_Put
theorem TYbG618t_ok : TblOK Try.prog TYbG618t := TYbG617t_ok.add S_comptoirref01_Put_ok

/- comptoir/comptoirref01.Framed -/
noncomputable def E_comptoirref01_Framed : En := enK Try.prog TYbG618t [] [] [] [] 0
def P_comptoirref01_Framed : List Pat := [.leaf (.slice 1 (.int .u8))]
def O_comptoirref01_Framed : Pat := .tuple [.leaf (.slice 1 (.int .u8)), .leaf (.int .i64)]
def tup_comptoirref01_Framed : List AV → List AV × Int := fun ls => (getXs (ls.getD 0 .junk), getI (ls.getD 1 .junk))
def res_comptoirref01_Framed : List AV × Int → AV := fun x => .tuple [.slice 1 (.int .u8) (x.1) .ro, .int .i64 (x.2)]
noncomputable def T_comptoirref01_Framed (x0 : List AV) : Tr (List AV × Int) := (.c ((↑(List.length x0) : Int) == (0 : Int)) (.r (([], (1 : Int)))) (.c (Decidable.decide ((↑(List.length x0) : Int) > (4096 : Int))) (.r (([], (4 : Int)))) (opt (Go.Proofs.Ytaejmfmamhdlhaa.g_comptoirref01_Put [] (Go.IntKind.wrap Go.IntKind.u64 (↑(List.length x0) : Int)) (2 : Int)) fun (y0 : List Go.Cx.AV) => (.c (List.length y0 == List.length y0) (.c (Decidable.decide (List.length (y0 ++ x0) * (2 : Nat) < (70368744177664 : Nat))) (.c (List.length (y0 ++ x0) == List.length (y0 ++ x0)) (.r ((y0 ++ x0, (0 : Int)))) .bad) .bad) .bad))))
noncomputable def g_comptoirref01_Framed (x0 : List AV) : Option (List AV × Int) := (T_comptoirref01_Framed x0).val
set_option maxRecDepth 100000 in
theorem c_comptoirref01_Framed (ls : List AV) (Rv : List AV × Int → Prop) : callA E_comptoirref01_Framed Try.f26 (instL ls P_comptoirref01_Framed 0) [] (outP O_comptoirref01_Framed fun ls => Rv (tup_comptoirref01_Framed ls)) = (T_comptoirref01_Framed (getXs (ls.getD 0 .junk))).fold False Rv := by kernel_rfl
noncomputable def S_comptoirref01_Framed : Go.Cx.Spec := pureS (patF P_comptoirref01_Framed fun ls => opt (g_comptoirref01_Framed (getXs (ls.getD 0 .junk))) fun x => .r (res_comptoirref01_Framed x))
set_option maxRecDepth 100000 in
theorem S_comptoirref01_Framed_ok : Sound Try.prog 26 S_comptoirref01_Framed :=
  pure_flat (E := E_comptoirref01_Framed) (TblOK.enK TYbG618t_ok _ _ _ _ _) mixed rfl Try.func26 (c := Try.f26.body.getD .skip) (by kernel_rfl) (by kernel_rfl) (pats := P_comptoirref01_Framed) (O := O_comptoirref01_Framed) (tup := tup_comptoirref01_Framed) (res := res_comptoirref01_Framed) (g := fun ls => g_comptoirref01_Framed (getXs (ls.getD 0 .junk))) (T := fun ls => T_comptoirref01_Framed (getXs (ls.getD 0 .junk))) (fun _ => rfl) (fun ls => by kernel_rfl) c_comptoirref01_Framed

noncomputable def TYbG619t : FuncId → Option Go.Cx.Spec := addT TYbG618t 26 S_comptoirref01_Framed
theorem TYbG619t_ok : TblOK Try.prog TYbG619t := TYbG618t_ok.add S_comptoirref01_Framed_ok

/- comptoir/comptoirref01.Num -/
noncomputable def E_comptoirref01_Num : En := enK Try.prog TYbG619t [] [(3, ⟨[3, 4, 5, 6, 9, 10, 11, 12, 13, 14, 15, 16, 17, 18, 19, 20, 21, 22, 23, 24], [], [], none, [], []⟩)] [] [] 0
def P_comptoirref01_Num : List Pat := [.leaf (.slice 1 (.int .u8)), .leaf (.int .i64), .leaf (.int .i64)]
def O_comptoirref01_Num : Pat := .leaf (.int .u64)
def tup_comptoirref01_Num : List AV → Int := fun ls => getI (ls.getD 0 .junk)
def res_comptoirref01_Num : Int → AV := fun x => .int .u64 (x)
noncomputable def T_comptoirref01_Num (x0 : List AV) (x1 : Int) (x2 : Int) : Tr ((Int × Int) ⊕ (Int)) := (.r (.inl (((0 : Int), (0 : Int)))))
noncomputable def M_comptoirref01_Num (x0 : List AV) (x1 : Int) (x2 : Int) : Int × Int → Tr ((Int × Int) ⊕ (Int))
  | (i0, i1) => (.c (Decidable.decide (i1 < x2)) (.c (Decidable.decide ((0 : Int) ≤ Go.IntKind.wrap Go.IntKind.i64 (x1 + i1))) (.c (Decidable.decide (Go.IntKind.wrap Go.IntKind.i64 (x1 + i1) < (↑(List.length x0) : Int))) (.r (.inl ((Go.Cx.bitsA Go.BinOp.or Go.IntKind.u64 (Go.Cx.shlA Go.IntKind.u64 i0 (8 : Int)) (Go.IntKind.wrap Go.IntKind.u64 (Go.Cx.getI (List.getD x0 (Int.toNat (Go.IntKind.wrap Go.IntKind.i64 (x1 + i1))) (Go.Cx.AV.int Go.IntKind.u8 (0 : Int))))), Go.IntKind.wrap Go.IntKind.i64 (i1 + (1 : Int)))))) .bad) .bad) (.r (.inr (i0))))
noncomputable def g_comptoirref01_Num (x0 : List AV) (x1 : Int) (x2 : Int) : Option (Int) := run (M_comptoirref01_Num x0 x1 x2) (T_comptoirref01_Num x0 x1 x2)
noncomputable def b_comptoirref01_Num := Try.f38.body.getD .skip
noncomputable def st_comptoirref01_Num_0 (x0 : List AV) (x1 : Int) (x2 : Int) (i0 : Int) (i1 : Int) : St := ⟨[Go.Cx.AV.slice (1 : Nat) (Go.Cx.Sh.int Go.IntKind.u8) x0 Go.Cx.SK.ro, Go.Cx.AV.int Go.IntKind.i64 x1, Go.Cx.AV.int Go.IntKind.i64 x2, Go.Cx.AV.junk, Go.Cx.AV.junk, Go.Cx.AV.junk, Go.Cx.AV.junk, Go.Cx.AV.int Go.IntKind.u64 i0, Go.Cx.AV.int Go.IntKind.i64 i1, Go.Cx.AV.junk, Go.Cx.AV.junk, Go.Cx.AV.junk, Go.Cx.AV.junk, Go.Cx.AV.junk, Go.Cx.AV.junk, Go.Cx.AV.junk, Go.Cx.AV.junk, Go.Cx.AV.junk, Go.Cx.AV.junk, Go.Cx.AV.junk, Go.Cx.AV.junk, Go.Cx.AV.junk, Go.Cx.AV.junk, Go.Cx.AV.junk, Go.Cx.AV.junk], []⟩
noncomputable def L_comptoirref01_Num (x0 : List AV) (x1 : Int) (x2 : Int) (Rv : Int → Prop) : Int × Int → Prop
  | (i0, i1) => headL E_comptoirref01_Num [.r, .r, .l, .r, .d] b_comptoirref01_Num 0 (bodyK E_comptoirref01_Num Try.f38 (outP O_comptoirref01_Num fun ls => Rv (tup_comptoirref01_Num ls))) (st_comptoirref01_Num_0 x0 x1 x2 i0 i1)
set_option maxRecDepth 100000 in
theorem l_comptoirref01_Num_0 (x0 : List AV) (x1 : Int) (x2 : Int) (Rv : Int → Prop) (i0 : Int) (i1 : Int) : stepL E_comptoirref01_Num [.r, .r, .l, .r, .d] b_comptoirref01_Num 0 (bodyK E_comptoirref01_Num Try.f38 (outP O_comptoirref01_Num fun ls => Rv (tup_comptoirref01_Num ls))) (st_comptoirref01_Num_0 x0 x1 x2 i0 i1) =
  (M_comptoirref01_Num x0 x1 x2 ((i0, i1))).fold False (Sum.elim (L_comptoirref01_Num x0 x1 x2 Rv) Rv) := by kernel_rfl
set_option maxRecDepth 100000 in
theorem e_comptoirref01_Num_0 (x0 : List AV) (x1 : Int) (x2 : Int) (Rv : Int → Prop) (i0 : Int) (i1 : Int) : L_comptoirref01_Num x0 x1 x2 Rv ((i0, i1)) = headL E_comptoirref01_Num [.r, .r, .l, .r, .d] b_comptoirref01_Num 0 (bodyK E_comptoirref01_Num Try.f38 (outP O_comptoirref01_Num fun ls => Rv (tup_comptoirref01_Num ls))) (st_comptoirref01_Num_0 x0 x1 x2 i0 i1) := by kernel_rfl
section
attribute [local irreducible] Tr.fold M_comptoirref01_Num L_comptoirref01_Num T_comptoirref01_Num E_comptoirref01_Num b_comptoirref01_Num bodyK headC headL stepC stepL wpX callA
set_option maxRecDepth 100000 in
theorem h_comptoirref01_Num (x0 : List AV) (x1 : Int) (x2 : Int) (Rv : Int → Prop) : ∀ s, (M_comptoirref01_Num x0 x1 x2 s).fold False (Sum.elim (L_comptoirref01_Num x0 x1 x2 Rv) Rv) → L_comptoirref01_Num x0 x1 x2 Rv s := by
  rintro (⟨v0, v1⟩)
  · exact fun h => Eq.mpr (e_comptoirref01_Num_0 x0 x1 x2 Rv v0 v1) (headL_of (Eq.mpr (l_comptoirref01_Num_0 x0 x1 x2 Rv v0 v1) h))
set_option maxRecDepth 100000 in
theorem c_comptoirref01_Num (ls : List AV) (Rv : Int → Prop) : callA E_comptoirref01_Num Try.f38 (instL ls P_comptoirref01_Num 0) [] (outP O_comptoirref01_Num fun ls => Rv (tup_comptoirref01_Num ls)) = (T_comptoirref01_Num (getXs (ls.getD 0 .junk)) (getI (ls.getD 1 .junk)) (getI (ls.getD 2 .junk))).fold False (Sum.elim (L_comptoirref01_Num (getXs (ls.getD 0 .junk)) (getI (ls.getD 1 .junk)) (getI (ls.getD 2 .junk)) Rv) Rv) := by kernel_rfl
end
noncomputable def S_comptoirref01_Num : Go.Cx.Spec := pureS (patF P_comptoirref01_Num fun ls => opt (g_comptoirref01_Num (getXs (ls.getD 0 .junk)) (getI (ls.getD 1 .junk)) (getI (ls.getD 2 .junk))) fun x => .r (res_comptoirref01_Num x))
set_option maxRecDepth 100000 in
theorem S_comptoirref01_Num_ok : Sound Try.prog 38 S_comptoirref01_Num :=
  pure_mach (E := E_comptoirref01_Num) (TblOK.enK TYbG619t_ok _ _ _ _ _) mixed rfl Try.func38 (c := Try.f38.body.getD .skip) (by kernel_rfl) (by kernel_rfl) (pats := P_comptoirref01_Num) (O := O_comptoirref01_Num) (tup := tup_comptoirref01_Num) (res := res_comptoirref01_Num) (g := fun ls => g_comptoirref01_Num (getXs (ls.getD 0 .junk)) (getI (ls.getD 1 .junk)) (getI (ls.getD 2 .junk))) (T := fun ls => T_comptoirref01_Num (getXs (ls.getD 0 .junk)) (getI (ls.getD 1 .junk)) (getI (ls.getD 2 .junk))) (step := fun ls => M_comptoirref01_Num (getXs (ls.getD 0 .junk)) (getI (ls.getD 1 .junk)) (getI (ls.getD 2 .junk))) (L := fun ls => L_comptoirref01_Num (getXs (ls.getD 0 .junk)) (getI (ls.getD 1 .junk)) (getI (ls.getD 2 .junk))) (fun _ => rfl) (fun ls => by kernel_rfl) c_comptoirref01_Num (fun ls Rv => h_comptoirref01_Num (getXs (ls.getD 0 .junk)) (getI (ls.getD 1 .junk)) (getI (ls.getD 2 .junk)) Rv)

noncomputable def TYbG620t : FuncId → Option Go.Cx.Spec := addT TYbG619t 38 S_comptoirref01_Num
theorem TYbG620t_ok : TblOK Try.prog TYbG620t := TYbG619t_ok.add S_comptoirref01_Num_ok

/- (*comptoir/comptoirref01.Link).Feed -/
noncomputable def E_comptoirref01_Link_Feed_p0500 : En := enK Try.prog TYbG620t [1000006] [(5, ⟨[1, 2, 3, 4, 5, 8, 9, 10, 11, 12, 13, 14, 15, 16, 17, 18, 19, 20, 21, 22, 23, 24, 25, 26, 27, 28, 29, 30, 31, 32, 33, 34, 35, 36, 37, 38, 39, 40, 41, 42, 43, 44, 45, 46, 47, 48, 49, 50, 51, 52, 53, 54, 55, 56, 57], [], [], none, [], []⟩)] [(5, [(7, 22, (.slice 1 (.int .u8)))])] [] 1
def P_comptoirref01_Link_Feed_p0500 : List Pat := [.lit (.ptr 0 0), .leaf (.slice 1 (.int .u8))]
def Q_comptoirref01_Link_Feed_p0500 : List OPat := [.fix 41 [.leaf (.slice 1 (.int .u8)), .leaf .bool]]
def O_comptoirref01_Link_Feed_p0500 : Pat := .tuple [.leaf (.slice 1 (.slice 1 (.int .u8))), .leaf (.int .i64)]
def OO_comptoirref01_Link_Feed_p0500 : List OPat := [.fix 41 [.leaf (.slice 1 (.int .u8)), .leaf .bool]]
def tup_comptoirref01_Link_Feed_p0500 : List AV → List AV × Int × List AV × Bool := fun ls => (getXs (ls.getD 0 .junk), getI (ls.getD 1 .junk), getXs (ls.getD 2 .junk), getB (ls.getD 3 .junk))
def res_comptoirref01_Link_Feed_p0500 : List AV × Int × List AV × Bool → AV × List Ob := fun x => (.tuple [.slice 1 (.slice 1 (.int .u8)) (x.1) .ro, .int .i64 (x.2.1)], [.fix 41 [.slice 1 (.int .u8) (x.2.2.1) .ro, .bool (x.2.2.2)]])
noncomputable def T_comptoirref01_Link_Feed_p0500 (x0 : List AV) (x1 : List AV) (x2 : Bool) : Tr ((List AV × List AV) ⊕ (List AV × Int × List AV × Bool)) := (.c (x2) (.r (.inr (([], (4 : Int), x1, x2)))) (.c (Decidable.decide (List.length x1 * (2 : Nat) < (70368744177664 : Nat))) (.c (List.length x1 == List.length x1) (.c (Decidable.decide (List.length (x1 ++ x0) * (2 : Nat) < (70368744177664 : Nat))) (.c (List.length (x1 ++ x0) == List.length (x1 ++ x0)) (.r (.inl ((x1 ++ x0, [])))) .bad) .bad) .bad) .bad))
noncomputable def M_comptoirref01_Link_Feed_p0500 (x0 : List AV) (x1 : List AV) (x2 : Bool) : List AV × List AV → Tr ((List AV × List AV) ⊕ (List AV × Int × List AV × Bool))
  | (l0, l1) => (.c (Decidable.decide ((↑(List.length l0) : Int) ≥ (2 : Int))) (opt (Go.Proofs.Ytaejmfmamhdlhaa.g_comptoirref01_Num l0 (0 : Int) (2 : Int)) fun (y0 : Int) => (.c (Go.IntKind.wrap Go.IntKind.i64 y0 == (0 : Int)) (.r (.inr (([], (4 : Int), x1, Bool.true)))) (.c (Decidable.decide (Go.IntKind.wrap Go.IntKind.i64 y0 > (4096 : Int))) (.r (.inr (([], (4 : Int), x1, Bool.true)))) (.c (Decidable.decide ((↑(List.length l0) : Int) < Go.IntKind.wrap Go.IntKind.i64 ((2 : Int) + Go.IntKind.wrap Go.IntKind.i64 y0))) (.c (Decidable.decide (List.length l0 * (2 : Nat) < (70368744177664 : Nat))) (.c (List.length l1 == List.length l1) (.c (List.length l0 == List.length l0) (.r (.inr ((l1, (0 : Int), l0, x2)))) .bad) .bad) .bad) (.c (Decidable.decide ((0 : Int) ≤ Go.IntKind.wrap Go.IntKind.i64 ((2 : Int) + Go.IntKind.wrap Go.IntKind.i64 y0))) (.c (Decidable.decide (Go.IntKind.wrap Go.IntKind.i64 ((2 : Int) + Go.IntKind.wrap Go.IntKind.i64 y0) ≤ (↑(List.length l0) : Int))) (.c (Decidable.decide ((2 : Int) ≤ Go.IntKind.wrap Go.IntKind.i64 ((2 : Int) + Go.IntKind.wrap Go.IntKind.i64 y0))) (.c (Decidable.decide (List.length (List.drop (2 : Nat) (List.take (Int.toNat (Go.IntKind.wrap Go.IntKind.i64 ((2 : Int) + Go.IntKind.wrap Go.IntKind.i64 y0))) l0)) * (2 : Nat) < (70368744177664 : Nat))) (.c (List.length (List.drop (2 : Nat) (List.take (Int.toNat (Go.IntKind.wrap Go.IntKind.i64 ((2 : Int) + Go.IntKind.wrap Go.IntKind.i64 y0))) l0)) == List.length (List.drop (2 : Nat) (List.take (Int.toNat (Go.IntKind.wrap Go.IntKind.i64 ((2 : Int) + Go.IntKind.wrap Go.IntKind.i64 y0))) l0))) (.c (List.length l1 == List.length l1) (.c (Decidable.decide (List.length (l1 ++ [Go.Cx.AV.slice (1 : Nat) (Go.Cx.Sh.int Go.IntKind.u8) (List.drop (2 : Nat) (List.take (Int.toNat (Go.IntKind.wrap Go.IntKind.i64 ((2 : Int) + Go.IntKind.wrap Go.IntKind.i64 y0))) l0)) Go.Cx.SK.ro]) * (25 : Nat) < (70368744177664 : Nat))) (.c (Decidable.decide ((↑(List.length l0) : Int) ≤ (↑(List.length l0) : Int))) (.c (Decidable.decide ((0 : Int) ≤ Go.IntKind.wrap Go.IntKind.i64 ((2 : Int) + Go.IntKind.wrap Go.IntKind.i64 y0))) (.c (Decidable.decide (Go.IntKind.wrap Go.IntKind.i64 ((2 : Int) + Go.IntKind.wrap Go.IntKind.i64 y0) ≤ (↑(List.length l0) : Int))) (.r (.inl ((List.drop (Int.toNat (Go.IntKind.wrap Go.IntKind.i64 ((2 : Int) + Go.IntKind.wrap Go.IntKind.i64 y0))) (List.take (List.length l0) l0), l1 ++ [Go.Cx.AV.slice (1 : Nat) (Go.Cx.Sh.int Go.IntKind.u8) (List.drop (2 : Nat) (List.take (Int.toNat (Go.IntKind.wrap Go.IntKind.i64 ((2 : Int) + Go.IntKind.wrap Go.IntKind.i64 y0))) l0)) Go.Cx.SK.ro])))) .bad) .bad) .bad) .bad) .bad) .bad) .bad) .bad) .bad) .bad))))) (.c (Decidable.decide (List.length l0 * (2 : Nat) < (70368744177664 : Nat))) (.c (List.length l1 == List.length l1) (.c (List.length l0 == List.length l0) (.r (.inr ((l1, (0 : Int), l0, x2)))) .bad) .bad) .bad))
noncomputable def g_comptoirref01_Link_Feed_p0500 (x0 : List AV) (x1 : List AV) (x2 : Bool) : Option (List AV × Int × List AV × Bool) := run (M_comptoirref01_Link_Feed_p0500 x0 x1 x2) (T_comptoirref01_Link_Feed_p0500 x0 x1 x2)
noncomputable def b_comptoirref01_Link_Feed_p0500 := Try.f28.body.getD .skip
noncomputable def st_comptoirref01_Link_Feed_p0500_0 (x0 : List AV) (x1 : List AV) (x2 : Bool) (l0 : List AV) (l1 : List AV) : St := ⟨frOf 0 58 [(0, Go.Cx.AV.ptr (0 : Nat) (0 : Nat)), (6, Go.Cx.AV.slice (1 : Nat) (Go.Cx.Sh.int Go.IntKind.u8) l0 Go.Cx.SK.ro), (7, Go.Cx.AV.oslice (2 : Nat) (0 : Nat) (List.length l1))], [Go.Cx.Ob.fix (41 : Nat) [Go.Cx.AV.slice (1 : Nat) (Go.Cx.Sh.int Go.IntKind.u8) x1 Go.Cx.SK.ro, Go.Cx.AV.bool x2], Go.Cx.Ob.dead, Go.Cx.Ob.grow (22 : Nat) (0 : Nat) (1 : Nat) (Go.Cx.Sh.slice (1 : Nat) (Go.Cx.Sh.int Go.IntKind.u8)) l1]⟩
noncomputable def L_comptoirref01_Link_Feed_p0500 (x0 : List AV) (x1 : List AV) (x2 : Bool) (Rv : List AV × Int × List AV × Bool → Prop) : List AV × List AV → Prop
  | (l0, l1) => headL E_comptoirref01_Link_Feed_p0500 [.r, .r, .r, .r, .l, .d] b_comptoirref01_Link_Feed_p0500 3 (bodyK E_comptoirref01_Link_Feed_p0500 Try.f28 (outH O_comptoirref01_Link_Feed_p0500 OO_comptoirref01_Link_Feed_p0500 fun ls => Rv (tup_comptoirref01_Link_Feed_p0500 ls))) (st_comptoirref01_Link_Feed_p0500_0 x0 x1 x2 l0 l1)
set_option maxRecDepth 100000 in
theorem l_comptoirref01_Link_Feed_p0500_0 (x0 : List AV) (x1 : List AV) (x2 : Bool) (Rv : List AV × Int × List AV × Bool → Prop) (l0 : List AV) (l1 : List AV) : stepL E_comptoirref01_Link_Feed_p0500 [.r, .r, .r, .r, .l, .d] b_comptoirref01_Link_Feed_p0500 3 (bodyK E_comptoirref01_Link_Feed_p0500 Try.f28 (outH O_comptoirref01_Link_Feed_p0500 OO_comptoirref01_Link_Feed_p0500 fun ls => Rv (tup_comptoirref01_Link_Feed_p0500 ls))) (st_comptoirref01_Link_Feed_p0500_0 x0 x1 x2 l0 l1) =
  (M_comptoirref01_Link_Feed_p0500 x0 x1 x2 ((l0, l1))).fold False (Sum.elim (L_comptoirref01_Link_Feed_p0500 x0 x1 x2 Rv) Rv) := by kernel_rfl
set_option maxRecDepth 100000 in
theorem e_comptoirref01_Link_Feed_p0500_0 (x0 : List AV) (x1 : List AV) (x2 : Bool) (Rv : List AV × Int × List AV × Bool → Prop) (l0 : List AV) (l1 : List AV) : L_comptoirref01_Link_Feed_p0500 x0 x1 x2 Rv ((l0, l1)) = headL E_comptoirref01_Link_Feed_p0500 [.r, .r, .r, .r, .l, .d] b_comptoirref01_Link_Feed_p0500 3 (bodyK E_comptoirref01_Link_Feed_p0500 Try.f28 (outH O_comptoirref01_Link_Feed_p0500 OO_comptoirref01_Link_Feed_p0500 fun ls => Rv (tup_comptoirref01_Link_Feed_p0500 ls))) (st_comptoirref01_Link_Feed_p0500_0 x0 x1 x2 l0 l1) := by kernel_rfl
section
attribute [local irreducible] Tr.fold M_comptoirref01_Link_Feed_p0500 L_comptoirref01_Link_Feed_p0500 T_comptoirref01_Link_Feed_p0500 E_comptoirref01_Link_Feed_p0500 b_comptoirref01_Link_Feed_p0500 bodyK headC headL stepC stepL wpX callA
set_option maxRecDepth 100000 in
theorem h_comptoirref01_Link_Feed_p0500 (x0 : List AV) (x1 : List AV) (x2 : Bool) (Rv : List AV × Int × List AV × Bool → Prop) : ∀ s, (M_comptoirref01_Link_Feed_p0500 x0 x1 x2 s).fold False (Sum.elim (L_comptoirref01_Link_Feed_p0500 x0 x1 x2 Rv) Rv) → L_comptoirref01_Link_Feed_p0500 x0 x1 x2 Rv s := by
  rintro (⟨v0, v1⟩)
  · exact fun h => Eq.mpr (e_comptoirref01_Link_Feed_p0500_0 x0 x1 x2 Rv v0 v1) (headL_of (Eq.mpr (l_comptoirref01_Link_Feed_p0500_0 x0 x1 x2 Rv v0 v1) h))
set_option maxRecDepth 100000 in
theorem c_comptoirref01_Link_Feed_p0500 (ls : List AV) (Rv : List AV × Int × List AV × Bool → Prop) : callA E_comptoirref01_Link_Feed_p0500 Try.f28 (instL ls P_comptoirref01_Link_Feed_p0500 0) (instH ls Q_comptoirref01_Link_Feed_p0500 1) (outH O_comptoirref01_Link_Feed_p0500 OO_comptoirref01_Link_Feed_p0500 fun ls => Rv (tup_comptoirref01_Link_Feed_p0500 ls)) = (T_comptoirref01_Link_Feed_p0500 (getXs (ls.getD 0 .junk)) (getXs (ls.getD 1 .junk)) (getB (ls.getD 2 .junk))).fold False (Sum.elim (L_comptoirref01_Link_Feed_p0500 (getXs (ls.getD 0 .junk)) (getXs (ls.getD 1 .junk)) (getB (ls.getD 2 .junk)) Rv) Rv) := by kernel_rfl
end
noncomputable def S_comptoirref01_Link_Feed_p0500 : Go.Cx.Spec := heapS (patH P_comptoirref01_Link_Feed_p0500 Q_comptoirref01_Link_Feed_p0500 fun ls => opt (g_comptoirref01_Link_Feed_p0500 (getXs (ls.getD 0 .junk)) (getXs (ls.getD 1 .junk)) (getB (ls.getD 2 .junk))) fun x => .r (res_comptoirref01_Link_Feed_p0500 x))
set_option maxRecDepth 100000 in
theorem S_comptoirref01_Link_Feed_p0500_ok : Sound Try.prog 28 S_comptoirref01_Link_Feed_p0500 :=
  heap_mach (E := E_comptoirref01_Link_Feed_p0500) (TblOK.enK TYbG620t_ok _ _ _ _ _) mixed Try.func28 (c := Try.f28.body.getD .skip) (by kernel_rfl) (by kernel_rfl) (by decide) (pats := P_comptoirref01_Link_Feed_p0500) (ops := Q_comptoirref01_Link_Feed_p0500) (OO := OO_comptoirref01_Link_Feed_p0500) (O := O_comptoirref01_Link_Feed_p0500) (tup := tup_comptoirref01_Link_Feed_p0500) (res := res_comptoirref01_Link_Feed_p0500) (g := fun ls => g_comptoirref01_Link_Feed_p0500 (getXs (ls.getD 0 .junk)) (getXs (ls.getD 1 .junk)) (getB (ls.getD 2 .junk))) (T := fun ls => T_comptoirref01_Link_Feed_p0500 (getXs (ls.getD 0 .junk)) (getXs (ls.getD 1 .junk)) (getB (ls.getD 2 .junk))) (step := fun ls => M_comptoirref01_Link_Feed_p0500 (getXs (ls.getD 0 .junk)) (getXs (ls.getD 1 .junk)) (getB (ls.getD 2 .junk))) (L := fun ls => L_comptoirref01_Link_Feed_p0500 (getXs (ls.getD 0 .junk)) (getXs (ls.getD 1 .junk)) (getB (ls.getD 2 .junk))) (fun _ => rfl) (fun ls => by kernel_rfl) c_comptoirref01_Link_Feed_p0500 (fun ls Rv => h_comptoirref01_Link_Feed_p0500 (getXs (ls.getD 0 .junk)) (getXs (ls.getD 1 .junk)) (getB (ls.getD 2 .junk)) Rv)

noncomputable def TYbG621t : FuncId → Option Go.Cx.Spec := addT TYbG620t 28 S_comptoirref01_Link_Feed_p0500
theorem TYbG621t_ok : TblOK Try.prog TYbG621t := TYbG620t_ok.add S_comptoirref01_Link_Feed_p0500_ok

/- comptoir/comptoirhelp.Same[[]byte] -/
noncomputable def E_comptoirhelp_Same_byte_00fBytes_ : En := enK Try.prog TYbG621t [] [(4, ⟨[3, 4, 5, 6, 8, 9, 10, 11, 12, 13, 14, 15, 16, 17, 18, 19, 20, 21, 22, 23, 24, 25, 26, 27, 28, 29], [], [], none, [], []⟩)] [] [] 0
def P_comptoirhelp_Same_byte_00fBytes_ : List Pat := [.leaf (.slice 1 (.slice 1 (.int .u8))), .leaf (.slice 1 (.slice 1 (.int .u8))), .func 19 [] []]
def O_comptoirhelp_Same_byte_00fBytes_ : Pat := .leaf .bool
def tup_comptoirhelp_Same_byte_00fBytes_ : List AV → Bool := fun ls => getB (ls.getD 0 .junk)
def res_comptoirhelp_Same_byte_00fBytes_ : Bool → AV := fun x => .bool (x)
noncomputable def T_comptoirhelp_Same_byte_00fBytes_ (x0 : List AV) (x1 : List AV) : Tr ((Int) ⊕ (Bool)) := (.c ((↑(List.length x0) : Int) != (↑(List.length x1) : Int)) (.r (.inr (Bool.false))) (.r (.inl ((0 : Int)))))
noncomputable def M_comptoirhelp_Same_byte_00fBytes_ (x0 : List AV) (x1 : List AV) : Int → Tr ((Int) ⊕ (Bool))
  | i0 => (.c (Decidable.decide (i0 < (↑(List.length x0) : Int))) (.c (Decidable.decide ((0 : Int) ≤ i0)) (.c (Decidable.decide (i0 < (↑(List.length x0) : Int))) (.c (Decidable.decide ((0 : Int) ≤ i0)) (.c (Decidable.decide (i0 < (↑(List.length x1) : Int))) (.c (!Go.Cx.bytesOf (Go.Cx.getXs (List.getD x0 (Int.toNat i0) (Go.Cx.AV.slice (1 : Nat) (Go.Cx.Sh.int Go.IntKind.u8) [] Go.Cx.SK.ro))) == Go.Cx.bytesOf (Go.Cx.getXs (List.getD x1 (Int.toNat i0) (Go.Cx.AV.slice (1 : Nat) (Go.Cx.Sh.int Go.IntKind.u8) [] Go.Cx.SK.ro)))) (.r (.inr (Bool.false))) (.r (.inl (Go.IntKind.wrap Go.IntKind.i64 (i0 + (1 : Int)))))) .bad) .bad) .bad) .bad) (.r (.inr (Bool.true))))
noncomputable def g_comptoirhelp_Same_byte_00fBytes_ (x0 : List AV) (x1 : List AV) : Option (Bool) := run (M_comptoirhelp_Same_byte_00fBytes_ x0 x1) (T_comptoirhelp_Same_byte_00fBytes_ x0 x1)
noncomputable def b_comptoirhelp_Same_byte_00fBytes_ := Try.f29.body.getD .skip
noncomputable def st_comptoirhelp_Same_byte_00fBytes__0 (x0 : List AV) (x1 : List AV) (i0 : Int) : St := ⟨[Go.Cx.AV.slice (1 : Nat) (Go.Cx.Sh.slice (1 : Nat) (Go.Cx.Sh.int Go.IntKind.u8)) x0 Go.Cx.SK.ro, Go.Cx.AV.slice (1 : Nat) (Go.Cx.Sh.slice (1 : Nat) (Go.Cx.Sh.int Go.IntKind.u8)) x1 Go.Cx.SK.ro, Go.Cx.AV.func (19 : Nat) [] [], Go.Cx.AV.junk, Go.Cx.AV.junk, Go.Cx.AV.junk, Go.Cx.AV.junk, Go.Cx.AV.int Go.IntKind.i64 i0, Go.Cx.AV.junk, Go.Cx.AV.junk, Go.Cx.AV.junk, Go.Cx.AV.junk, Go.Cx.AV.junk, Go.Cx.AV.junk, Go.Cx.AV.junk, Go.Cx.AV.junk, Go.Cx.AV.junk, Go.Cx.AV.junk, Go.Cx.AV.junk, Go.Cx.AV.junk, Go.Cx.AV.junk, Go.Cx.AV.junk, Go.Cx.AV.junk, Go.Cx.AV.junk, Go.Cx.AV.junk, Go.Cx.AV.junk, Go.Cx.AV.junk, Go.Cx.AV.junk, Go.Cx.AV.junk, Go.Cx.AV.junk], []⟩
noncomputable def L_comptoirhelp_Same_byte_00fBytes_ (x0 : List AV) (x1 : List AV) (Rv : Bool → Prop) : Int → Prop
  | i0 => headL E_comptoirhelp_Same_byte_00fBytes_ [.r, .r, .l, .r, .d] b_comptoirhelp_Same_byte_00fBytes_ 0 (bodyK E_comptoirhelp_Same_byte_00fBytes_ Try.f29 (outP O_comptoirhelp_Same_byte_00fBytes_ fun ls => Rv (tup_comptoirhelp_Same_byte_00fBytes_ ls))) (st_comptoirhelp_Same_byte_00fBytes__0 x0 x1 i0)
set_option maxRecDepth 100000 in
theorem l_comptoirhelp_Same_byte_00fBytes__0 (x0 : List AV) (x1 : List AV) (Rv : Bool → Prop) (i0 : Int) : stepL E_comptoirhelp_Same_byte_00fBytes_ [.r, .r, .l, .r, .d] b_comptoirhelp_Same_byte_00fBytes_ 0 (bodyK E_comptoirhelp_Same_byte_00fBytes_ Try.f29 (outP O_comptoirhelp_Same_byte_00fBytes_ fun ls => Rv (tup_comptoirhelp_Same_byte_00fBytes_ ls))) (st_comptoirhelp_Same_byte_00fBytes__0 x0 x1 i0) =
  (M_comptoirhelp_Same_byte_00fBytes_ x0 x1 (i0)).fold False (Sum.elim (L_comptoirhelp_Same_byte_00fBytes_ x0 x1 Rv) Rv) := by kernel_rfl
set_option maxRecDepth 100000 in
theorem e_comptoirhelp_Same_byte_00fBytes__0 (x0 : List AV) (x1 : List AV) (Rv : Bool → Prop) (i0 : Int) : L_comptoirhelp_Same_byte_00fBytes_ x0 x1 Rv (i0) = headL E_comptoirhelp_Same_byte_00fBytes_ [.r, .r, .l, .r, .d] b_comptoirhelp_Same_byte_00fBytes_ 0 (bodyK E_comptoirhelp_Same_byte_00fBytes_ Try.f29 (outP O_comptoirhelp_Same_byte_00fBytes_ fun ls => Rv (tup_comptoirhelp_Same_byte_00fBytes_ ls))) (st_comptoirhelp_Same_byte_00fBytes__0 x0 x1 i0) := by kernel_rfl
section
attribute [local irreducible] Tr.fold M_comptoirhelp_Same_byte_00fBytes_ L_comptoirhelp_Same_byte_00fBytes_ T_comptoirhelp_Same_byte_00fBytes_ E_comptoirhelp_Same_byte_00fBytes_ b_comptoirhelp_Same_byte_00fBytes_ bodyK headC headL stepC stepL wpX callA
set_option maxRecDepth 100000 in
theorem h_comptoirhelp_Same_byte_00fBytes_ (x0 : List AV) (x1 : List AV) (Rv : Bool → Prop) : ∀ s, (M_comptoirhelp_Same_byte_00fBytes_ x0 x1 s).fold False (Sum.elim (L_comptoirhelp_Same_byte_00fBytes_ x0 x1 Rv) Rv) → L_comptoirhelp_Same_byte_00fBytes_ x0 x1 Rv s := by
  rintro (v0)
  · exact fun h => Eq.mpr (e_comptoirhelp_Same_byte_00fBytes__0 x0 x1 Rv v0) (headL_of (Eq.mpr (l_comptoirhelp_Same_byte_00fBytes__0 x0 x1 Rv v0) h))
set_option maxRecDepth 100000 in
theorem c_comptoirhelp_Same_byte_00fBytes_ (ls : List AV) (Rv : Bool → Prop) : callA E_comptoirhelp_Same_byte_00fBytes_ Try.f29 (instL ls P_comptoirhelp_Same_byte_00fBytes_ 0) [] (outP O_comptoirhelp_Same_byte_00fBytes_ fun ls => Rv (tup_comptoirhelp_Same_byte_00fBytes_ ls)) = (T_comptoirhelp_Same_byte_00fBytes_ (getXs (ls.getD 0 .junk)) (getXs (ls.getD 1 .junk))).fold False (Sum.elim (L_comptoirhelp_Same_byte_00fBytes_ (getXs (ls.getD 0 .junk)) (getXs (ls.getD 1 .junk)) Rv) Rv) := by kernel_rfl
end
noncomputable def S_comptoirhelp_Same_byte_00fBytes_ : Go.Cx.Spec := pureS (patF P_comptoirhelp_Same_byte_00fBytes_ fun ls => opt (g_comptoirhelp_Same_byte_00fBytes_ (getXs (ls.getD 0 .junk)) (getXs (ls.getD 1 .junk))) fun x => .r (res_comptoirhelp_Same_byte_00fBytes_ x))
set_option maxRecDepth 100000 in
theorem S_comptoirhelp_Same_byte_00fBytes__ok : Sound Try.prog 29 S_comptoirhelp_Same_byte_00fBytes_ :=
  pure_mach (E := E_comptoirhelp_Same_byte_00fBytes_) (TblOK.enK TYbG621t_ok _ _ _ _ _) mixed rfl Try.func29 (c := Try.f29.body.getD .skip) (by kernel_rfl) (by kernel_rfl) (pats := P_comptoirhelp_Same_byte_00fBytes_) (O := O_comptoirhelp_Same_byte_00fBytes_) (tup := tup_comptoirhelp_Same_byte_00fBytes_) (res := res_comptoirhelp_Same_byte_00fBytes_) (g := fun ls => g_comptoirhelp_Same_byte_00fBytes_ (getXs (ls.getD 0 .junk)) (getXs (ls.getD 1 .junk))) (T := fun ls => T_comptoirhelp_Same_byte_00fBytes_ (getXs (ls.getD 0 .junk)) (getXs (ls.getD 1 .junk))) (step := fun ls => M_comptoirhelp_Same_byte_00fBytes_ (getXs (ls.getD 0 .junk)) (getXs (ls.getD 1 .junk))) (L := fun ls => L_comptoirhelp_Same_byte_00fBytes_ (getXs (ls.getD 0 .junk)) (getXs (ls.getD 1 .junk))) (fun _ => rfl) (fun ls => by kernel_rfl) c_comptoirhelp_Same_byte_00fBytes_ (fun ls Rv => h_comptoirhelp_Same_byte_00fBytes_ (getXs (ls.getD 0 .junk)) (getXs (ls.getD 1 .junk)) Rv)

noncomputable def TYbG622t : FuncId → Option Go.Cx.Spec := addT TYbG621t 29 S_comptoirhelp_Same_byte_00fBytes_
theorem TYbG622t_ok : TblOK Try.prog TYbG622t := TYbG621t_ok.add S_comptoirhelp_Same_byte_00fBytes__ok

/- comptoir/comptoirhelp.Plain[byte]$1 -/
noncomputable def E_comptoirhelp_Plain_byte_1 : En := enK Try.prog TYbG622t [] [] [] [] 0
def P_comptoirhelp_Plain_byte_1 : List Pat := [.leaf (.int .u8), .leaf (.int .u8)]
def O_comptoirhelp_Plain_byte_1 : Pat := .leaf .bool
def tup_comptoirhelp_Plain_byte_1 : List AV → Bool := fun ls => getB (ls.getD 0 .junk)
def res_comptoirhelp_Plain_byte_1 : Bool → AV := fun x => .bool (x)
noncomputable def T_comptoirhelp_Plain_byte_1 (x0 : Int) (x1 : Int) : Tr (Bool) := (.r (x0 == x1))
noncomputable def g_comptoirhelp_Plain_byte_1 (x0 : Int) (x1 : Int) : Option (Bool) := (T_comptoirhelp_Plain_byte_1 x0 x1).val
set_option maxRecDepth 100000 in
theorem c_comptoirhelp_Plain_byte_1 (ls : List AV) (Rv : Bool → Prop) : callA E_comptoirhelp_Plain_byte_1 Try.f53 (instL ls P_comptoirhelp_Plain_byte_1 0) [] (outP O_comptoirhelp_Plain_byte_1 fun ls => Rv (tup_comptoirhelp_Plain_byte_1 ls)) = (T_comptoirhelp_Plain_byte_1 (getI (ls.getD 0 .junk)) (getI (ls.getD 1 .junk))).fold False Rv := by kernel_rfl
noncomputable def S_comptoirhelp_Plain_byte_1 : Go.Cx.Spec := pureS (patF P_comptoirhelp_Plain_byte_1 fun ls => opt (g_comptoirhelp_Plain_byte_1 (getI (ls.getD 0 .junk)) (getI (ls.getD 1 .junk))) fun x => .r (res_comptoirhelp_Plain_byte_1 x))
set_option maxRecDepth 100000 in
theorem S_comptoirhelp_Plain_byte_1_ok : Sound Try.prog 53 S_comptoirhelp_Plain_byte_1 :=
  pure_flat (E := E_comptoirhelp_Plain_byte_1) (TblOK.enK TYbG622t_ok _ _ _ _ _) mixed rfl Try.func53 (c := Try.f53.body.getD .skip) (by kernel_rfl) (by kernel_rfl) (pats := P_comptoirhelp_Plain_byte_1) (O := O_comptoirhelp_Plain_byte_1) (tup := tup_comptoirhelp_Plain_byte_1) (res := res_comptoirhelp_Plain_byte_1) (g := fun ls => g_comptoirhelp_Plain_byte_1 (getI (ls.getD 0 .junk)) (getI (ls.getD 1 .junk))) (T := fun ls => T_comptoirhelp_Plain_byte_1 (getI (ls.getD 0 .junk)) (getI (ls.getD 1 .junk))) (fun _ => rfl) (fun ls => by kernel_rfl) c_comptoirhelp_Plain_byte_1

noncomputable def TYbG623t : FuncId → Option Go.Cx.Spec := addT TYbG622t 53 S_comptoirhelp_Plain_byte_1
theorem TYbG623t_ok : TblOK Try.prog TYbG623t := TYbG622t_ok.add S_comptoirhelp_Plain_byte_1_ok

/- comptoir/comptoirhelp.Same[byte] -/
noncomputable def E_comptoirhelp_Same_byte_00fPlainbyte1_ : En := enK Try.prog TYbG623t [] [(4, ⟨[3, 4, 5, 6, 8, 9, 10, 11, 12, 13, 14, 15, 16, 17, 18, 19, 20, 21, 22, 23, 24, 25, 26, 27, 28, 29], [], [], none, [], []⟩)] [] [] 0
def P_comptoirhelp_Same_byte_00fPlainbyte1_ : List Pat := [.leaf (.slice 1 (.int .u8)), .leaf (.slice 1 (.int .u8)), .func 53 [] []]
def O_comptoirhelp_Same_byte_00fPlainbyte1_ : Pat := .leaf .bool
def tup_comptoirhelp_Same_byte_00fPlainbyte1_ : List AV → Bool := fun ls => getB (ls.getD 0 .junk)
def res_comptoirhelp_Same_byte_00fPlainbyte1_ : Bool → AV := fun x => .bool (x)
noncomputable def T_comptoirhelp_Same_byte_00fPlainbyte1_ (x0 : List AV) (x1 : List AV) : Tr ((Int) ⊕ (Bool)) := (.c ((↑(List.length x0) : Int) != (↑(List.length x1) : Int)) (.r (.inr (Bool.false))) (.r (.inl ((0 : Int)))))
noncomputable def M_comptoirhelp_Same_byte_00fPlainbyte1_ (x0 : List AV) (x1 : List AV) : Int → Tr ((Int) ⊕ (Bool))
  | i0 => (.c (Decidable.decide (i0 < (↑(List.length x0) : Int))) (.c (Decidable.decide ((0 : Int) ≤ i0)) (.c (Decidable.decide (i0 < (↑(List.length x0) : Int))) (.c (Decidable.decide ((0 : Int) ≤ i0)) (.c (Decidable.decide (i0 < (↑(List.length x1) : Int))) (.c (!Go.Cx.getI (List.getD x0 (Int.toNat i0) (Go.Cx.AV.int Go.IntKind.u8 (0 : Int))) == Go.Cx.getI (List.getD x1 (Int.toNat i0) (Go.Cx.AV.int Go.IntKind.u8 (0 : Int)))) (.r (.inr (Bool.false))) (.r (.inl (Go.IntKind.wrap Go.IntKind.i64 (i0 + (1 : Int)))))) .bad) .bad) .bad) .bad) (.r (.inr (Bool.true))))
noncomputable def g_comptoirhelp_Same_byte_00fPlainbyte1_ (x0 : List AV) (x1 : List AV) : Option (Bool) := run (M_comptoirhelp_Same_byte_00fPlainbyte1_ x0 x1) (T_comptoirhelp_Same_byte_00fPlainbyte1_ x0 x1)
noncomputable def b_comptoirhelp_Same_byte_00fPlainbyte1_ := Try.f52.body.getD .skip
noncomputable def st_comptoirhelp_Same_byte_00fPlainbyte1__0 (x0 : List AV) (x1 : List AV) (i0 : Int) : St := ⟨[Go.Cx.AV.slice (1 : Nat) (Go.Cx.Sh.int Go.IntKind.u8) x0 Go.Cx.SK.ro, Go.Cx.AV.slice (1 : Nat) (Go.Cx.Sh.int Go.IntKind.u8) x1 Go.Cx.SK.ro, Go.Cx.AV.func (53 : Nat) [] [], Go.Cx.AV.junk, Go.Cx.AV.junk, Go.Cx.AV.junk, Go.Cx.AV.junk, Go.Cx.AV.int Go.IntKind.i64 i0, Go.Cx.AV.junk, Go.Cx.AV.junk, Go.Cx.AV.junk, Go.Cx.AV.junk, Go.Cx.AV.junk, Go.Cx.AV.junk, Go.Cx.AV.junk, Go.Cx.AV.junk, Go.Cx.AV.junk, Go.Cx.AV.junk, Go.Cx.AV.junk, Go.Cx.AV.junk, Go.Cx.AV.junk, Go.Cx.AV.junk, Go.Cx.AV.junk, Go.Cx.AV.junk, Go.Cx.AV.junk, Go.Cx.AV.junk, Go.Cx.AV.junk, Go.Cx.AV.junk, Go.Cx.AV.junk, Go.Cx.AV.junk], []⟩
noncomputable def L_comptoirhelp_Same_byte_00fPlainbyte1_ (x0 : List AV) (x1 : List AV) (Rv : Bool → Prop) : Int → Prop
  | i0 => headL E_comptoirhelp_Same_byte_00fPlainbyte1_ [.r, .r, .l, .r, .d] b_comptoirhelp_Same_byte_00fPlainbyte1_ 0 (bodyK E_comptoirhelp_Same_byte_00fPlainbyte1_ Try.f52 (outP O_comptoirhelp_Same_byte_00fPlainbyte1_ fun ls => Rv (tup_comptoirhelp_Same_byte_00fPlainbyte1_ ls))) (st_comptoirhelp_Same_byte_00fPlainbyte1__0 x0 x1 i0)
set_option maxRecDepth 100000 in
theorem l_comptoirhelp_Same_byte_00fPlainbyte1__0 (x0 : List AV) (x1 : List AV) (Rv : Bool → Prop) (i0 : Int) : stepL E_comptoirhelp_Same_byte_00fPlainbyte1_ [.r, .r, .l, .r, .d] b_comptoirhelp_Same_byte_00fPlainbyte1_ 0 (bodyK E_comptoirhelp_Same_byte_00fPlainbyte1_ Try.f52 (outP O_comptoirhelp_Same_byte_00fPlainbyte1_ fun ls => Rv (tup_comptoirhelp_Same_byte_00fPlainbyte1_ ls))) (st_comptoirhelp_Same_byte_00fPlainbyte1__0 x0 x1 i0) =
  (M_comptoirhelp_Same_byte_00fPlainbyte1_ x0 x1 (i0)).fold False (Sum.elim (L_comptoirhelp_Same_byte_00fPlainbyte1_ x0 x1 Rv) Rv) := by kernel_rfl
set_option maxRecDepth 100000 in
theorem e_comptoirhelp_Same_byte_00fPlainbyte1__0 (x0 : List AV) (x1 : List AV) (Rv : Bool → Prop) (i0 : Int) : L_comptoirhelp_Same_byte_00fPlainbyte1_ x0 x1 Rv (i0) = headL E_comptoirhelp_Same_byte_00fPlainbyte1_ [.r, .r, .l, .r, .d] b_comptoirhelp_Same_byte_00fPlainbyte1_ 0 (bodyK E_comptoirhelp_Same_byte_00fPlainbyte1_ Try.f52 (outP O_comptoirhelp_Same_byte_00fPlainbyte1_ fun ls => Rv (tup_comptoirhelp_Same_byte_00fPlainbyte1_ ls))) (st_comptoirhelp_Same_byte_00fPlainbyte1__0 x0 x1 i0) := by kernel_rfl
section
attribute [local irreducible] Tr.fold M_comptoirhelp_Same_byte_00fPlainbyte1_ L_comptoirhelp_Same_byte_00fPlainbyte1_ T_comptoirhelp_Same_byte_00fPlainbyte1_ E_comptoirhelp_Same_byte_00fPlainbyte1_ b_comptoirhelp_Same_byte_00fPlainbyte1_ bodyK headC headL stepC stepL wpX callA
set_option maxRecDepth 100000 in
theorem h_comptoirhelp_Same_byte_00fPlainbyte1_ (x0 : List AV) (x1 : List AV) (Rv : Bool → Prop) : ∀ s, (M_comptoirhelp_Same_byte_00fPlainbyte1_ x0 x1 s).fold False (Sum.elim (L_comptoirhelp_Same_byte_00fPlainbyte1_ x0 x1 Rv) Rv) → L_comptoirhelp_Same_byte_00fPlainbyte1_ x0 x1 Rv s := by
  rintro (v0)
  · exact fun h => Eq.mpr (e_comptoirhelp_Same_byte_00fPlainbyte1__0 x0 x1 Rv v0) (headL_of (Eq.mpr (l_comptoirhelp_Same_byte_00fPlainbyte1__0 x0 x1 Rv v0) h))
set_option maxRecDepth 100000 in
theorem c_comptoirhelp_Same_byte_00fPlainbyte1_ (ls : List AV) (Rv : Bool → Prop) : callA E_comptoirhelp_Same_byte_00fPlainbyte1_ Try.f52 (instL ls P_comptoirhelp_Same_byte_00fPlainbyte1_ 0) [] (outP O_comptoirhelp_Same_byte_00fPlainbyte1_ fun ls => Rv (tup_comptoirhelp_Same_byte_00fPlainbyte1_ ls)) = (T_comptoirhelp_Same_byte_00fPlainbyte1_ (getXs (ls.getD 0 .junk)) (getXs (ls.getD 1 .junk))).fold False (Sum.elim (L_comptoirhelp_Same_byte_00fPlainbyte1_ (getXs (ls.getD 0 .junk)) (getXs (ls.getD 1 .junk)) Rv) Rv) := by kernel_rfl
end
noncomputable def S_comptoirhelp_Same_byte_00fPlainbyte1_ : Go.Cx.Spec := pureS (patF P_comptoirhelp_Same_byte_00fPlainbyte1_ fun ls => opt (g_comptoirhelp_Same_byte_00fPlainbyte1_ (getXs (ls.getD 0 .junk)) (getXs (ls.getD 1 .junk))) fun x => .r (res_comptoirhelp_Same_byte_00fPlainbyte1_ x))
set_option maxRecDepth 100000 in
theorem S_comptoirhelp_Same_byte_00fPlainbyte1__ok : Sound Try.prog 52 S_comptoirhelp_Same_byte_00fPlainbyte1_ :=
  pure_mach (E := E_comptoirhelp_Same_byte_00fPlainbyte1_) (TblOK.enK TYbG623t_ok _ _ _ _ _) mixed rfl Try.func52 (c := Try.f52.body.getD .skip) (by kernel_rfl) (by kernel_rfl) (pats := P_comptoirhelp_Same_byte_00fPlainbyte1_) (O := O_comptoirhelp_Same_byte_00fPlainbyte1_) (tup := tup_comptoirhelp_Same_byte_00fPlainbyte1_) (res := res_comptoirhelp_Same_byte_00fPlainbyte1_) (g := fun ls => g_comptoirhelp_Same_byte_00fPlainbyte1_ (getXs (ls.getD 0 .junk)) (getXs (ls.getD 1 .junk))) (T := fun ls => T_comptoirhelp_Same_byte_00fPlainbyte1_ (getXs (ls.getD 0 .junk)) (getXs (ls.getD 1 .junk))) (step := fun ls => M_comptoirhelp_Same_byte_00fPlainbyte1_ (getXs (ls.getD 0 .junk)) (getXs (ls.getD 1 .junk))) (L := fun ls => L_comptoirhelp_Same_byte_00fPlainbyte1_ (getXs (ls.getD 0 .junk)) (getXs (ls.getD 1 .junk))) (fun _ => rfl) (fun ls => by kernel_rfl) c_comptoirhelp_Same_byte_00fPlainbyte1_ (fun ls Rv => h_comptoirhelp_Same_byte_00fPlainbyte1_ (getXs (ls.getD 0 .junk)) (getXs (ls.getD 1 .junk)) Rv)

noncomputable def TYbG624t : FuncId → Option Go.Cx.Spec := addT TYbG623t 52 S_comptoirhelp_Same_byte_00fPlainbyte1_
theorem TYbG624t_ok : TblOK Try.prog TYbG624t := TYbG623t_ok.add S_comptoirhelp_Same_byte_00fPlainbyte1__ok

/- comptoir/comptoirhelp.Plain[byte] -/
noncomputable def E_comptoirhelp_Plain_byte : En := enK Try.prog TYbG624t [] [] [] [] 0
def P_comptoirhelp_Plain_byte : List Pat := [.leaf (.slice 1 (.int .u8)), .leaf (.slice 1 (.int .u8))]
def O_comptoirhelp_Plain_byte : Pat := .leaf .bool
def tup_comptoirhelp_Plain_byte : List AV → Bool := fun ls => getB (ls.getD 0 .junk)
def res_comptoirhelp_Plain_byte : Bool → AV := fun x => .bool (x)
noncomputable def T_comptoirhelp_Plain_byte (x0 : List AV) (x1 : List AV) : Tr (Bool) := (opt (Go.Proofs.Ytaejmfmamhdlhaa.g_comptoirhelp_Same_byte_00fPlainbyte1_ x0 x1) fun (y0 : Bool) => (.r (y0)))
noncomputable def g_comptoirhelp_Plain_byte (x0 : List AV) (x1 : List AV) : Option (Bool) := (T_comptoirhelp_Plain_byte x0 x1).val
set_option maxRecDepth 100000 in
theorem c_comptoirhelp_Plain_byte (ls : List AV) (Rv : Bool → Prop) : callA E_comptoirhelp_Plain_byte Try.f43 (instL ls P_comptoirhelp_Plain_byte 0) [] (outP O_comptoirhelp_Plain_byte fun ls => Rv (tup_comptoirhelp_Plain_byte ls)) = (T_comptoirhelp_Plain_byte (getXs (ls.getD 0 .junk)) (getXs (ls.getD 1 .junk))).fold False Rv := by kernel_rfl
noncomputable def S_comptoirhelp_Plain_byte : Go.Cx.Spec := pureS (patF P_comptoirhelp_Plain_byte fun ls => opt (g_comptoirhelp_Plain_byte (getXs (ls.getD 0 .junk)) (getXs (ls.getD 1 .junk))) fun x => .r (res_comptoirhelp_Plain_byte x))
set_option maxRecDepth 100000 in
theorem S_comptoirhelp_Plain_byte_ok : Sound Try.prog 43 S_comptoirhelp_Plain_byte :=
  pure_flat (E := E_comptoirhelp_Plain_byte) (TblOK.enK TYbG624t_ok _ _ _ _ _) mixed rfl Try.func43 (c := Try.f43.body.getD .skip) (by kernel_rfl) (by kernel_rfl) (pats := P_comptoirhelp_Plain_byte) (O := O_comptoirhelp_Plain_byte) (tup := tup_comptoirhelp_Plain_byte) (res := res_comptoirhelp_Plain_byte) (g := fun ls => g_comptoirhelp_Plain_byte (getXs (ls.getD 0 .junk)) (getXs (ls.getD 1 .junk))) (T := fun ls => T_comptoirhelp_Plain_byte (getXs (ls.getD 0 .junk)) (getXs (ls.getD 1 .junk))) (fun _ => rfl) (fun ls => by kernel_rfl) c_comptoirhelp_Plain_byte

noncomputable def TYbG625t : FuncId → Option Go.Cx.Spec := addT TYbG624t 43 S_comptoirhelp_Plain_byte
theorem TYbG625t_ok : TblOK Try.prog TYbG625t := TYbG624t_ok.add S_comptoirhelp_Plain_byte_ok

/- comptoir/comptoirhelp.Kept[byte] -/
noncomputable def E_comptoirhelp_Kept_byte : En := enK Try.prog TYbG625t [] [(5, ⟨[0, 1, 3, 4, 5, 6, 9, 10, 11, 12, 13, 14, 15, 16, 17, 18, 19, 20, 21, 22, 23, 24, 25, 26, 27, 28, 29, 30, 31, 32, 33, 34, 35, 36, 37, 38, 39], [], [], none, [], []⟩)] [] [] 0
def P_comptoirhelp_Kept_byte : List Pat := [.fsl 1 (.int .u8), .leaf (.slice 1 (.int .u8)), .leaf (.int .u8)]
def O_comptoirhelp_Kept_byte : Pat := .leaf .bool
def tup_comptoirhelp_Kept_byte : List AV → Bool := fun ls => getB (ls.getD 0 .junk)
def res_comptoirhelp_Kept_byte : Bool → AV := fun x => .bool (x)
noncomputable def T_comptoirhelp_Kept_byte (x0 : List AV) (x1 : List AV) (x2 : List AV) (x3 : Int) : Tr ((List AV × List AV × Int) ⊕ (Bool)) := (opt (Go.Proofs.Ytaejmfmamhdlhaa.g_comptoirhelp_Plain_byte x0 x2) fun (y0 : Bool) => (.c (!y0) (.r (.inr (Bool.false))) (.c (Decidable.decide ((↑(List.length x0 + List.length x1) : Int) < Go.IntKind.wrap Go.IntKind.i64 ((↑(List.length x2) : Int) + (3 : Int)))) (.r (.inr (Bool.false))) (.c (Decidable.decide ((0 : Int) ≤ Go.IntKind.wrap Go.IntKind.i64 ((↑(List.length x2) : Int) + (3 : Int)))) (.c (Decidable.decide (Go.IntKind.wrap Go.IntKind.i64 ((↑(List.length x2) : Int) + (3 : Int)) ≤ (↑(List.length (x0 ++ x1)) : Int))) (.c (Decidable.decide ((0 : Int) ≤ Go.IntKind.wrap Go.IntKind.i64 ((↑(List.length x2) : Int) + (3 : Int)))) (.r (.inl ((List.drop (0 : Nat) (List.take (Int.toNat (Go.IntKind.wrap Go.IntKind.i64 ((↑(List.length x2) : Int) + (3 : Int)))) (x0 ++ x1)), List.drop (Int.toNat (Go.IntKind.wrap Go.IntKind.i64 ((↑(List.length x2) : Int) + (3 : Int)))) (x0 ++ x1), (↑(List.length x2) : Int))))) .bad) .bad) .bad))))
noncomputable def M_comptoirhelp_Kept_byte (x0 : List AV) (x1 : List AV) (x2 : List AV) (x3 : Int) : List AV × List AV × Int → Tr ((List AV × List AV × Int) ⊕ (Bool))
  | (l0, l1, i0) => (.c (Decidable.decide (i0 < (↑(List.length l0) : Int))) (.c (Decidable.decide ((0 : Int) ≤ i0)) (.c (Decidable.decide (i0 < (↑(List.length l0) : Int))) (.c (Go.Cx.getI (List.getD l0 (Int.toNat i0) (Go.Cx.AV.int Go.IntKind.u8 (0 : Int))) != x3) (.r (.inr (Bool.false))) (.r (.inl ((l0, l1, Go.IntKind.wrap Go.IntKind.i64 (i0 + (1 : Int))))))) .bad) .bad) (.r (.inr (Bool.true))))
noncomputable def g_comptoirhelp_Kept_byte (x0 : List AV) (x1 : List AV) (x2 : List AV) (x3 : Int) : Option (Bool) := run (M_comptoirhelp_Kept_byte x0 x1 x2 x3) (T_comptoirhelp_Kept_byte x0 x1 x2 x3)
noncomputable def b_comptoirhelp_Kept_byte := Try.f22.body.getD .skip
noncomputable def st_comptoirhelp_Kept_byte_0 (x0 : List AV) (x1 : List AV) (x2 : List AV) (x3 : Int) (l0 : List AV) (l1 : List AV) (i0 : Int) : St := ⟨frOf 0 40 [(2, Go.Cx.AV.int Go.IntKind.u8 x3), (7, Go.Cx.AV.fslice (1 : Nat) (Go.Cx.Sh.int Go.IntKind.u8) l0 l1), (8, Go.Cx.AV.int Go.IntKind.i64 i0)], []⟩
noncomputable def L_comptoirhelp_Kept_byte (x0 : List AV) (x1 : List AV) (x2 : List AV) (x3 : Int) (Rv : Bool → Prop) : List AV × List AV × Int → Prop
  | (l0, l1, i0) => headL E_comptoirhelp_Kept_byte [.r, .r, .r, .l, .r, .d] b_comptoirhelp_Kept_byte 0 (bodyK E_comptoirhelp_Kept_byte Try.f22 (outP O_comptoirhelp_Kept_byte fun ls => Rv (tup_comptoirhelp_Kept_byte ls))) (st_comptoirhelp_Kept_byte_0 x0 x1 x2 x3 l0 l1 i0)
set_option maxRecDepth 100000 in
theorem l_comptoirhelp_Kept_byte_0 (x0 : List AV) (x1 : List AV) (x2 : List AV) (x3 : Int) (Rv : Bool → Prop) (l0 : List AV) (l1 : List AV) (i0 : Int) : stepL E_comptoirhelp_Kept_byte [.r, .r, .r, .l, .r, .d] b_comptoirhelp_Kept_byte 0 (bodyK E_comptoirhelp_Kept_byte Try.f22 (outP O_comptoirhelp_Kept_byte fun ls => Rv (tup_comptoirhelp_Kept_byte ls))) (st_comptoirhelp_Kept_byte_0 x0 x1 x2 x3 l0 l1 i0) =
  (M_comptoirhelp_Kept_byte x0 x1 x2 x3 ((l0, l1, i0))).fold False (Sum.elim (L_comptoirhelp_Kept_byte x0 x1 x2 x3 Rv) Rv) := by kernel_rfl
set_option maxRecDepth 100000 in
theorem e_comptoirhelp_Kept_byte_0 (x0 : List AV) (x1 : List AV) (x2 : List AV) (x3 : Int) (Rv : Bool → Prop) (l0 : List AV) (l1 : List AV) (i0 : Int) : L_comptoirhelp_Kept_byte x0 x1 x2 x3 Rv ((l0, l1, i0)) = headL E_comptoirhelp_Kept_byte [.r, .r, .r, .l, .r, .d] b_comptoirhelp_Kept_byte 0 (bodyK E_comptoirhelp_Kept_byte Try.f22 (outP O_comptoirhelp_Kept_byte fun ls => Rv (tup_comptoirhelp_Kept_byte ls))) (st_comptoirhelp_Kept_byte_0 x0 x1 x2 x3 l0 l1 i0) := by kernel_rfl
section
attribute [local irreducible] Tr.fold M_comptoirhelp_Kept_byte L_comptoirhelp_Kept_byte T_comptoirhelp_Kept_byte E_comptoirhelp_Kept_byte b_comptoirhelp_Kept_byte bodyK headC headL stepC stepL wpX callA
set_option maxRecDepth 100000 in
theorem h_comptoirhelp_Kept_byte (x0 : List AV) (x1 : List AV) (x2 : List AV) (x3 : Int) (Rv : Bool → Prop) : ∀ s, (M_comptoirhelp_Kept_byte x0 x1 x2 x3 s).fold False (Sum.elim (L_comptoirhelp_Kept_byte x0 x1 x2 x3 Rv) Rv) → L_comptoirhelp_Kept_byte x0 x1 x2 x3 Rv s := by
  rintro (⟨v0, v1, v2⟩)
  · exact fun h => Eq.mpr (e_comptoirhelp_Kept_byte_0 x0 x1 x2 x3 Rv v0 v1 v2) (headL_of (Eq.mpr (l_comptoirhelp_Kept_byte_0 x0 x1 x2 x3 Rv v0 v1 v2) h))
set_option maxRecDepth 100000 in
theorem c_comptoirhelp_Kept_byte (ls : List AV) (Rv : Bool → Prop) : callA E_comptoirhelp_Kept_byte Try.f22 (instL ls P_comptoirhelp_Kept_byte 0) [] (outP O_comptoirhelp_Kept_byte fun ls => Rv (tup_comptoirhelp_Kept_byte ls)) = (T_comptoirhelp_Kept_byte (getXs (ls.getD 0 .junk)) (getXs (ls.getD 1 .junk)) (getXs (ls.getD 2 .junk)) (getI (ls.getD 3 .junk))).fold False (Sum.elim (L_comptoirhelp_Kept_byte (getXs (ls.getD 0 .junk)) (getXs (ls.getD 1 .junk)) (getXs (ls.getD 2 .junk)) (getI (ls.getD 3 .junk)) Rv) Rv) := by kernel_rfl
end
noncomputable def S_comptoirhelp_Kept_byte : Go.Cx.Spec := pureS (patF P_comptoirhelp_Kept_byte fun ls => opt (g_comptoirhelp_Kept_byte (getXs (ls.getD 0 .junk)) (getXs (ls.getD 1 .junk)) (getXs (ls.getD 2 .junk)) (getI (ls.getD 3 .junk))) fun x => .r (res_comptoirhelp_Kept_byte x))
set_option maxRecDepth 100000 in
theorem S_comptoirhelp_Kept_byte_ok : Sound Try.prog 22 S_comptoirhelp_Kept_byte :=
  pure_mach (E := E_comptoirhelp_Kept_byte) (TblOK.enK TYbG625t_ok _ _ _ _ _) mixed rfl Try.func22 (c := Try.f22.body.getD .skip) (by kernel_rfl) (by kernel_rfl) (pats := P_comptoirhelp_Kept_byte) (O := O_comptoirhelp_Kept_byte) (tup := tup_comptoirhelp_Kept_byte) (res := res_comptoirhelp_Kept_byte) (g := fun ls => g_comptoirhelp_Kept_byte (getXs (ls.getD 0 .junk)) (getXs (ls.getD 1 .junk)) (getXs (ls.getD 2 .junk)) (getI (ls.getD 3 .junk))) (T := fun ls => T_comptoirhelp_Kept_byte (getXs (ls.getD 0 .junk)) (getXs (ls.getD 1 .junk)) (getXs (ls.getD 2 .junk)) (getI (ls.getD 3 .junk))) (step := fun ls => M_comptoirhelp_Kept_byte (getXs (ls.getD 0 .junk)) (getXs (ls.getD 1 .junk)) (getXs (ls.getD 2 .junk)) (getI (ls.getD 3 .junk))) (L := fun ls => L_comptoirhelp_Kept_byte (getXs (ls.getD 0 .junk)) (getXs (ls.getD 1 .junk)) (getXs (ls.getD 2 .junk)) (getI (ls.getD 3 .junk))) (fun _ => rfl) (fun ls => by kernel_rfl) c_comptoirhelp_Kept_byte (fun ls Rv => h_comptoirhelp_Kept_byte (getXs (ls.getD 0 .junk)) (getXs (ls.getD 1 .junk)) (getXs (ls.getD 2 .junk)) (getI (ls.getD 3 .junk)) Rv)

noncomputable def TYbG626t : FuncId → Option Go.Cx.Spec := addT TYbG625t 22 S_comptoirhelp_Kept_byte
theorem TYbG626t_ok : TblOK Try.prog TYbG626t := TYbG625t_ok.add S_comptoirhelp_Kept_byte_ok

/- comptoir/comptoirlaw06.LinkPlays -/
noncomputable def E_comptoirlaw06_LinkPlays : En := enK Try.prog TYbG626t [] [(3, ⟨[2, 3, 4, 7, 8, 9, 10, 11, 12, 13, 14, 15, 16, 17, 18, 19, 20, 21, 22, 23, 24, 25, 26, 27, 28, 29, 31, 32, 33, 34, 35, 36, 37, 38, 39, 40, 41, 42, 43, 44, 45, 46, 47, 48, 49, 50, 51, 52, 53, 54, 55, 56, 57, 58, 59, 60, 61, 62, 63, 64, 65, 66, 67, 68, 69, 70, 71, 72, 73, 74, 75, 76, 77, 78, 79, 80, 81, 82, 83, 84, 85, 86, 87, 88, 89, 90, 91, 92, 93, 94, 95, 96, 97, 98, 99, 100, 101, 102, 103, 104, 105, 106, 107, 108], [], [], some 1000, [], []⟩), (7, ⟨[1, 2, 3, 4, 7, 8, 9, 10, 11, 12, 13, 14, 15, 16, 17, 18, 19, 20, 21, 22, 23, 24, 25, 26, 27, 28, 29, 30, 31, 32, 33, 34, 35, 36, 37, 38, 39, 40, 41, 42, 43, 44, 45, 46, 47, 48, 49, 50, 51, 52, 53, 55, 56, 57, 58, 59, 60, 61, 62, 63, 64, 65, 66, 67, 68, 69, 70, 71, 72, 73, 74, 75, 76, 77, 78, 79, 80, 81, 82, 83, 84, 85, 86, 87, 88, 89, 90, 91, 92, 93, 94, 95, 96, 97, 98, 99, 100, 101, 102, 103, 104, 105, 106, 107, 108], [], [], some 1000, [], []⟩), (9, ⟨[1, 2, 3, 4, 7, 8, 9, 10, 12, 13, 14, 15, 16, 17, 18, 19, 20, 21, 22, 23, 24, 25, 26, 27, 28, 29, 30, 31, 32, 33, 34, 35, 36, 37, 38, 39, 40, 41, 42, 43, 44, 45, 46, 47, 48, 49, 50, 51, 52, 53, 54, 55, 56, 57, 58, 59, 60, 61, 62, 63, 64, 65, 66, 67, 68, 69, 70, 71, 72, 73, 74, 75, 76, 77, 78, 79, 80, 81, 82, 83, 84, 85, 86, 87, 88, 89, 90, 91, 92, 93, 94, 95, 96, 97, 98, 99, 100, 101, 102, 103, 104, 105, 106, 107, 108], [], [(1, 0, (.slice 1 (.int .u8)))], none, [], []⟩), (11, ⟨[1, 2, 3, 4, 7, 8, 9, 10, 12, 13, 14, 15, 16, 17, 18, 19, 20, 21, 22, 23, 24, 25, 26, 27, 28, 29, 30, 31, 32, 33, 34, 35, 36, 37, 38, 39, 40, 41, 42, 43, 44, 45, 46, 47, 48, 49, 50, 51, 52, 53, 54, 55, 56, 57, 58, 59, 60, 61, 62, 63, 64, 65, 66, 67, 68, 69, 70, 71, 72, 73, 74, 75, 76, 77, 78, 79, 80, 81, 82, 83, 84, 85, 86, 87, 88, 89, 90, 91, 92, 93, 94, 95, 96, 97, 98, 99, 100, 101, 102, 103, 104, 105, 106, 107, 108], [], [], some 1000, [], []⟩), (17, ⟨[1, 2, 3, 4, 7, 8, 9, 10, 12, 13, 14, 15, 16, 17, 18, 19, 20, 21, 22, 23, 24, 25, 26, 27, 28, 29, 30, 31, 32, 33, 34, 35, 36, 37, 38, 39, 40, 41, 42, 43, 44, 45, 46, 47, 48, 49, 50, 51, 52, 53, 54, 55, 56, 57, 58, 59, 60, 61, 62, 63, 64, 65, 66, 67, 68, 69, 70, 71, 72, 73, 74, 75, 76, 77, 78, 79, 80, 81, 82, 83, 84, 85, 86, 87, 88, 89, 90, 91, 92, 93, 94, 95, 96, 97, 98, 99, 100, 101, 102, 103, 104, 105, 106, 107], [], [], some 1000, [], []⟩)] [] [] 0
def P_comptoirlaw06_LinkPlays : List Pat := [.leaf (.slice 1 (.slice 1 (.int .u8))), .leaf (.slice 1 (.int .u8))]
def O_comptoirlaw06_LinkPlays : Pat := .leaf .bool
def tup_comptoirlaw06_LinkPlays : List AV → Bool := fun ls => getB (ls.getD 0 .junk)
def res_comptoirlaw06_LinkPlays : Bool → AV := fun x => .bool (x)
noncomputable def T_comptoirlaw06_LinkPlays (x0 : List AV) (x1 : List AV) : Tr (((Bool) ⊕ (Bool) ⊕ (Int × List AV × Bool × List AV × Bool) ⊕ (Int × List AV × Bool × List AV × Bool) ⊕ (List AV × Bool × List AV × Bool × Bool × Int)) ⊕ (Bool)) := (opt (Go.Proofs.Ytaejmfmamhdlhaa.g_comptoirlaw06_awake) fun (y0 : Bool) => (.c (!y0) (.r (.inl (.inl (Bool.true)))) (.r (.inl (.inl (Decidable.decide ((↑(List.length x1) : Int) > (5000 : Int))))))))
noncomputable def M_comptoirlaw06_LinkPlays (x0 : List AV) (x1 : List AV) : (Bool) ⊕ (Bool) ⊕ (Int × List AV × Bool × List AV × Bool) ⊕ (Int × List AV × Bool × List AV × Bool) ⊕ (List AV × Bool × List AV × Bool × Bool × Int) → Tr (((Bool) ⊕ (Bool) ⊕ (Int × List AV × Bool × List AV × Bool) ⊕ (Int × List AV × Bool × List AV × Bool) ⊕ (List AV × Bool × List AV × Bool × Bool × Int)) ⊕ (Bool))
  | .inl (b0) => (.c (b0) (opt (Go.Proofs.Ytaejmfmamhdlhaa.g_comptoirlaw06_awake) fun (y0 : Bool) => (.c (y0) (.r (.inr (Bool.true))) (.r (.inr (Bool.false))))) (opt (Go.Proofs.Ytaejmfmamhdlhaa.g_link_Frame x1) fun (y0 : List Go.Cx.AV × Int) => (opt (Go.Proofs.Ytaejmfmamhdlhaa.g_comptoirref01_Framed x1) fun (y1 : List Go.Cx.AV × Int) => (.c (!Go.Cx.bytesOf (Prod.fst y0) == Go.Cx.bytesOf (Prod.fst y1)) (.r (.inl (.inr (.inl (Bool.true))))) (.r (.inl (.inr (.inl (Prod.snd y0 != Prod.snd y1)))))))))
  | .inr (.inl (b1)) => (.c (b1) (.r (.inr (Bool.false))) (.r (.inl (.inr (.inr (.inl (((0 : Int), [], Bool.false, [], Bool.false))))))))
  | .inr (.inr (.inl ((i0, l2, b5, l3, b6)))) => (.c (Decidable.decide (i0 < (↑(List.length x0) : Int))) (.c (Decidable.decide (i0 < (40 : Int))) (.r (.inl (.inr (.inr (.inr (.inl ((i0, l2, b5, l3, b6)))))))) (.r (.inr (Bool.true)))) (.r (.inr (Bool.true))))
  | .inr (.inr (.inr (.inl ((i1, l4, b7, l5, b8))))) => (.c (Decidable.decide ((0 : Int) ≤ i1)) (.c (Decidable.decide (i1 < (↑(List.length x0) : Int))) (.c (Decidable.decide ((↑(List.length (Go.Cx.getXs (List.getD x0 (Int.toNat i1) (Go.Cx.AV.slice (1 : Nat) (Go.Cx.Sh.int Go.IntKind.u8) [] Go.Cx.SK.ro)))) : Int) > (5000 : Int))) (.r (.inr (Bool.true))) (.c (Decidable.decide ((0 : Int) ≤ i1)) (.c (Decidable.decide (i1 < (↑(List.length x0) : Int))) (.c (Decidable.decide (List.length (Go.Cx.getXs (List.getD x0 (Int.toNat i1) (Go.Cx.AV.slice (1 : Nat) (Go.Cx.Sh.int Go.IntKind.u8) [] Go.Cx.SK.ro))) * (4 : Nat) < (70368744177600 : Nat))) (opt (Go.Proofs.Ytaejmfmamhdlhaa.g_link_Link_Feed_p0500 (Go.Cx.getXs (List.getD x0 (Int.toNat i1) (Go.Cx.AV.slice (1 : Nat) (Go.Cx.Sh.int Go.IntKind.u8) [] Go.Cx.SK.ro))) l4 b7) fun (y0 : List Go.Cx.AV × Int × List Go.Cx.AV × Bool) => (.c (Decidable.decide ((0 : Int) ≤ i1)) (.c (Decidable.decide (i1 < (↑(List.length x0) : Int))) (opt (Go.Proofs.Ytaejmfmamhdlhaa.g_comptoirref01_Link_Feed_p0500 (Go.Cx.getXs (List.getD x0 (Int.toNat i1) (Go.Cx.AV.slice (1 : Nat) (Go.Cx.Sh.int Go.IntKind.u8) [] Go.Cx.SK.ro))) l5 b8) fun (y1 : List Go.Cx.AV × Int × List Go.Cx.AV × Bool) => (opt (Go.Proofs.Ytaejmfmamhdlhaa.g_comptoirhelp_Same_byte_00fBytes_ (Prod.fst y0) (Prod.fst y1)) fun (y2 : Bool) => (.c (!y2) (.r (.inl (.inr (.inr (.inr (.inr ((Prod.fst (Prod.snd (Prod.snd y0)), Prod.snd (Prod.snd (Prod.snd y0)), Prod.fst (Prod.snd (Prod.snd y1)), Prod.snd (Prod.snd (Prod.snd y1)), Bool.true, i1)))))))) (.c (Prod.fst (Prod.snd y0) != Prod.fst (Prod.snd y1)) (.r (.inl (.inr (.inr (.inr (.inr ((Prod.fst (Prod.snd (Prod.snd y0)), Prod.snd (Prod.snd (Prod.snd y0)), Prod.fst (Prod.snd (Prod.snd y1)), Prod.snd (Prod.snd (Prod.snd y1)), Bool.true, i1)))))))) (.c (Decidable.decide ((0 : Int) ≤ i1)) (.c (Decidable.decide (i1 < (↑(List.length x0) : Int))) (opt (Go.Proofs.Ytaejmfmamhdlhaa.g_comptoirhelp_Kept_byte (Go.Cx.getXs (List.getD x0 (Int.toNat i1) (Go.Cx.AV.slice (1 : Nat) (Go.Cx.Sh.int Go.IntKind.u8) [] Go.Cx.SK.ro))) [Go.Cx.AV.int Go.IntKind.u8 (71 : Int), Go.Cx.AV.int Go.IntKind.u8 (71 : Int), Go.Cx.AV.int Go.IntKind.u8 (71 : Int)] (Go.Cx.getXs (List.getD x0 (Int.toNat i1) (Go.Cx.AV.slice (1 : Nat) (Go.Cx.Sh.int Go.IntKind.u8) [] Go.Cx.SK.ro))) (71 : Int)) fun (y3 : Bool) => (.r (.inl (.inr (.inr (.inr (.inr ((Prod.fst (Prod.snd (Prod.snd y0)), Prod.snd (Prod.snd (Prod.snd y0)), Prod.fst (Prod.snd (Prod.snd y1)), Prod.snd (Prod.snd (Prod.snd y1)), !y3, i1))))))))) .bad) .bad))))) .bad) .bad)) .bad) .bad) .bad)) .bad) .bad)
  | .inr (.inr (.inr (.inr ((l0, b2, l1, b3, b4, i2))))) => (.c (b4) (.r (.inr (Bool.false))) (.r (.inl (.inr (.inr (.inl ((Go.IntKind.wrap Go.IntKind.i64 (i2 + (1 : Int)), l0, b2, l1, b3))))))))
noncomputable def g_comptoirlaw06_LinkPlays (x0 : List AV) (x1 : List AV) : Option (Bool) := run (M_comptoirlaw06_LinkPlays x0 x1) (T_comptoirlaw06_LinkPlays x0 x1)
noncomputable def b_comptoirlaw06_LinkPlays := Try.f6.body.getD .skip
noncomputable def st_comptoirlaw06_LinkPlays_0 (x0 : List AV) (x1 : List AV) (b0 : Bool) : St := ⟨frOf 0 109 [(0, Go.Cx.AV.slice (1 : Nat) (Go.Cx.Sh.slice (1 : Nat) (Go.Cx.Sh.int Go.IntKind.u8)) x0 Go.Cx.SK.ro), (1, Go.Cx.AV.slice (1 : Nat) (Go.Cx.Sh.int Go.IntKind.u8) x1 Go.Cx.SK.ro), (5, Go.Cx.AV.ptr (0 : Nat) (0 : Nat)), (6, Go.Cx.AV.ptr (1 : Nat) (0 : Nat)), (30, Go.Cx.AV.bool b0)], [Go.Cx.Ob.fix (68 : Nat) [Go.Cx.AV.slice (1 : Nat) (Go.Cx.Sh.int Go.IntKind.u8) [] Go.Cx.SK.ro, Go.Cx.AV.bool Bool.false], Go.Cx.Ob.fix (41 : Nat) [Go.Cx.AV.nilsl, Go.Cx.AV.bool Bool.false]]⟩
noncomputable def st_comptoirlaw06_LinkPlays_1 (x0 : List AV) (x1 : List AV) (b1 : Bool) : St := ⟨frOf 0 109 [(0, Go.Cx.AV.slice (1 : Nat) (Go.Cx.Sh.slice (1 : Nat) (Go.Cx.Sh.int Go.IntKind.u8)) x0 Go.Cx.SK.ro), (5, Go.Cx.AV.ptr (0 : Nat) (0 : Nat)), (6, Go.Cx.AV.ptr (1 : Nat) (0 : Nat)), (54, Go.Cx.AV.bool b1)], [Go.Cx.Ob.fix (68 : Nat) [Go.Cx.AV.slice (1 : Nat) (Go.Cx.Sh.int Go.IntKind.u8) [] Go.Cx.SK.ro, Go.Cx.AV.bool Bool.false], Go.Cx.Ob.fix (41 : Nat) [Go.Cx.AV.nilsl, Go.Cx.AV.bool Bool.false]]⟩
noncomputable def st_comptoirlaw06_LinkPlays_2 (x0 : List AV) (x1 : List AV) (i0 : Int) (l2 : List AV) (b5 : Bool) (l3 : List AV) (b6 : Bool) : St := ⟨frOf 0 109 [(0, Go.Cx.AV.slice (1 : Nat) (Go.Cx.Sh.slice (1 : Nat) (Go.Cx.Sh.int Go.IntKind.u8)) x0 Go.Cx.SK.ro), (5, Go.Cx.AV.ptr (0 : Nat) (0 : Nat)), (6, Go.Cx.AV.ptr (1 : Nat) (0 : Nat)), (11, Go.Cx.AV.int Go.IntKind.i64 i0)], [Go.Cx.Ob.fix (68 : Nat) [Go.Cx.AV.slice (1 : Nat) (Go.Cx.Sh.int Go.IntKind.u8) l2 Go.Cx.SK.ro, Go.Cx.AV.bool b5], Go.Cx.Ob.fix (41 : Nat) [Go.Cx.AV.slice (1 : Nat) (Go.Cx.Sh.int Go.IntKind.u8) l3 Go.Cx.SK.ro, Go.Cx.AV.bool b6]]⟩
noncomputable def st_comptoirlaw06_LinkPlays_3 (x0 : List AV) (x1 : List AV) (i1 : Int) (l4 : List AV) (b7 : Bool) (l5 : List AV) (b8 : Bool) : St := ⟨frOf 0 109 [(0, Go.Cx.AV.slice (1 : Nat) (Go.Cx.Sh.slice (1 : Nat) (Go.Cx.Sh.int Go.IntKind.u8)) x0 Go.Cx.SK.ro), (5, Go.Cx.AV.ptr (0 : Nat) (0 : Nat)), (6, Go.Cx.AV.ptr (1 : Nat) (0 : Nat)), (11, Go.Cx.AV.int Go.IntKind.i64 i1)], [Go.Cx.Ob.fix (68 : Nat) [Go.Cx.AV.slice (1 : Nat) (Go.Cx.Sh.int Go.IntKind.u8) l4 Go.Cx.SK.ro, Go.Cx.AV.bool b7], Go.Cx.Ob.fix (41 : Nat) [Go.Cx.AV.slice (1 : Nat) (Go.Cx.Sh.int Go.IntKind.u8) l5 Go.Cx.SK.ro, Go.Cx.AV.bool b8]]⟩
noncomputable def st_comptoirlaw06_LinkPlays_4 (x0 : List AV) (x1 : List AV) (l0 : List AV) (b2 : Bool) (l1 : List AV) (b3 : Bool) (b4 : Bool) (i2 : Int) : St := ⟨frOf 0 109 [(0, Go.Cx.AV.slice (1 : Nat) (Go.Cx.Sh.slice (1 : Nat) (Go.Cx.Sh.int Go.IntKind.u8)) x0 Go.Cx.SK.ro), (5, Go.Cx.AV.ptr (0 : Nat) (0 : Nat)), (6, Go.Cx.AV.ptr (1 : Nat) (0 : Nat)), (11, Go.Cx.AV.int Go.IntKind.i64 i2), (108, Go.Cx.AV.bool b4)], [Go.Cx.Ob.fix (68 : Nat) [Go.Cx.AV.slice (1 : Nat) (Go.Cx.Sh.int Go.IntKind.u8) l0 Go.Cx.SK.ro, Go.Cx.AV.bool b2], Go.Cx.Ob.fix (41 : Nat) [Go.Cx.AV.slice (1 : Nat) (Go.Cx.Sh.int Go.IntKind.u8) l1 Go.Cx.SK.ro, Go.Cx.AV.bool b3]]⟩
noncomputable def L_comptoirlaw06_LinkPlays (x0 : List AV) (x1 : List AV) (Rv : Bool → Prop) : (Bool) ⊕ (Bool) ⊕ (Int × List AV × Bool × List AV × Bool) ⊕ (Int × List AV × Bool × List AV × Bool) ⊕ (List AV × Bool × List AV × Bool × Bool × Int) → Prop
  | .inl (b0) => headC E_comptoirlaw06_LinkPlays [.r, .r, .l, .r] b_comptoirlaw06_LinkPlays (bodyK E_comptoirlaw06_LinkPlays Try.f6 (outP O_comptoirlaw06_LinkPlays fun ls => Rv (tup_comptoirlaw06_LinkPlays ls))) (st_comptoirlaw06_LinkPlays_0 x0 x1 b0)
  | .inr (.inl (b1)) => headC E_comptoirlaw06_LinkPlays [.r, .r, .r, .r, .r, .l, .r] b_comptoirlaw06_LinkPlays (bodyK E_comptoirlaw06_LinkPlays Try.f6 (outP O_comptoirlaw06_LinkPlays fun ls => Rv (tup_comptoirlaw06_LinkPlays ls))) (st_comptoirlaw06_LinkPlays_1 x0 x1 b1)
  | .inr (.inr (.inl ((i0, l2, b5, l3, b6)))) => headL E_comptoirlaw06_LinkPlays [.r, .r, .r, .r, .r, .r, .l, .r, .d] b_comptoirlaw06_LinkPlays 2 (bodyK E_comptoirlaw06_LinkPlays Try.f6 (outP O_comptoirlaw06_LinkPlays fun ls => Rv (tup_comptoirlaw06_LinkPlays ls))) (st_comptoirlaw06_LinkPlays_2 x0 x1 i0 l2 b5 l3 b6)
  | .inr (.inr (.inr (.inl ((i1, l4, b7, l5, b8))))) => headC E_comptoirlaw06_LinkPlays [.r, .r, .r, .r, .r, .r, .l, .r, .d, .o 2, .r] b_comptoirlaw06_LinkPlays (bodyK E_comptoirlaw06_LinkPlays Try.f6 (outP O_comptoirlaw06_LinkPlays fun ls => Rv (tup_comptoirlaw06_LinkPlays ls))) (st_comptoirlaw06_LinkPlays_3 x0 x1 i1 l4 b7 l5 b8)
  | .inr (.inr (.inr (.inr ((l0, b2, l1, b3, b4, i2))))) => headC E_comptoirlaw06_LinkPlays [.r, .r, .r, .r, .r, .r, .l, .r, .d, .o 2, .r, .l, .d, .r, .r, .r, .r, .r] b_comptoirlaw06_LinkPlays (bodyK E_comptoirlaw06_LinkPlays Try.f6 (outP O_comptoirlaw06_LinkPlays fun ls => Rv (tup_comptoirlaw06_LinkPlays ls))) (st_comptoirlaw06_LinkPlays_4 x0 x1 l0 b2 l1 b3 b4 i2)
set_option maxRecDepth 100000 in
theorem l_comptoirlaw06_LinkPlays_0 (x0 : List AV) (x1 : List AV) (Rv : Bool → Prop) (b0 : Bool) : stepC E_comptoirlaw06_LinkPlays [.r, .r, .l, .r] b_comptoirlaw06_LinkPlays (bodyK E_comptoirlaw06_LinkPlays Try.f6 (outP O_comptoirlaw06_LinkPlays fun ls => Rv (tup_comptoirlaw06_LinkPlays ls))) (st_comptoirlaw06_LinkPlays_0 x0 x1 b0) =
  (M_comptoirlaw06_LinkPlays x0 x1 (.inl (b0))).fold False (Sum.elim (L_comptoirlaw06_LinkPlays x0 x1 Rv) Rv) := by kernel_rfl
set_option maxRecDepth 100000 in
theorem l_comptoirlaw06_LinkPlays_1 (x0 : List AV) (x1 : List AV) (Rv : Bool → Prop) (b1 : Bool) : stepC E_comptoirlaw06_LinkPlays [.r, .r, .r, .r, .r, .l, .r] b_comptoirlaw06_LinkPlays (bodyK E_comptoirlaw06_LinkPlays Try.f6 (outP O_comptoirlaw06_LinkPlays fun ls => Rv (tup_comptoirlaw06_LinkPlays ls))) (st_comptoirlaw06_LinkPlays_1 x0 x1 b1) =
  (M_comptoirlaw06_LinkPlays x0 x1 (.inr (.inl (b1)))).fold False (Sum.elim (L_comptoirlaw06_LinkPlays x0 x1 Rv) Rv) := by kernel_rfl
set_option maxRecDepth 100000 in
theorem l_comptoirlaw06_LinkPlays_2 (x0 : List AV) (x1 : List AV) (Rv : Bool → Prop) (i0 : Int) (l2 : List AV) (b5 : Bool) (l3 : List AV) (b6 : Bool) : stepL E_comptoirlaw06_LinkPlays [.r, .r, .r, .r, .r, .r, .l, .r, .d] b_comptoirlaw06_LinkPlays 2 (bodyK E_comptoirlaw06_LinkPlays Try.f6 (outP O_comptoirlaw06_LinkPlays fun ls => Rv (tup_comptoirlaw06_LinkPlays ls))) (st_comptoirlaw06_LinkPlays_2 x0 x1 i0 l2 b5 l3 b6) =
  (M_comptoirlaw06_LinkPlays x0 x1 (.inr (.inr (.inl ((i0, l2, b5, l3, b6)))))).fold False (Sum.elim (L_comptoirlaw06_LinkPlays x0 x1 Rv) Rv) := by kernel_rfl
set_option maxRecDepth 100000 in
theorem l_comptoirlaw06_LinkPlays_3 (x0 : List AV) (x1 : List AV) (Rv : Bool → Prop) (i1 : Int) (l4 : List AV) (b7 : Bool) (l5 : List AV) (b8 : Bool) : stepC E_comptoirlaw06_LinkPlays [.r, .r, .r, .r, .r, .r, .l, .r, .d, .o 2, .r] b_comptoirlaw06_LinkPlays (bodyK E_comptoirlaw06_LinkPlays Try.f6 (outP O_comptoirlaw06_LinkPlays fun ls => Rv (tup_comptoirlaw06_LinkPlays ls))) (st_comptoirlaw06_LinkPlays_3 x0 x1 i1 l4 b7 l5 b8) =
  (M_comptoirlaw06_LinkPlays x0 x1 (.inr (.inr (.inr (.inl ((i1, l4, b7, l5, b8))))))).fold False (Sum.elim (L_comptoirlaw06_LinkPlays x0 x1 Rv) Rv) := by kernel_rfl
set_option maxRecDepth 100000 in
theorem l_comptoirlaw06_LinkPlays_4 (x0 : List AV) (x1 : List AV) (Rv : Bool → Prop) (l0 : List AV) (b2 : Bool) (l1 : List AV) (b3 : Bool) (b4 : Bool) (i2 : Int) : stepC E_comptoirlaw06_LinkPlays [.r, .r, .r, .r, .r, .r, .l, .r, .d, .o 2, .r, .l, .d, .r, .r, .r, .r, .r] b_comptoirlaw06_LinkPlays (bodyK E_comptoirlaw06_LinkPlays Try.f6 (outP O_comptoirlaw06_LinkPlays fun ls => Rv (tup_comptoirlaw06_LinkPlays ls))) (st_comptoirlaw06_LinkPlays_4 x0 x1 l0 b2 l1 b3 b4 i2) =
  (M_comptoirlaw06_LinkPlays x0 x1 (.inr (.inr (.inr (.inr ((l0, b2, l1, b3, b4, i2))))))).fold False (Sum.elim (L_comptoirlaw06_LinkPlays x0 x1 Rv) Rv) := by kernel_rfl
set_option maxRecDepth 100000 in
theorem e_comptoirlaw06_LinkPlays_0 (x0 : List AV) (x1 : List AV) (Rv : Bool → Prop) (b0 : Bool) : L_comptoirlaw06_LinkPlays x0 x1 Rv (.inl (b0)) = headC E_comptoirlaw06_LinkPlays [.r, .r, .l, .r] b_comptoirlaw06_LinkPlays (bodyK E_comptoirlaw06_LinkPlays Try.f6 (outP O_comptoirlaw06_LinkPlays fun ls => Rv (tup_comptoirlaw06_LinkPlays ls))) (st_comptoirlaw06_LinkPlays_0 x0 x1 b0) := by kernel_rfl
set_option maxRecDepth 100000 in
theorem e_comptoirlaw06_LinkPlays_1 (x0 : List AV) (x1 : List AV) (Rv : Bool → Prop) (b1 : Bool) : L_comptoirlaw06_LinkPlays x0 x1 Rv (.inr (.inl (b1))) = headC E_comptoirlaw06_LinkPlays [.r, .r, .r, .r, .r, .l, .r] b_comptoirlaw06_LinkPlays (bodyK E_comptoirlaw06_LinkPlays Try.f6 (outP O_comptoirlaw06_LinkPlays fun ls => Rv (tup_comptoirlaw06_LinkPlays ls))) (st_comptoirlaw06_LinkPlays_1 x0 x1 b1) := by kernel_rfl
set_option maxRecDepth 100000 in
theorem e_comptoirlaw06_LinkPlays_2 (x0 : List AV) (x1 : List AV) (Rv : Bool → Prop) (i0 : Int) (l2 : List AV) (b5 : Bool) (l3 : List AV) (b6 : Bool) : L_comptoirlaw06_LinkPlays x0 x1 Rv (.inr (.inr (.inl ((i0, l2, b5, l3, b6))))) = headL E_comptoirlaw06_LinkPlays [.r, .r, .r, .r, .r, .r, .l, .r, .d] b_comptoirlaw06_LinkPlays 2 (bodyK E_comptoirlaw06_LinkPlays Try.f6 (outP O_comptoirlaw06_LinkPlays fun ls => Rv (tup_comptoirlaw06_LinkPlays ls))) (st_comptoirlaw06_LinkPlays_2 x0 x1 i0 l2 b5 l3 b6) := by kernel_rfl
set_option maxRecDepth 100000 in
theorem e_comptoirlaw06_LinkPlays_3 (x0 : List AV) (x1 : List AV) (Rv : Bool → Prop) (i1 : Int) (l4 : List AV) (b7 : Bool) (l5 : List AV) (b8 : Bool) : L_comptoirlaw06_LinkPlays x0 x1 Rv (.inr (.inr (.inr (.inl ((i1, l4, b7, l5, b8)))))) = headC E_comptoirlaw06_LinkPlays [.r, .r, .r, .r, .r, .r, .l, .r, .d, .o 2, .r] b_comptoirlaw06_LinkPlays (bodyK E_comptoirlaw06_LinkPlays Try.f6 (outP O_comptoirlaw06_LinkPlays fun ls => Rv (tup_comptoirlaw06_LinkPlays ls))) (st_comptoirlaw06_LinkPlays_3 x0 x1 i1 l4 b7 l5 b8) := by kernel_rfl
set_option maxRecDepth 100000 in
theorem e_comptoirlaw06_LinkPlays_4 (x0 : List AV) (x1 : List AV) (Rv : Bool → Prop) (l0 : List AV) (b2 : Bool) (l1 : List AV) (b3 : Bool) (b4 : Bool) (i2 : Int) : L_comptoirlaw06_LinkPlays x0 x1 Rv (.inr (.inr (.inr (.inr ((l0, b2, l1, b3, b4, i2)))))) = headC E_comptoirlaw06_LinkPlays [.r, .r, .r, .r, .r, .r, .l, .r, .d, .o 2, .r, .l, .d, .r, .r, .r, .r, .r] b_comptoirlaw06_LinkPlays (bodyK E_comptoirlaw06_LinkPlays Try.f6 (outP O_comptoirlaw06_LinkPlays fun ls => Rv (tup_comptoirlaw06_LinkPlays ls))) (st_comptoirlaw06_LinkPlays_4 x0 x1 l0 b2 l1 b3 b4 i2) := by kernel_rfl
section
attribute [local irreducible] Tr.fold M_comptoirlaw06_LinkPlays L_comptoirlaw06_LinkPlays T_comptoirlaw06_LinkPlays E_comptoirlaw06_LinkPlays b_comptoirlaw06_LinkPlays bodyK headC headL stepC stepL wpX callA
set_option maxRecDepth 100000 in
theorem h_comptoirlaw06_LinkPlays (x0 : List AV) (x1 : List AV) (Rv : Bool → Prop) : ∀ s, (M_comptoirlaw06_LinkPlays x0 x1 s).fold False (Sum.elim (L_comptoirlaw06_LinkPlays x0 x1 Rv) Rv) → L_comptoirlaw06_LinkPlays x0 x1 Rv s := by
  rintro (v0 | v0 | ⟨v0, v1, v2, v3, v4⟩ | ⟨v0, v1, v2, v3, v4⟩ | ⟨v0, v1, v2, v3, v4, v5⟩)
  · exact fun h => Eq.mpr (e_comptoirlaw06_LinkPlays_0 x0 x1 Rv v0) (headC_of (Eq.mpr (l_comptoirlaw06_LinkPlays_0 x0 x1 Rv v0) h))
  · exact fun h => Eq.mpr (e_comptoirlaw06_LinkPlays_1 x0 x1 Rv v0) (headC_of (Eq.mpr (l_comptoirlaw06_LinkPlays_1 x0 x1 Rv v0) h))
  · exact fun h => Eq.mpr (e_comptoirlaw06_LinkPlays_2 x0 x1 Rv v0 v1 v2 v3 v4) (headL_of (Eq.mpr (l_comptoirlaw06_LinkPlays_2 x0 x1 Rv v0 v1 v2 v3 v4) h))
  · exact fun h => Eq.mpr (e_comptoirlaw06_LinkPlays_3 x0 x1 Rv v0 v1 v2 v3 v4) (headC_of (Eq.mpr (l_comptoirlaw06_LinkPlays_3 x0 x1 Rv v0 v1 v2 v3 v4) h))
  · exact fun h => Eq.mpr (e_comptoirlaw06_LinkPlays_4 x0 x1 Rv v0 v1 v2 v3 v4 v5) (headC_of (Eq.mpr (l_comptoirlaw06_LinkPlays_4 x0 x1 Rv v0 v1 v2 v3 v4 v5) h))
set_option maxRecDepth 100000 in
theorem c_comptoirlaw06_LinkPlays (ls : List AV) (Rv : Bool → Prop) : callA E_comptoirlaw06_LinkPlays Try.f6 (instL ls P_comptoirlaw06_LinkPlays 0) [] (outP O_comptoirlaw06_LinkPlays fun ls => Rv (tup_comptoirlaw06_LinkPlays ls)) = (T_comptoirlaw06_LinkPlays (getXs (ls.getD 0 .junk)) (getXs (ls.getD 1 .junk))).fold False (Sum.elim (L_comptoirlaw06_LinkPlays (getXs (ls.getD 0 .junk)) (getXs (ls.getD 1 .junk)) Rv) Rv) := by kernel_rfl
end
theorem eok_comptoirlaw06_LinkPlays : EnOK E_comptoirlaw06_LinkPlays := TblOK.enK TYbG626t_ok _ _ _ _ _


end Go.Proofs.Ytaejmfmamhdlhaa
