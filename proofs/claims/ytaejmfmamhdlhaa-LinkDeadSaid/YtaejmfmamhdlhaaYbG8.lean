/- Printed: what the functions that a statement reaches come to. -/
import Derived.Test.YtaejmfmamhdlhaaYbB
namespace Go.Proofs.Ytaejmfmamhdlhaa
open Go.Cx Go.Cx.AV
set_option linter.unusedVariables false
/- comptoir/link.New -/
noncomputable def E_link_New : En := enK Try.prog T0t [] [] [] [] 1
def P_link_New : List Pat := []
def Q_link_New : List OPat := []
def O_link_New : Pat := .lit (.ptr 0 0)
def OO_link_New : List OPat := [.fix 68 [.leaf (.slice 1 (.int .u8)), .leaf .bool]]
def tup_link_New : List AV → List AV × Bool := fun ls => (getXs (ls.getD 0 .junk), getB (ls.getD 1 .junk))
def res_link_New : List AV × Bool → AV × List Ob := fun x => (.ptr 0 0, [.fix 68 [.slice 1 (.int .u8) (x.1) .ro, .bool (x.2)]])
noncomputable def T_link_New : Tr (List AV × Bool) := (.r (([], Bool.false)))
noncomputable def g_link_New : Option (List AV × Bool) := (T_link_New).val
set_option maxRecDepth 100000 in
theorem c_link_New (ls : List AV) (Rv : List AV × Bool → Prop) : callA E_link_New Try.f23 (instL ls P_link_New 0) (instH ls Q_link_New 0) (outH O_link_New OO_link_New fun ls => Rv (tup_link_New ls)) = (T_link_New).fold False Rv := by kernel_rfl
noncomputable def S_link_New : Go.Cx.Spec := heapS (patH P_link_New Q_link_New fun ls => opt (g_link_New) fun x => .r (res_link_New x))
set_option maxRecDepth 100000 in
theorem S_link_New_ok : Sound Try.prog 23 S_link_New :=
  heap_flat (E := E_link_New) (TblOK.enK T0t_ok _ _ _ _ _) mixed Try.func23 (c := Try.f23.body.getD .skip) (by kernel_rfl) (by kernel_rfl) (by decide) (pats := P_link_New) (ops := Q_link_New) (OO := OO_link_New) (O := O_link_New) (tup := tup_link_New) (res := res_link_New) (g := fun ls => g_link_New) (T := fun ls => T_link_New) (fun _ => rfl) (fun ls => by kernel_rfl) c_link_New

noncomputable def TYbG81t : FuncId → Option Go.Cx.Spec := addT T0t 23 S_link_New
theorem TYbG81t_ok : TblOK Try.prog TYbG81t := T0t_ok.add S_link_New_ok

/- slices.Grow[[]byte,byte] -/
noncomputable def E_slices_Grow_byte_byte : En := enK Try.prog TYbG81t [25] [(3, ⟨[2, 3, 4, 5, 6, 7, 8, 9, 10, 11, 12, 13, 14, 15, 16, 17, 18, 19, 20, 21, 22, 23, 24, 25, 26], [], [], some 1000, [], []⟩), (6, ⟨[1, 2, 3, 4, 5, 6, 7, 8, 9, 10, 11, 12, 13, 14, 15, 16, 17, 18, 19, 20, 21, 22, 23, 24, 25, 26], [], [], some 1000, [], []⟩)] [(6, [(1000000, 5, (.int .u8))])] [] 1
def P_slices_Grow_byte_byte : List Pat := [.lit .nilsl, .leaf (.int .i64)]
def Q_slices_Grow_byte_byte : List OPat := []
def O_slices_Grow_byte_byte : Pat := .own 0 1 0
def OO_slices_Grow_byte_byte : List OPat := [.grow 5 1 1 (.int .u8)]
def tup_slices_Grow_byte_byte : List AV → List AV := fun ls => getXs (ls.getD 0 .junk)
def res_slices_Grow_byte_byte : List AV → AV × List Ob := fun x => (.oslice 0 1 (List.length (x)), [.grow 5 1 1 (.int .u8) (x)])
noncomputable def T_slices_Grow_byte_byte (x0 : Int) : Tr (((Unit) ⊕ (Unit)) ⊕ (List AV)) := (.c (Decidable.decide (x0 < (0 : Int))) .bad (.r (.inl (.inl (())))))
noncomputable def M_slices_Grow_byte_byte (x0 : Int) : (Unit) ⊕ (Unit) → Tr (((Unit) ⊕ (Unit)) ⊕ (List AV))
  | .inl (()) => (.c (Decidable.decide (Go.IntKind.wrap Go.IntKind.i64 (x0 - (0 : Int)) > (0 : Int))) (.c (Decidable.decide ((0 : Int) < Go.IntKind.wrap Go.IntKind.i64 (x0 - (0 : Int)))) (.c (Decidable.decide (List.length (List.replicate (Int.toNat (Go.IntKind.wrap Go.IntKind.i64 (x0 - (0 : Int)))) (Go.Cx.AV.int Go.IntKind.u8 (0 : Int))) * (2 : Nat) < (70368744177664 : Nat))) (.c (List.length (List.replicate (Int.toNat (Go.IntKind.wrap Go.IntKind.i64 (x0 - (0 : Int)))) (Go.Cx.AV.int Go.IntKind.u8 (0 : Int))) == List.length (List.replicate (Int.toNat (Go.IntKind.wrap Go.IntKind.i64 (x0 - (0 : Int)))) (Go.Cx.AV.int Go.IntKind.u8 (0 : Int)))) (.r (.inl (.inr (())))) .bad) .bad) .bad) (.r (.inl (.inr (())))))
  | .inr (()) => (.c ((0 : Nat) == List.length ([] : List AV)) (.r (.inr ([]))) .bad)
noncomputable def g_slices_Grow_byte_byte (x0 : Int) : Option (List AV) := run (M_slices_Grow_byte_byte x0) (T_slices_Grow_byte_byte x0)
noncomputable def b_slices_Grow_byte_byte := Try.f54.body.getD .skip
noncomputable def st_slices_Grow_byte_byte_0 (x0 : Int) : St := ⟨[Go.Cx.AV.nilsl, Go.Cx.AV.int Go.IntKind.i64 x0, Go.Cx.AV.junk, Go.Cx.AV.junk, Go.Cx.AV.junk, Go.Cx.AV.junk, Go.Cx.AV.junk, Go.Cx.AV.junk, Go.Cx.AV.junk, Go.Cx.AV.junk, Go.Cx.AV.junk, Go.Cx.AV.junk, Go.Cx.AV.junk, Go.Cx.AV.junk, Go.Cx.AV.junk, Go.Cx.AV.junk, Go.Cx.AV.junk, Go.Cx.AV.junk, Go.Cx.AV.junk, Go.Cx.AV.junk, Go.Cx.AV.junk, Go.Cx.AV.junk, Go.Cx.AV.junk, Go.Cx.AV.junk, Go.Cx.AV.junk, Go.Cx.AV.junk, Go.Cx.AV.junk], []⟩
noncomputable def st_slices_Grow_byte_byte_1 (x0 : Int) : St := ⟨[Go.Cx.AV.oslice (0 : Nat) (1 : Nat) (0 : Nat), Go.Cx.AV.junk, Go.Cx.AV.junk, Go.Cx.AV.junk, Go.Cx.AV.junk, Go.Cx.AV.junk, Go.Cx.AV.junk, Go.Cx.AV.junk, Go.Cx.AV.junk, Go.Cx.AV.junk, Go.Cx.AV.junk, Go.Cx.AV.junk, Go.Cx.AV.junk, Go.Cx.AV.junk, Go.Cx.AV.junk, Go.Cx.AV.junk, Go.Cx.AV.junk, Go.Cx.AV.junk, Go.Cx.AV.junk, Go.Cx.AV.junk, Go.Cx.AV.junk, Go.Cx.AV.junk, Go.Cx.AV.junk, Go.Cx.AV.junk, Go.Cx.AV.junk, Go.Cx.AV.junk, Go.Cx.AV.junk], [Go.Cx.Ob.grow (5 : Nat) (1 : Nat) (1 : Nat) (Go.Cx.Sh.int Go.IntKind.u8) []]⟩
noncomputable def L_slices_Grow_byte_byte (x0 : Int) (Rv : List AV → Prop) : (Unit) ⊕ (Unit) → Prop
  | .inl (()) => headC E_slices_Grow_byte_byte [.r, .r] b_slices_Grow_byte_byte (bodyK E_slices_Grow_byte_byte Try.f54 (outH O_slices_Grow_byte_byte OO_slices_Grow_byte_byte fun ls => Rv (tup_slices_Grow_byte_byte ls))) (st_slices_Grow_byte_byte_0 x0)
  | .inr (()) => headC E_slices_Grow_byte_byte [.r, .r, .r] b_slices_Grow_byte_byte (bodyK E_slices_Grow_byte_byte Try.f54 (outH O_slices_Grow_byte_byte OO_slices_Grow_byte_byte fun ls => Rv (tup_slices_Grow_byte_byte ls))) (st_slices_Grow_byte_byte_1 x0)
set_option maxRecDepth 100000 in
theorem l_slices_Grow_byte_byte_0 (x0 : Int) (Rv : List AV → Prop) : stepC E_slices_Grow_byte_byte [.r, .r] b_slices_Grow_byte_byte (bodyK E_slices_Grow_byte_byte Try.f54 (outH O_slices_Grow_byte_byte OO_slices_Grow_byte_byte fun ls => Rv (tup_slices_Grow_byte_byte ls))) (st_slices_Grow_byte_byte_0 x0) =
  (M_slices_Grow_byte_byte x0 (.inl (()))).fold False (Sum.elim (L_slices_Grow_byte_byte x0 Rv) Rv) := by kernel_rfl
set_option maxRecDepth 100000 in
theorem l_slices_Grow_byte_byte_1 (x0 : Int) (Rv : List AV → Prop) : stepC E_slices_Grow_byte_byte [.r, .r, .r] b_slices_Grow_byte_byte (bodyK E_slices_Grow_byte_byte Try.f54 (outH O_slices_Grow_byte_byte OO_slices_Grow_byte_byte fun ls => Rv (tup_slices_Grow_byte_byte ls))) (st_slices_Grow_byte_byte_1 x0) =
  (M_slices_Grow_byte_byte x0 (.inr (()))).fold False (Sum.elim (L_slices_Grow_byte_byte x0 Rv) Rv) := by kernel_rfl
set_option maxRecDepth 100000 in
theorem e_slices_Grow_byte_byte_0 (x0 : Int) (Rv : List AV → Prop) : L_slices_Grow_byte_byte x0 Rv (.inl (())) = headC E_slices_Grow_byte_byte [.r, .r] b_slices_Grow_byte_byte (bodyK E_slices_Grow_byte_byte Try.f54 (outH O_slices_Grow_byte_byte OO_slices_Grow_byte_byte fun ls => Rv (tup_slices_Grow_byte_byte ls))) (st_slices_Grow_byte_byte_0 x0) := by kernel_rfl
set_option maxRecDepth 100000 in
theorem e_slices_Grow_byte_byte_1 (x0 : Int) (Rv : List AV → Prop) : L_slices_Grow_byte_byte x0 Rv (.inr (())) = headC E_slices_Grow_byte_byte [.r, .r, .r] b_slices_Grow_byte_byte (bodyK E_slices_Grow_byte_byte Try.f54 (outH O_slices_Grow_byte_byte OO_slices_Grow_byte_byte fun ls => Rv (tup_slices_Grow_byte_byte ls))) (st_slices_Grow_byte_byte_1 x0) := by kernel_rfl
section
attribute [local irreducible] Tr.fold M_slices_Grow_byte_byte L_slices_Grow_byte_byte T_slices_Grow_byte_byte E_slices_Grow_byte_byte b_slices_Grow_byte_byte bodyK headC headL stepC stepL wpX callA
set_option maxRecDepth 100000 in
theorem h_slices_Grow_byte_byte (x0 : Int) (Rv : List AV → Prop) : ∀ s, (M_slices_Grow_byte_byte x0 s).fold False (Sum.elim (L_slices_Grow_byte_byte x0 Rv) Rv) → L_slices_Grow_byte_byte x0 Rv s := by
  rintro (⟨⟩ | ⟨⟩)
  · exact fun h => Eq.mpr (e_slices_Grow_byte_byte_0 x0 Rv) (headC_of (Eq.mpr (l_slices_Grow_byte_byte_0 x0 Rv) h))
  · exact fun h => Eq.mpr (e_slices_Grow_byte_byte_1 x0 Rv) (headC_of (Eq.mpr (l_slices_Grow_byte_byte_1 x0 Rv) h))
set_option maxRecDepth 100000 in
theorem c_slices_Grow_byte_byte (ls : List AV) (Rv : List AV → Prop) : callA E_slices_Grow_byte_byte Try.f54 (instL ls P_slices_Grow_byte_byte 0) (instH ls Q_slices_Grow_byte_byte 1) (outH O_slices_Grow_byte_byte OO_slices_Grow_byte_byte fun ls => Rv (tup_slices_Grow_byte_byte ls)) = (T_slices_Grow_byte_byte (getI (ls.getD 0 .junk))).fold False (Sum.elim (L_slices_Grow_byte_byte (getI (ls.getD 0 .junk)) Rv) Rv) := by kernel_rfl
end
noncomputable def S_slices_Grow_byte_byte : Go.Cx.Spec := heapS (patH P_slices_Grow_byte_byte Q_slices_Grow_byte_byte fun ls => opt (g_slices_Grow_byte_byte (getI (ls.getD 0 .junk))) fun x => .r (res_slices_Grow_byte_byte x))
set_option maxRecDepth 100000 in
theorem S_slices_Grow_byte_byte_ok : Sound Try.prog 54 S_slices_Grow_byte_byte :=
  heap_mach (E := E_slices_Grow_byte_byte) (TblOK.enK TYbG81t_ok _ _ _ _ _) mixed Try.func54 (c := Try.f54.body.getD .skip) (by kernel_rfl) (by kernel_rfl) (by decide) (pats := P_slices_Grow_byte_byte) (ops := Q_slices_Grow_byte_byte) (OO := OO_slices_Grow_byte_byte) (O := O_slices_Grow_byte_byte) (tup := tup_slices_Grow_byte_byte) (res := res_slices_Grow_byte_byte) (g := fun ls => g_slices_Grow_byte_byte (getI (ls.getD 0 .junk))) (T := fun ls => T_slices_Grow_byte_byte (getI (ls.getD 0 .junk))) (step := fun ls => M_slices_Grow_byte_byte (getI (ls.getD 0 .junk))) (L := fun ls => L_slices_Grow_byte_byte (getI (ls.getD 0 .junk))) (fun _ => rfl) (fun ls => by kernel_rfl) c_slices_Grow_byte_byte (fun ls Rv => h_slices_Grow_byte_byte (getI (ls.getD 0 .junk)) Rv)

noncomputable def TYbG82t : FuncId → Option Go.Cx.Spec := addT TYbG81t 54 S_slices_Grow_byte_byte
theorem TYbG82t_ok : TblOK Try.prog TYbG82t := TYbG81t_ok.add S_slices_Grow_byte_byte_ok

/- slices.Concat[[]byte,byte] -/
noncomputable def E_slices_Concat_byte_byte : En := enK Try.prog TYbG82t [] [(3, ⟨[1, 2, 4, 5, 6, 7, 8, 12, 13, 14, 15, 16, 17, 18, 19, 20, 21, 22, 23, 24, 25, 26, 27, 28, 29, 30, 31, 32, 33, 34, 35], [], [], none, [], []⟩), (11, ⟨[0, 1, 2, 3, 4, 5, 7, 8, 9, 10, 11, 12, 13, 14, 15, 16, 17, 18, 19, 20, 21, 22, 23, 24, 28, 29, 30, 31, 32, 33, 34, 35], [], [], none, [], []⟩)] [] [] 0
def P_slices_Concat_byte_byte : List Pat := [.leaf (.slice 1 (.slice 1 (.int .u8)))]
def O_slices_Concat_byte_byte : Pat := .leaf (.slice 1 (.int .u8))
def tup_slices_Concat_byte_byte : List AV → List AV := fun ls => getXs (ls.getD 0 .junk)
def res_slices_Concat_byte_byte : List AV → AV := fun x => .slice 1 (.int .u8) (x) .ro
noncomputable def T_slices_Concat_byte_byte (x0 : List AV) : Tr (((Int × Int) ⊕ (List AV × Int)) ⊕ (List AV)) := (.r (.inl (.inl (((0 : Int), (0 : Int))))))
noncomputable def M_slices_Concat_byte_byte (x0 : List AV) : (Int × Int) ⊕ (List AV × Int) → Tr (((Int × Int) ⊕ (List AV × Int)) ⊕ (List AV))
  | .inl ((i0, i1)) => (.c (Decidable.decide (i1 < (↑(List.length x0) : Int))) (.c (Decidable.decide ((0 : Int) ≤ i1)) (.c (Decidable.decide (i1 < (↑(List.length x0) : Int))) (.c (Decidable.decide (Go.IntKind.wrap Go.IntKind.i64 (i0 + (↑(List.length (Go.Cx.getXs (List.getD x0 (Int.toNat i1) (Go.Cx.AV.slice (1 : Nat) (Go.Cx.Sh.int Go.IntKind.u8) [] Go.Cx.SK.ro)))) : Int)) < (0 : Int))) .bad (.r (.inl (.inl ((Go.IntKind.wrap Go.IntKind.i64 (i0 + (↑(List.length (Go.Cx.getXs (List.getD x0 (Int.toNat i1) (Go.Cx.AV.slice (1 : Nat) (Go.Cx.Sh.int Go.IntKind.u8) [] Go.Cx.SK.ro)))) : Int)), Go.IntKind.wrap Go.IntKind.i64 (i1 + (1 : Int)))))))) .bad) .bad) (opt (Go.Proofs.Ytaejmfmamhdlhaa.g_slices_Grow_byte_byte i0) fun (y0 : List Go.Cx.AV) => (.r (.inl (.inr ((y0, (0 : Int))))))))
  | .inr ((l0, i2)) => (.c (Decidable.decide (i2 < (↑(List.length x0) : Int))) (.c (Decidable.decide ((0 : Int) ≤ i2)) (.c (Decidable.decide (i2 < (↑(List.length x0) : Int))) (.c (List.length l0 == List.length l0) (.c (Decidable.decide (List.length (l0 ++ Go.Cx.getXs (List.getD x0 (Int.toNat i2) (Go.Cx.AV.slice (1 : Nat) (Go.Cx.Sh.int Go.IntKind.u8) [] Go.Cx.SK.ro))) * (2 : Nat) < (70368744177664 : Nat))) (.r (.inl (.inr ((l0 ++ Go.Cx.getXs (List.getD x0 (Int.toNat i2) (Go.Cx.AV.slice (1 : Nat) (Go.Cx.Sh.int Go.IntKind.u8) [] Go.Cx.SK.ro)), Go.IntKind.wrap Go.IntKind.i64 (i2 + (1 : Int))))))) .bad) .bad) .bad) .bad) (.c (List.length l0 == List.length l0) (.r (.inr (l0))) .bad))
noncomputable def g_slices_Concat_byte_byte (x0 : List AV) : Option (List AV) := run (M_slices_Concat_byte_byte x0) (T_slices_Concat_byte_byte x0)
noncomputable def b_slices_Concat_byte_byte := Try.f44.body.getD .skip
noncomputable def st_slices_Concat_byte_byte_0 (x0 : List AV) (i0 : Int) (i1 : Int) : St := ⟨[Go.Cx.AV.slice (1 : Nat) (Go.Cx.Sh.slice (1 : Nat) (Go.Cx.Sh.int Go.IntKind.u8)) x0 Go.Cx.SK.ro, Go.Cx.AV.junk, Go.Cx.AV.junk, Go.Cx.AV.int Go.IntKind.i64 i0, Go.Cx.AV.junk, Go.Cx.AV.junk, Go.Cx.AV.junk, Go.Cx.AV.junk, Go.Cx.AV.junk, Go.Cx.AV.slice (1 : Nat) (Go.Cx.Sh.slice (1 : Nat) (Go.Cx.Sh.int Go.IntKind.u8)) x0 Go.Cx.SK.ro, Go.Cx.AV.int Go.IntKind.i64 (↑(List.length x0) : Int), Go.Cx.AV.int Go.IntKind.i64 i1, Go.Cx.AV.junk, Go.Cx.AV.junk, Go.Cx.AV.junk, Go.Cx.AV.junk, Go.Cx.AV.junk, Go.Cx.AV.junk, Go.Cx.AV.junk, Go.Cx.AV.junk, Go.Cx.AV.junk, Go.Cx.AV.junk, Go.Cx.AV.junk, Go.Cx.AV.junk, Go.Cx.AV.junk, Go.Cx.AV.junk, Go.Cx.AV.junk, Go.Cx.AV.junk, Go.Cx.AV.junk, Go.Cx.AV.junk, Go.Cx.AV.junk, Go.Cx.AV.junk, Go.Cx.AV.junk, Go.Cx.AV.junk, Go.Cx.AV.junk, Go.Cx.AV.junk], []⟩
noncomputable def st_slices_Concat_byte_byte_1 (x0 : List AV) (l0 : List AV) (i2 : Int) : St := ⟨[Go.Cx.AV.junk, Go.Cx.AV.junk, Go.Cx.AV.junk, Go.Cx.AV.junk, Go.Cx.AV.junk, Go.Cx.AV.junk, Go.Cx.AV.oslice (0 : Nat) (1 : Nat) (List.length l0), Go.Cx.AV.junk, Go.Cx.AV.junk, Go.Cx.AV.junk, Go.Cx.AV.junk, Go.Cx.AV.junk, Go.Cx.AV.junk, Go.Cx.AV.junk, Go.Cx.AV.junk, Go.Cx.AV.junk, Go.Cx.AV.junk, Go.Cx.AV.junk, Go.Cx.AV.junk, Go.Cx.AV.junk, Go.Cx.AV.junk, Go.Cx.AV.junk, Go.Cx.AV.junk, Go.Cx.AV.junk, Go.Cx.AV.junk, Go.Cx.AV.slice (1 : Nat) (Go.Cx.Sh.slice (1 : Nat) (Go.Cx.Sh.int Go.IntKind.u8)) x0 Go.Cx.SK.ro, Go.Cx.AV.int Go.IntKind.i64 (↑(List.length x0) : Int), Go.Cx.AV.int Go.IntKind.i64 i2, Go.Cx.AV.junk, Go.Cx.AV.junk, Go.Cx.AV.junk, Go.Cx.AV.junk, Go.Cx.AV.junk, Go.Cx.AV.junk, Go.Cx.AV.junk, Go.Cx.AV.junk], [Go.Cx.Ob.grow (5 : Nat) (1 : Nat) (1 : Nat) (Go.Cx.Sh.int Go.IntKind.u8) l0]⟩
noncomputable def L_slices_Concat_byte_byte (x0 : List AV) (Rv : List AV → Prop) : (Int × Int) ⊕ (List AV × Int) → Prop
  | .inl ((i0, i1)) => headL E_slices_Concat_byte_byte [.r, .r, .l, .r, .d] b_slices_Concat_byte_byte 0 (bodyK E_slices_Concat_byte_byte Try.f44 (outP O_slices_Concat_byte_byte fun ls => Rv (tup_slices_Concat_byte_byte ls))) (st_slices_Concat_byte_byte_0 x0 i0 i1)
  | .inr ((l0, i2)) => headL E_slices_Concat_byte_byte [.r, .r, .r, .r, .l, .r, .d] b_slices_Concat_byte_byte 1 (bodyK E_slices_Concat_byte_byte Try.f44 (outP O_slices_Concat_byte_byte fun ls => Rv (tup_slices_Concat_byte_byte ls))) (st_slices_Concat_byte_byte_1 x0 l0 i2)
set_option maxRecDepth 100000 in
theorem l_slices_Concat_byte_byte_0 (x0 : List AV) (Rv : List AV → Prop) (i0 : Int) (i1 : Int) : stepL E_slices_Concat_byte_byte [.r, .r, .l, .r, .d] b_slices_Concat_byte_byte 0 (bodyK E_slices_Concat_byte_byte Try.f44 (outP O_slices_Concat_byte_byte fun ls => Rv (tup_slices_Concat_byte_byte ls))) (st_slices_Concat_byte_byte_0 x0 i0 i1) =
  (M_slices_Concat_byte_byte x0 (.inl ((i0, i1)))).fold False (Sum.elim (L_slices_Concat_byte_byte x0 Rv) Rv) := by kernel_rfl
set_option maxRecDepth 100000 in
theorem l_slices_Concat_byte_byte_1 (x0 : List AV) (Rv : List AV → Prop) (l0 : List AV) (i2 : Int) : stepL E_slices_Concat_byte_byte [.r, .r, .r, .r, .l, .r, .d] b_slices_Concat_byte_byte 1 (bodyK E_slices_Concat_byte_byte Try.f44 (outP O_slices_Concat_byte_byte fun ls => Rv (tup_slices_Concat_byte_byte ls))) (st_slices_Concat_byte_byte_1 x0 l0 i2) =
  (M_slices_Concat_byte_byte x0 (.inr ((l0, i2)))).fold False (Sum.elim (L_slices_Concat_byte_byte x0 Rv) Rv) := by kernel_rfl
set_option maxRecDepth 100000 in
theorem e_slices_Concat_byte_byte_0 (x0 : List AV) (Rv : List AV → Prop) (i0 : Int) (i1 : Int) : L_slices_Concat_byte_byte x0 Rv (.inl ((i0, i1))) = headL E_slices_Concat_byte_byte [.r, .r, .l, .r, .d] b_slices_Concat_byte_byte 0 (bodyK E_slices_Concat_byte_byte Try.f44 (outP O_slices_Concat_byte_byte fun ls => Rv (tup_slices_Concat_byte_byte ls))) (st_slices_Concat_byte_byte_0 x0 i0 i1) := by kernel_rfl
set_option maxRecDepth 100000 in
theorem e_slices_Concat_byte_byte_1 (x0 : List AV) (Rv : List AV → Prop) (l0 : List AV) (i2 : Int) : L_slices_Concat_byte_byte x0 Rv (.inr ((l0, i2))) = headL E_slices_Concat_byte_byte [.r, .r, .r, .r, .l, .r, .d] b_slices_Concat_byte_byte 1 (bodyK E_slices_Concat_byte_byte Try.f44 (outP O_slices_Concat_byte_byte fun ls => Rv (tup_slices_Concat_byte_byte ls))) (st_slices_Concat_byte_byte_1 x0 l0 i2) := by kernel_rfl
section
attribute [local irreducible] Tr.fold M_slices_Concat_byte_byte L_slices_Concat_byte_byte T_slices_Concat_byte_byte E_slices_Concat_byte_byte b_slices_Concat_byte_byte bodyK headC headL stepC stepL wpX callA
set_option maxRecDepth 100000 in
theorem h_slices_Concat_byte_byte (x0 : List AV) (Rv : List AV → Prop) : ∀ s, (M_slices_Concat_byte_byte x0 s).fold False (Sum.elim (L_slices_Concat_byte_byte x0 Rv) Rv) → L_slices_Concat_byte_byte x0 Rv s := by
  rintro (⟨v0, v1⟩ | ⟨v0, v1⟩)
  · exact fun h => Eq.mpr (e_slices_Concat_byte_byte_0 x0 Rv v0 v1) (headL_of (Eq.mpr (l_slices_Concat_byte_byte_0 x0 Rv v0 v1) h))
  · exact fun h => Eq.mpr (e_slices_Concat_byte_byte_1 x0 Rv v0 v1) (headL_of (Eq.mpr (l_slices_Concat_byte_byte_1 x0 Rv v0 v1) h))
set_option maxRecDepth 100000 in
theorem c_slices_Concat_byte_byte (ls : List AV) (Rv : List AV → Prop) : callA E_slices_Concat_byte_byte Try.f44 (instL ls P_slices_Concat_byte_byte 0) [] (outP O_slices_Concat_byte_byte fun ls => Rv (tup_slices_Concat_byte_byte ls)) = (T_slices_Concat_byte_byte (getXs (ls.getD 0 .junk))).fold False (Sum.elim (L_slices_Concat_byte_byte (getXs (ls.getD 0 .junk)) Rv) Rv) := by kernel_rfl
end
noncomputable def S_slices_Concat_byte_byte : Go.Cx.Spec := pureS (patF P_slices_Concat_byte_byte fun ls => opt (g_slices_Concat_byte_byte (getXs (ls.getD 0 .junk))) fun x => .r (res_slices_Concat_byte_byte x))
set_option maxRecDepth 100000 in
theorem S_slices_Concat_byte_byte_ok : Sound Try.prog 44 S_slices_Concat_byte_byte :=
  pure_mach (E := E_slices_Concat_byte_byte) (TblOK.enK TYbG82t_ok _ _ _ _ _) mixed rfl Try.func44 (c := Try.f44.body.getD .skip) (by kernel_rfl) (by kernel_rfl) (pats := P_slices_Concat_byte_byte) (O := O_slices_Concat_byte_byte) (tup := tup_slices_Concat_byte_byte) (res := res_slices_Concat_byte_byte) (g := fun ls => g_slices_Concat_byte_byte (getXs (ls.getD 0 .junk))) (T := fun ls => T_slices_Concat_byte_byte (getXs (ls.getD 0 .junk))) (step := fun ls => M_slices_Concat_byte_byte (getXs (ls.getD 0 .junk))) (L := fun ls => L_slices_Concat_byte_byte (getXs (ls.getD 0 .junk))) (fun _ => rfl) (fun ls => by kernel_rfl) c_slices_Concat_byte_byte (fun ls Rv => h_slices_Concat_byte_byte (getXs (ls.getD 0 .junk)) Rv)

noncomputable def TYbG83t : FuncId → Option Go.Cx.Spec := addT TYbG82t 44 S_slices_Concat_byte_byte
theorem TYbG83t_ok : TblOK Try.prog TYbG83t := TYbG82t_ok.add S_slices_Concat_byte_byte_ok

/- comptoir/cursor.New -/
noncomputable def E_cursor_New : En := enK Try.prog TYbG83t [] [] [] [] 1
def P_cursor_New : List Pat := [.leaf (.slice 1 (.int .u8))]
def Q_cursor_New : List OPat := []
def O_cursor_New : Pat := .lit (.ptr 0 0)
def OO_cursor_New : List OPat := [.fix 76 [.leaf (.slice 1 (.int .u8)), .leaf (.int .i64)]]
def tup_cursor_New : List AV → List AV × Int := fun ls => (getXs (ls.getD 0 .junk), getI (ls.getD 1 .junk))
def res_cursor_New : List AV × Int → AV × List Ob := fun x => (.ptr 0 0, [.fix 76 [.slice 1 (.int .u8) (x.1) .ro, .int .i64 (x.2)]])
noncomputable def T_cursor_New (x0 : List AV) : Tr (List AV × Int) := (.c (Decidable.decide (List.length x0 * (2 : Nat) < (70368744177664 : Nat))) (.r ((x0, (0 : Int)))) .bad)
noncomputable def g_cursor_New (x0 : List AV) : Option (List AV × Int) := (T_cursor_New x0).val
set_option maxRecDepth 100000 in
theorem c_cursor_New (ls : List AV) (Rv : List AV × Int → Prop) : callA E_cursor_New Try.f35 (instL ls P_cursor_New 0) (instH ls Q_cursor_New 1) (outH O_cursor_New OO_cursor_New fun ls => Rv (tup_cursor_New ls)) = (T_cursor_New (getXs (ls.getD 0 .junk))).fold False Rv := by kernel_rfl
noncomputable def S_cursor_New : Go.Cx.Spec := heapS (patH P_cursor_New Q_cursor_New fun ls => opt (g_cursor_New (getXs (ls.getD 0 .junk))) fun x => .r (res_cursor_New x))
set_option maxRecDepth 100000 in
theorem S_cursor_New_ok : Sound Try.prog 35 S_cursor_New :=
  heap_flat (E := E_cursor_New) (TblOK.enK TYbG83t_ok _ _ _ _ _) mixed Try.func35 (c := Try.f35.body.getD .skip) (by kernel_rfl) (by kernel_rfl) (by decide) (pats := P_cursor_New) (ops := Q_cursor_New) (OO := OO_cursor_New) (O := O_cursor_New) (tup := tup_cursor_New) (res := res_cursor_New) (g := fun ls => g_cursor_New (getXs (ls.getD 0 .junk))) (T := fun ls => T_cursor_New (getXs (ls.getD 0 .junk))) (fun _ => rfl) (fun ls => by kernel_rfl) c_cursor_New

noncomputable def TYbG84t : FuncId → Option Go.Cx.Spec := addT TYbG83t 35 S_cursor_New
theorem TYbG84t_ok : TblOK Try.prog TYbG84t := TYbG83t_ok.add S_cursor_New_ok

/- (*comptoir/cursor.Cursor).Left -/
noncomputable def E_cursor_Cursor_Left_p : En := enK Try.prog TYbG84t [] [] [] [] 0
def P_cursor_Cursor_Left_p : List Pat := [.rptr [.leaf (.slice 1 (.int .u8)), .leaf (.int .i64)]]
def O_cursor_Cursor_Left_p : Pat := .leaf (.int .i64)
def tup_cursor_Cursor_Left_p : List AV → Int := fun ls => getI (ls.getD 0 .junk)
def res_cursor_Cursor_Left_p : Int → AV := fun x => .int .i64 (x)
noncomputable def T_cursor_Cursor_Left_p (x0 : List AV) (x1 : Int) : Tr (Int) := (.r (Go.IntKind.wrap Go.IntKind.i64 ((↑(List.length x0) : Int) - x1)))
noncomputable def g_cursor_Cursor_Left_p (x0 : List AV) (x1 : Int) : Option (Int) := (T_cursor_Cursor_Left_p x0 x1).val
set_option maxRecDepth 100000 in
theorem c_cursor_Cursor_Left_p (ls : List AV) (Rv : Int → Prop) : callA E_cursor_Cursor_Left_p Try.f56 (instL ls P_cursor_Cursor_Left_p 0) [] (outP O_cursor_Cursor_Left_p fun ls => Rv (tup_cursor_Cursor_Left_p ls)) = (T_cursor_Cursor_Left_p (getXs (ls.getD 0 .junk)) (getI (ls.getD 1 .junk))).fold False Rv := by kernel_rfl
noncomputable def S_cursor_Cursor_Left_p : Go.Cx.Spec := pureS (patF P_cursor_Cursor_Left_p fun ls => opt (g_cursor_Cursor_Left_p (getXs (ls.getD 0 .junk)) (getI (ls.getD 1 .junk))) fun x => .r (res_cursor_Cursor_Left_p x))
set_option maxRecDepth 100000 in
theorem S_cursor_Cursor_Left_p_ok : Sound Try.prog 56 S_cursor_Cursor_Left_p :=
  pure_flat (E := E_cursor_Cursor_Left_p) (TblOK.enK TYbG84t_ok _ _ _ _ _) mixed rfl Try.func56 (c := Try.f56.body.getD .skip) (by kernel_rfl) (by kernel_rfl) (pats := P_cursor_Cursor_Left_p) (O := O_cursor_Cursor_Left_p) (tup := tup_cursor_Cursor_Left_p) (res := res_cursor_Cursor_Left_p) (g := fun ls => g_cursor_Cursor_Left_p (getXs (ls.getD 0 .junk)) (getI (ls.getD 1 .junk))) (T := fun ls => T_cursor_Cursor_Left_p (getXs (ls.getD 0 .junk)) (getI (ls.getD 1 .junk))) (fun _ => rfl) (fun ls => by kernel_rfl) c_cursor_Cursor_Left_p

noncomputable def TYbG85t : FuncId → Option Go.Cx.Spec := addT TYbG84t 56 S_cursor_Cursor_Left_p
theorem TYbG85t_ok : TblOK Try.prog TYbG85t := TYbG84t_ok.add S_cursor_Cursor_Left_p_ok

/- (*comptoir/cursor.Cursor).take -/
noncomputable def E_cursor_Cursor_take_p0500 : En := enK Try.prog TYbG85t [] [] [] [] 1
def P_cursor_Cursor_take_p0500 : List Pat := [.lit (.ptr 0 0), .leaf (.int .i64)]
def Q_cursor_Cursor_take_p0500 : List OPat := [.fix 76 [.leaf (.slice 1 (.int .u8)), .leaf (.int .i64)]]
def O_cursor_Cursor_take_p0500 : Pat := .tuple [.leaf (.slice 1 (.int .u8)), .leaf (.int .i64)]
def OO_cursor_Cursor_take_p0500 : List OPat := [.fix 76 [.leaf (.slice 1 (.int .u8)), .leaf (.int .i64)]]
def tup_cursor_Cursor_take_p0500 : List AV → List AV × Int × List AV × Int := fun ls => (getXs (ls.getD 0 .junk), getI (ls.getD 1 .junk), getXs (ls.getD 2 .junk), getI (ls.getD 3 .junk))
def res_cursor_Cursor_take_p0500 : List AV × Int × List AV × Int → AV × List Ob := fun x => (.tuple [.slice 1 (.int .u8) (x.1) .ro, .int .i64 (x.2.1)], [.fix 76 [.slice 1 (.int .u8) (x.2.2.1) .ro, .int .i64 (x.2.2.2)]])
noncomputable def T_cursor_Cursor_take_p0500 (x0 : Int) (x1 : List AV) (x2 : Int) : Tr (List AV × Int × List AV × Int) := (.c (Decidable.decide (x0 < (0 : Int))) (.r (([], (1 : Int), x1, x2))) (.c (Decidable.decide (x0 > Go.IntKind.wrap Go.IntKind.i64 ((↑(List.length x1) : Int) - x2))) (.r (([], (3 : Int), x1, x2))) (.c (Decidable.decide ((0 : Int) ≤ Go.IntKind.wrap Go.IntKind.i64 (x2 + x0))) (.c (Decidable.decide (Go.IntKind.wrap Go.IntKind.i64 (x2 + x0) ≤ (↑(List.length x1) : Int))) (.c (Decidable.decide ((0 : Int) ≤ Go.IntKind.wrap Go.IntKind.i64 (Go.IntKind.wrap Go.IntKind.i64 (x2 + x0) - x0))) (.c (Decidable.decide (Go.IntKind.wrap Go.IntKind.i64 (Go.IntKind.wrap Go.IntKind.i64 (x2 + x0) - x0) ≤ Go.IntKind.wrap Go.IntKind.i64 (x2 + x0))) (.r ((List.drop (Int.toNat (Go.IntKind.wrap Go.IntKind.i64 (Go.IntKind.wrap Go.IntKind.i64 (x2 + x0) - x0))) (List.take (Int.toNat (Go.IntKind.wrap Go.IntKind.i64 (x2 + x0))) x1), (0 : Int), x1, Go.IntKind.wrap Go.IntKind.i64 (x2 + x0)))) .bad) .bad) .bad) .bad)))
noncomputable def g_cursor_Cursor_take_p0500 (x0 : Int) (x1 : List AV) (x2 : Int) : Option (List AV × Int × List AV × Int) := (T_cursor_Cursor_take_p0500 x0 x1 x2).val
set_option maxRecDepth 100000 in
theorem c_cursor_Cursor_take_p0500 (ls : List AV) (Rv : List AV × Int × List AV × Int → Prop) : callA E_cursor_Cursor_take_p0500 Try.f51 (instL ls P_cursor_Cursor_take_p0500 0) (instH ls Q_cursor_Cursor_take_p0500 1) (outH O_cursor_Cursor_take_p0500 OO_cursor_Cursor_take_p0500 fun ls => Rv (tup_cursor_Cursor_take_p0500 ls)) = (T_cursor_Cursor_take_p0500 (getI (ls.getD 0 .junk)) (getXs (ls.getD 1 .junk)) (getI (ls.getD 2 .junk))).fold False Rv := by kernel_rfl
noncomputable def S_cursor_Cursor_take_p0500 : Go.Cx.Spec := heapS (patH P_cursor_Cursor_take_p0500 Q_cursor_Cursor_take_p0500 fun ls => opt (g_cursor_Cursor_take_p0500 (getI (ls.getD 0 .junk)) (getXs (ls.getD 1 .junk)) (getI (ls.getD 2 .junk))) fun x => .r (res_cursor_Cursor_take_p0500 x))
set_option maxRecDepth 100000 in
theorem S_cursor_Cursor_take_p0500_ok : Sound Try.prog 51 S_cursor_Cursor_take_p0500 :=
  heap_flat (E := E_cursor_Cursor_take_p0500) (TblOK.enK TYbG85t_ok _ _ _ _ _) mixed Try.func51 (c := Try.f51.body.getD .skip) (by kernel_rfl) (by kernel_rfl) (by decide) (pats := P_cursor_Cursor_take_p0500) (ops := Q_cursor_Cursor_take_p0500) (OO := OO_cursor_Cursor_take_p0500) (O := O_cursor_Cursor_take_p0500) (tup := tup_cursor_Cursor_take_p0500) (res := res_cursor_Cursor_take_p0500) (g := fun ls => g_cursor_Cursor_take_p0500 (getI (ls.getD 0 .junk)) (getXs (ls.getD 1 .junk)) (getI (ls.getD 2 .junk))) (T := fun ls => T_cursor_Cursor_take_p0500 (getI (ls.getD 0 .junk)) (getXs (ls.getD 1 .junk)) (getI (ls.getD 2 .junk))) (fun _ => rfl) (fun ls => by kernel_rfl) c_cursor_Cursor_take_p0500

noncomputable def TYbG86t : FuncId → Option Go.Cx.Spec := addT TYbG85t 51 S_cursor_Cursor_take_p0500
theorem TYbG86t_ok : TblOK Try.prog TYbG86t := TYbG85t_ok.add S_cursor_Cursor_take_p0500_ok

/- comptoir/cursor.read -/
noncomputable def E_cursor_read_ftake_0p500 : En := enK Try.prog TYbG86t [] [] [] [] 1
def P_cursor_read_ftake_0p500 : List Pat := [.func 51 [.lit (.ptr 0 0)] [], .leaf (.int .i64)]
def Q_cursor_read_ftake_0p500 : List OPat := [.fix 76 [.leaf (.slice 1 (.int .u8)), .leaf (.int .i64)]]
def O_cursor_read_ftake_0p500 : Pat := .tuple [.leaf (.slice 1 (.int .u8)), .leaf (.int .i64)]
def OO_cursor_read_ftake_0p500 : List OPat := [.fix 76 [.leaf (.slice 1 (.int .u8)), .leaf (.int .i64)]]
def tup_cursor_read_ftake_0p500 : List AV → List AV × Int × List AV × Int := fun ls => (getXs (ls.getD 0 .junk), getI (ls.getD 1 .junk), getXs (ls.getD 2 .junk), getI (ls.getD 3 .junk))
def res_cursor_read_ftake_0p500 : List AV × Int × List AV × Int → AV × List Ob := fun x => (.tuple [.slice 1 (.int .u8) (x.1) .ro, .int .i64 (x.2.1)], [.fix 76 [.slice 1 (.int .u8) (x.2.2.1) .ro, .int .i64 (x.2.2.2)]])
noncomputable def T_cursor_read_ftake_0p500 (x0 : Int) (x1 : List AV) (x2 : Int) : Tr (List AV × Int × List AV × Int) := (opt (Go.Proofs.Ytaejmfmamhdlhaa.g_cursor_Cursor_take_p0500 x0 x1 x2) fun (y0 : List Go.Cx.AV × Int × List Go.Cx.AV × Int) => (.r ((Prod.fst y0, Prod.fst (Prod.snd y0), Prod.fst (Prod.snd (Prod.snd y0)), Prod.snd (Prod.snd (Prod.snd y0))))))
noncomputable def g_cursor_read_ftake_0p500 (x0 : Int) (x1 : List AV) (x2 : Int) : Option (List AV × Int × List AV × Int) := (T_cursor_read_ftake_0p500 x0 x1 x2).val
set_option maxRecDepth 100000 in
theorem c_cursor_read_ftake_0p500 (ls : List AV) (Rv : List AV × Int × List AV × Int → Prop) : callA E_cursor_read_ftake_0p500 Try.f50 (instL ls P_cursor_read_ftake_0p500 0) (instH ls Q_cursor_read_ftake_0p500 1) (outH O_cursor_read_ftake_0p500 OO_cursor_read_ftake_0p500 fun ls => Rv (tup_cursor_read_ftake_0p500 ls)) = (T_cursor_read_ftake_0p500 (getI (ls.getD 0 .junk)) (getXs (ls.getD 1 .junk)) (getI (ls.getD 2 .junk))).fold False Rv := by kernel_rfl
noncomputable def S_cursor_read_ftake_0p500 : Go.Cx.Spec := heapS (patH P_cursor_read_ftake_0p500 Q_cursor_read_ftake_0p500 fun ls => opt (g_cursor_read_ftake_0p500 (getI (ls.getD 0 .junk)) (getXs (ls.getD 1 .junk)) (getI (ls.getD 2 .junk))) fun x => .r (res_cursor_read_ftake_0p500 x))
set_option maxRecDepth 100000 in
theorem S_cursor_read_ftake_0p500_ok : Sound Try.prog 50 S_cursor_read_ftake_0p500 :=
  heap_flat (E := E_cursor_read_ftake_0p500) (TblOK.enK TYbG86t_ok _ _ _ _ _) mixed Try.func50 (c := Try.f50.body.getD .skip) (by kernel_rfl) (by kernel_rfl) (by decide) (pats := P_cursor_read_ftake_0p500) (ops := Q_cursor_read_ftake_0p500) (OO := OO_cursor_read_ftake_0p500) (O := O_cursor_read_ftake_0p500) (tup := tup_cursor_read_ftake_0p500) (res := res_cursor_read_ftake_0p500) (g := fun ls => g_cursor_read_ftake_0p500 (getI (ls.getD 0 .junk)) (getXs (ls.getD 1 .junk)) (getI (ls.getD 2 .junk))) (T := fun ls => T_cursor_read_ftake_0p500 (getI (ls.getD 0 .junk)) (getXs (ls.getD 1 .junk)) (getI (ls.getD 2 .junk))) (fun _ => rfl) (fun ls => by kernel_rfl) c_cursor_read_ftake_0p500

noncomputable def TYbG87t : FuncId → Option Go.Cx.Spec := addT TYbG86t 50 S_cursor_read_ftake_0p500
theorem TYbG87t_ok : TblOK Try.prog TYbG87t := TYbG86t_ok.add S_cursor_read_ftake_0p500_ok

/- (*comptoir/cursor.Cursor).Number -/
noncomputable def E_cursor_Cursor_Number_p0500 : En := enK Try.prog TYbG87t [] [(8, ⟨[0, 1, 2, 3, 4, 5, 6, 9, 10, 11, 12, 13, 14, 15, 16, 17, 18, 19, 20, 21, 22, 23, 24, 25, 26, 27, 31, 32, 33, 34, 35, 36, 37, 38, 39, 40, 41], [], [], none, [], []⟩)] [] [] 1
def P_cursor_Cursor_Number_p0500 : List Pat := [.lit (.ptr 0 0), .leaf (.int .i64)]
def Q_cursor_Cursor_Number_p0500 : List OPat := [.fix 76 [.leaf (.slice 1 (.int .u8)), .leaf (.int .i64)]]
def O_cursor_Cursor_Number_p0500 : Pat := .tuple [.leaf (.int .u64), .leaf (.int .i64)]
def OO_cursor_Cursor_Number_p0500 : List OPat := [.fix 76 [.leaf (.slice 1 (.int .u8)), .leaf (.int .i64)]]
def tup_cursor_Cursor_Number_p0500 : List AV → Int × Int × List AV × Int := fun ls => (getI (ls.getD 0 .junk), getI (ls.getD 1 .junk), getXs (ls.getD 2 .junk), getI (ls.getD 3 .junk))
def res_cursor_Cursor_Number_p0500 : Int × Int × List AV × Int → AV × List Ob := fun x => (.tuple [.int .u64 (x.1), .int .i64 (x.2.1)], [.fix 76 [.slice 1 (.int .u8) (x.2.2.1) .ro, .int .i64 (x.2.2.2)]])
noncomputable def T_cursor_Cursor_Number_p0500 (x0 : Int) (x1 : List AV) (x2 : Int) : Tr ((Int × List AV × Int × List AV × Int × Int × Int) ⊕ (Int × Int × List AV × Int)) := (.c (Decidable.decide (x0 < (1 : Int))) (.r (.inr (((0 : Int), (1 : Int), x1, x2)))) (.c (Decidable.decide (x0 > (8 : Int))) (.r (.inr (((0 : Int), (1 : Int), x1, x2)))) (opt (Go.Proofs.Ytaejmfmamhdlhaa.g_cursor_read_ftake_0p500 x0 x1 x2) fun (y0 : List Go.Cx.AV × Int × List Go.Cx.AV × Int) => (.r (.inl ((Prod.fst (Prod.snd y0), Prod.fst y0, (↑(List.length (Prod.fst y0)) : Int), Prod.fst (Prod.snd (Prod.snd y0)), Prod.snd (Prod.snd (Prod.snd y0)), (0 : Int), (0 : Int))))))))
noncomputable def M_cursor_Cursor_Number_p0500 (x0 : Int) (x1 : List AV) (x2 : Int) : Int × List AV × Int × List AV × Int × Int × Int → Tr ((Int × List AV × Int × List AV × Int × Int × Int) ⊕ (Int × Int × List AV × Int))
  | (i0, l0, i1, l1, i2, i3, i4) => (.c (Decidable.decide (i4 < i1)) (.c (Decidable.decide ((0 : Int) ≤ i4)) (.c (Decidable.decide (i4 < (↑(List.length l0) : Int))) (.r (.inl ((i0, l0, i1, l1, i2, Go.Cx.bitsA Go.BinOp.or Go.IntKind.u64 (Go.Cx.shlA Go.IntKind.u64 i3 (8 : Int)) (Go.IntKind.wrap Go.IntKind.u64 (Go.Cx.getI (List.getD l0 (Int.toNat i4) (Go.Cx.AV.int Go.IntKind.u8 (0 : Int))))), Go.IntKind.wrap Go.IntKind.i64 (i4 + (1 : Int)))))) .bad) .bad) (.r (.inr ((i3, i0, l1, i2)))))
noncomputable def g_cursor_Cursor_Number_p0500 (x0 : Int) (x1 : List AV) (x2 : Int) : Option (Int × Int × List AV × Int) := run (M_cursor_Cursor_Number_p0500 x0 x1 x2) (T_cursor_Cursor_Number_p0500 x0 x1 x2)
noncomputable def b_cursor_Cursor_Number_p0500 := Try.f37.body.getD .skip
noncomputable def st_cursor_Cursor_Number_p0500_0 (x0 : Int) (x1 : List AV) (x2 : Int) (i0 : Int) (l0 : List AV) (i1 : Int) (l1 : List AV) (i2 : Int) (i3 : Int) (i4 : Int) : St := ⟨frOf 0 42 [(7, Go.Cx.AV.int Go.IntKind.i64 i0), (8, Go.Cx.AV.int Go.IntKind.u64 i3), (28, Go.Cx.AV.slice (1 : Nat) (Go.Cx.Sh.int Go.IntKind.u8) l0 Go.Cx.SK.ro), (29, Go.Cx.AV.int Go.IntKind.i64 i1), (30, Go.Cx.AV.int Go.IntKind.i64 i4)], [Go.Cx.Ob.fix (76 : Nat) [Go.Cx.AV.slice (1 : Nat) (Go.Cx.Sh.int Go.IntKind.u8) l1 Go.Cx.SK.ro, Go.Cx.AV.int Go.IntKind.i64 i2]]⟩
noncomputable def L_cursor_Cursor_Number_p0500 (x0 : Int) (x1 : List AV) (x2 : Int) (Rv : Int × Int × List AV × Int → Prop) : Int × List AV × Int × List AV × Int × Int × Int → Prop
  | (i0, l0, i1, l1, i2, i3, i4) => headL E_cursor_Cursor_Number_p0500 [.r, .r, .r, .r, .l, .r, .d] b_cursor_Cursor_Number_p0500 1 (bodyK E_cursor_Cursor_Number_p0500 Try.f37 (outH O_cursor_Cursor_Number_p0500 OO_cursor_Cursor_Number_p0500 fun ls => Rv (tup_cursor_Cursor_Number_p0500 ls))) (st_cursor_Cursor_Number_p0500_0 x0 x1 x2 i0 l0 i1 l1 i2 i3 i4)
set_option maxRecDepth 100000 in
theorem l_cursor_Cursor_Number_p0500_0 (x0 : Int) (x1 : List AV) (x2 : Int) (Rv : Int × Int × List AV × Int → Prop) (i0 : Int) (l0 : List AV) (i1 : Int) (l1 : List AV) (i2 : Int) (i3 : Int) (i4 : Int) : stepL E_cursor_Cursor_Number_p0500 [.r, .r, .r, .r, .l, .r, .d] b_cursor_Cursor_Number_p0500 1 (bodyK E_cursor_Cursor_Number_p0500 Try.f37 (outH O_cursor_Cursor_Number_p0500 OO_cursor_Cursor_Number_p0500 fun ls => Rv (tup_cursor_Cursor_Number_p0500 ls))) (st_cursor_Cursor_Number_p0500_0 x0 x1 x2 i0 l0 i1 l1 i2 i3 i4) =
  (M_cursor_Cursor_Number_p0500 x0 x1 x2 ((i0, l0, i1, l1, i2, i3, i4))).fold False (Sum.elim (L_cursor_Cursor_Number_p0500 x0 x1 x2 Rv) Rv) := by kernel_rfl
set_option maxRecDepth 100000 in
theorem e_cursor_Cursor_Number_p0500_0 (x0 : Int) (x1 : List AV) (x2 : Int) (Rv : Int × Int × List AV × Int → Prop) (i0 : Int) (l0 : List AV) (i1 : Int) (l1 : List AV) (i2 : Int) (i3 : Int) (i4 : Int) : L_cursor_Cursor_Number_p0500 x0 x1 x2 Rv ((i0, l0, i1, l1, i2, i3, i4)) = headL E_cursor_Cursor_Number_p0500 [.r, .r, .r, .r, .l, .r, .d] b_cursor_Cursor_Number_p0500 1 (bodyK E_cursor_Cursor_Number_p0500 Try.f37 (outH O_cursor_Cursor_Number_p0500 OO_cursor_Cursor_Number_p0500 fun ls => Rv (tup_cursor_Cursor_Number_p0500 ls))) (st_cursor_Cursor_Number_p0500_0 x0 x1 x2 i0 l0 i1 l1 i2 i3 i4) := by kernel_rfl
section
attribute [local irreducible] Tr.fold M_cursor_Cursor_Number_p0500 L_cursor_Cursor_Number_p0500 T_cursor_Cursor_Number_p0500 E_cursor_Cursor_Number_p0500 b_cursor_Cursor_Number_p0500 bodyK headC headL stepC stepL wpX callA
set_option maxRecDepth 100000 in
theorem h_cursor_Cursor_Number_p0500 (x0 : Int) (x1 : List AV) (x2 : Int) (Rv : Int × Int × List AV × Int → Prop) : ∀ s, (M_cursor_Cursor_Number_p0500 x0 x1 x2 s).fold False (Sum.elim (L_cursor_Cursor_Number_p0500 x0 x1 x2 Rv) Rv) → L_cursor_Cursor_Number_p0500 x0 x1 x2 Rv s := by
  rintro (⟨v0, v1, v2, v3, v4, v5, v6⟩)
  · exact fun h => Eq.mpr (e_cursor_Cursor_Number_p0500_0 x0 x1 x2 Rv v0 v1 v2 v3 v4 v5 v6) (headL_of (Eq.mpr (l_cursor_Cursor_Number_p0500_0 x0 x1 x2 Rv v0 v1 v2 v3 v4 v5 v6) h))
set_option maxRecDepth 100000 in
theorem c_cursor_Cursor_Number_p0500 (ls : List AV) (Rv : Int × Int × List AV × Int → Prop) : callA E_cursor_Cursor_Number_p0500 Try.f37 (instL ls P_cursor_Cursor_Number_p0500 0) (instH ls Q_cursor_Cursor_Number_p0500 1) (outH O_cursor_Cursor_Number_p0500 OO_cursor_Cursor_Number_p0500 fun ls => Rv (tup_cursor_Cursor_Number_p0500 ls)) = (T_cursor_Cursor_Number_p0500 (getI (ls.getD 0 .junk)) (getXs (ls.getD 1 .junk)) (getI (ls.getD 2 .junk))).fold False (Sum.elim (L_cursor_Cursor_Number_p0500 (getI (ls.getD 0 .junk)) (getXs (ls.getD 1 .junk)) (getI (ls.getD 2 .junk)) Rv) Rv) := by kernel_rfl
end
noncomputable def S_cursor_Cursor_Number_p0500 : Go.Cx.Spec := heapS (patH P_cursor_Cursor_Number_p0500 Q_cursor_Cursor_Number_p0500 fun ls => opt (g_cursor_Cursor_Number_p0500 (getI (ls.getD 0 .junk)) (getXs (ls.getD 1 .junk)) (getI (ls.getD 2 .junk))) fun x => .r (res_cursor_Cursor_Number_p0500 x))
set_option maxRecDepth 100000 in
theorem S_cursor_Cursor_Number_p0500_ok : Sound Try.prog 37 S_cursor_Cursor_Number_p0500 :=
  heap_mach (E := E_cursor_Cursor_Number_p0500) (TblOK.enK TYbG87t_ok _ _ _ _ _) mixed Try.func37 (c := Try.f37.body.getD .skip) (by kernel_rfl) (by kernel_rfl) (by decide) (pats := P_cursor_Cursor_Number_p0500) (ops := Q_cursor_Cursor_Number_p0500) (OO := OO_cursor_Cursor_Number_p0500) (O := O_cursor_Cursor_Number_p0500) (tup := tup_cursor_Cursor_Number_p0500) (res := res_cursor_Cursor_Number_p0500) (g := fun ls => g_cursor_Cursor_Number_p0500 (getI (ls.getD 0 .junk)) (getXs (ls.getD 1 .junk)) (getI (ls.getD 2 .junk))) (T := fun ls => T_cursor_Cursor_Number_p0500 (getI (ls.getD 0 .junk)) (getXs (ls.getD 1 .junk)) (getI (ls.getD 2 .junk))) (step := fun ls => M_cursor_Cursor_Number_p0500 (getI (ls.getD 0 .junk)) (getXs (ls.getD 1 .junk)) (getI (ls.getD 2 .junk))) (L := fun ls => L_cursor_Cursor_Number_p0500 (getI (ls.getD 0 .junk)) (getXs (ls.getD 1 .junk)) (getI (ls.getD 2 .junk))) (fun _ => rfl) (fun ls => by kernel_rfl) c_cursor_Cursor_Number_p0500 (fun ls Rv => h_cursor_Cursor_Number_p0500 (getI (ls.getD 0 .junk)) (getXs (ls.getD 1 .junk)) (getI (ls.getD 2 .junk)) Rv)

noncomputable def TYbG88t : FuncId → Option Go.Cx.Spec := addT TYbG87t 37 S_cursor_Cursor_Number_p0500
theorem TYbG88t_ok : TblOK Try.prog TYbG88t := TYbG87t_ok.add S_cursor_Cursor_Number_p0500_ok

/- (*comptoir/cursor.Cursor).Take -/
noncomputable def E_cursor_Cursor_Take_p0500 : En := enK Try.prog TYbG88t [] [] [] [] 1
def P_cursor_Cursor_Take_p0500 : List Pat := [.lit (.ptr 0 0), .leaf (.int .i64)]
def Q_cursor_Cursor_Take_p0500 : List OPat := [.fix 76 [.leaf (.slice 1 (.int .u8)), .leaf (.int .i64)]]
def O_cursor_Cursor_Take_p0500 : Pat := .tuple [.leaf (.slice 1 (.int .u8)), .leaf (.int .i64)]
def OO_cursor_Cursor_Take_p0500 : List OPat := [.fix 76 [.leaf (.slice 1 (.int .u8)), .leaf (.int .i64)]]
def tup_cursor_Cursor_Take_p0500 : List AV → List AV × Int × List AV × Int := fun ls => (getXs (ls.getD 0 .junk), getI (ls.getD 1 .junk), getXs (ls.getD 2 .junk), getI (ls.getD 3 .junk))
def res_cursor_Cursor_Take_p0500 : List AV × Int × List AV × Int → AV × List Ob := fun x => (.tuple [.slice 1 (.int .u8) (x.1) .ro, .int .i64 (x.2.1)], [.fix 76 [.slice 1 (.int .u8) (x.2.2.1) .ro, .int .i64 (x.2.2.2)]])
noncomputable def T_cursor_Cursor_Take_p0500 (x0 : Int) (x1 : List AV) (x2 : Int) : Tr (List AV × Int × List AV × Int) := (opt (Go.Proofs.Ytaejmfmamhdlhaa.g_cursor_read_ftake_0p500 x0 x1 x2) fun (y0 : List Go.Cx.AV × Int × List Go.Cx.AV × Int) => (.c (Decidable.decide (List.length (Prod.fst y0) * (2 : Nat) < (70368744177664 : Nat))) (.r ((Prod.fst y0, Prod.fst (Prod.snd y0), Prod.fst (Prod.snd (Prod.snd y0)), Prod.snd (Prod.snd (Prod.snd y0))))) .bad))
noncomputable def g_cursor_Cursor_Take_p0500 (x0 : Int) (x1 : List AV) (x2 : Int) : Option (List AV × Int × List AV × Int) := (T_cursor_Cursor_Take_p0500 x0 x1 x2).val
set_option maxRecDepth 100000 in
theorem c_cursor_Cursor_Take_p0500 (ls : List AV) (Rv : List AV × Int × List AV × Int → Prop) : callA E_cursor_Cursor_Take_p0500 Try.f36 (instL ls P_cursor_Cursor_Take_p0500 0) (instH ls Q_cursor_Cursor_Take_p0500 1) (outH O_cursor_Cursor_Take_p0500 OO_cursor_Cursor_Take_p0500 fun ls => Rv (tup_cursor_Cursor_Take_p0500 ls)) = (T_cursor_Cursor_Take_p0500 (getI (ls.getD 0 .junk)) (getXs (ls.getD 1 .junk)) (getI (ls.getD 2 .junk))).fold False Rv := by kernel_rfl
noncomputable def S_cursor_Cursor_Take_p0500 : Go.Cx.Spec := heapS (patH P_cursor_Cursor_Take_p0500 Q_cursor_Cursor_Take_p0500 fun ls => opt (g_cursor_Cursor_Take_p0500 (getI (ls.getD 0 .junk)) (getXs (ls.getD 1 .junk)) (getI (ls.getD 2 .junk))) fun x => .r (res_cursor_Cursor_Take_p0500 x))
set_option maxRecDepth 100000 in
theorem S_cursor_Cursor_Take_p0500_ok : Sound Try.prog 36 S_cursor_Cursor_Take_p0500 :=
  heap_flat (E := E_cursor_Cursor_Take_p0500) (TblOK.enK TYbG88t_ok _ _ _ _ _) mixed Try.func36 (c := Try.f36.body.getD .skip) (by kernel_rfl) (by kernel_rfl) (by decide) (pats := P_cursor_Cursor_Take_p0500) (ops := Q_cursor_Cursor_Take_p0500) (OO := OO_cursor_Cursor_Take_p0500) (O := O_cursor_Cursor_Take_p0500) (tup := tup_cursor_Cursor_Take_p0500) (res := res_cursor_Cursor_Take_p0500) (g := fun ls => g_cursor_Cursor_Take_p0500 (getI (ls.getD 0 .junk)) (getXs (ls.getD 1 .junk)) (getI (ls.getD 2 .junk))) (T := fun ls => T_cursor_Cursor_Take_p0500 (getI (ls.getD 0 .junk)) (getXs (ls.getD 1 .junk)) (getI (ls.getD 2 .junk))) (fun _ => rfl) (fun ls => by kernel_rfl) c_cursor_Cursor_Take_p0500

noncomputable def TYbG89t : FuncId → Option Go.Cx.Spec := addT TYbG88t 36 S_cursor_Cursor_Take_p0500
theorem TYbG89t_ok : TblOK Try.prog TYbG89t := TYbG88t_ok.add S_cursor_Cursor_Take_p0500_ok

/- (*comptoir/cursor.Cursor).At -/
noncomputable def E_cursor_Cursor_At_p : En := enK Try.prog TYbG89t [] [] [] [] 0
def P_cursor_Cursor_At_p : List Pat := [.rptr [.leaf (.slice 1 (.int .u8)), .leaf (.int .i64)]]
def O_cursor_Cursor_At_p : Pat := .leaf (.int .i64)
def tup_cursor_Cursor_At_p : List AV → Int := fun ls => getI (ls.getD 0 .junk)
def res_cursor_Cursor_At_p : Int → AV := fun x => .int .i64 (x)
noncomputable def T_cursor_Cursor_At_p (x0 : List AV) (x1 : Int) : Tr (Int) := (.r (x1))
noncomputable def g_cursor_Cursor_At_p (x0 : List AV) (x1 : Int) : Option (Int) := (T_cursor_Cursor_At_p x0 x1).val
set_option maxRecDepth 100000 in
theorem c_cursor_Cursor_At_p (ls : List AV) (Rv : Int → Prop) : callA E_cursor_Cursor_At_p Try.f55 (instL ls P_cursor_Cursor_At_p 0) [] (outP O_cursor_Cursor_At_p fun ls => Rv (tup_cursor_Cursor_At_p ls)) = (T_cursor_Cursor_At_p (getXs (ls.getD 0 .junk)) (getI (ls.getD 1 .junk))).fold False Rv := by kernel_rfl
noncomputable def S_cursor_Cursor_At_p : Go.Cx.Spec := pureS (patF P_cursor_Cursor_At_p fun ls => opt (g_cursor_Cursor_At_p (getXs (ls.getD 0 .junk)) (getI (ls.getD 1 .junk))) fun x => .r (res_cursor_Cursor_At_p x))
set_option maxRecDepth 100000 in
theorem S_cursor_Cursor_At_p_ok : Sound Try.prog 55 S_cursor_Cursor_At_p :=
  pure_flat (E := E_cursor_Cursor_At_p) (TblOK.enK TYbG89t_ok _ _ _ _ _) mixed rfl Try.func55 (c := Try.f55.body.getD .skip) (by kernel_rfl) (by kernel_rfl) (pats := P_cursor_Cursor_At_p) (O := O_cursor_Cursor_At_p) (tup := tup_cursor_Cursor_At_p) (res := res_cursor_Cursor_At_p) (g := fun ls => g_cursor_Cursor_At_p (getXs (ls.getD 0 .junk)) (getI (ls.getD 1 .junk))) (T := fun ls => T_cursor_Cursor_At_p (getXs (ls.getD 0 .junk)) (getI (ls.getD 1 .junk))) (fun _ => rfl) (fun ls => by kernel_rfl) c_cursor_Cursor_At_p

noncomputable def TYbG810t : FuncId → Option Go.Cx.Spec := addT TYbG89t 55 S_cursor_Cursor_At_p
theorem TYbG810t_ok : TblOK Try.prog TYbG810t := TYbG89t_ok.add S_cursor_Cursor_At_p_ok

/- (*comptoir/link.Link).next -/
noncomputable def E_link_Link_next_p500 : En := enK Try.prog TYbG810t [] [] [] [] 1
def P_link_Link_next_p500 : List Pat := [.lit (.ptr 0 0)]
def Q_link_Link_next_p500 : List OPat := [.fix 68 [.leaf (.slice 1 (.int .u8)), .leaf .bool]]
def O_link_Link_next_p500 : Pat := .tuple [.leaf (.slice 1 (.int .u8)), .leaf .bool]
def OO_link_Link_next_p500 : List OPat := [.fix 68 [.leaf (.slice 1 (.int .u8)), .leaf .bool]]
def tup_link_Link_next_p500 : List AV → List AV × Bool × List AV × Bool := fun ls => (getXs (ls.getD 0 .junk), getB (ls.getD 1 .junk), getXs (ls.getD 2 .junk), getB (ls.getD 3 .junk))
def res_link_Link_next_p500 : List AV × Bool × List AV × Bool → AV × List Ob := fun x => (.tuple [.slice 1 (.int .u8) (x.1) .ro, .bool (x.2.1)], [.fix 68 [.slice 1 (.int .u8) (x.2.2.1) .ro, .bool (x.2.2.2)]])
noncomputable def T_link_Link_next_p500 (x0 : List AV) (x1 : Bool) : Tr (List AV × Bool × List AV × Bool) := (opt (Go.Proofs.Ytaejmfmamhdlhaa.g_cursor_New x0) fun (y0 : List Go.Cx.AV × Int) => (opt (Go.Proofs.Ytaejmfmamhdlhaa.g_cursor_Cursor_Number_p0500 (2 : Int) (Prod.fst y0) (Prod.snd y0)) fun (y1 : Int × Int × List Go.Cx.AV × Int) => (.c (Prod.fst (Prod.snd y1) != (0 : Int)) (.r (([], Bool.false, x0, x1))) (.c (Prod.fst y1 == (0 : Int)) (.r (([], Bool.false, x0, Bool.true))) (.c (Decidable.decide (Prod.fst y1 > (4096 : Int))) (.r (([], Bool.false, x0, Bool.true))) (opt (Go.Proofs.Ytaejmfmamhdlhaa.g_cursor_Cursor_Take_p0500 (Go.IntKind.wrap Go.IntKind.i64 (Prod.fst y1)) (Prod.fst (Prod.snd (Prod.snd y1))) (Prod.snd (Prod.snd (Prod.snd y1)))) fun (y2 : List Go.Cx.AV × Int × List Go.Cx.AV × Int) => (.c (Prod.fst (Prod.snd y2) != (0 : Int)) (.r (([], Bool.false, x0, x1))) (.c (Decidable.decide ((↑(List.length x0) : Int) ≤ (↑(List.length x0) : Int))) (.c (Decidable.decide ((0 : Int) ≤ Prod.snd (Prod.snd (Prod.snd y2)))) (.c (Decidable.decide (Prod.snd (Prod.snd (Prod.snd y2)) ≤ (↑(List.length x0) : Int))) (.r ((Prod.fst y2, Bool.true, List.drop (Int.toNat (Prod.snd (Prod.snd (Prod.snd y2)))) (List.take (List.length x0) x0), x1))) .bad) .bad) .bad))))))))
noncomputable def g_link_Link_next_p500 (x0 : List AV) (x1 : Bool) : Option (List AV × Bool × List AV × Bool) := (T_link_Link_next_p500 x0 x1).val
set_option maxRecDepth 100000 in
theorem c_link_Link_next_p500 (ls : List AV) (Rv : List AV × Bool × List AV × Bool → Prop) : callA E_link_Link_next_p500 Try.f46 (instL ls P_link_Link_next_p500 0) (instH ls Q_link_Link_next_p500 0) (outH O_link_Link_next_p500 OO_link_Link_next_p500 fun ls => Rv (tup_link_Link_next_p500 ls)) = (T_link_Link_next_p500 (getXs (ls.getD 0 .junk)) (getB (ls.getD 1 .junk))).fold False Rv := by kernel_rfl
noncomputable def S_link_Link_next_p500 : Go.Cx.Spec := heapS (patH P_link_Link_next_p500 Q_link_Link_next_p500 fun ls => opt (g_link_Link_next_p500 (getXs (ls.getD 0 .junk)) (getB (ls.getD 1 .junk))) fun x => .r (res_link_Link_next_p500 x))
set_option maxRecDepth 100000 in
theorem S_link_Link_next_p500_ok : Sound Try.prog 46 S_link_Link_next_p500 :=
  heap_flat (E := E_link_Link_next_p500) (TblOK.enK TYbG810t_ok _ _ _ _ _) mixed Try.func46 (c := Try.f46.body.getD .skip) (by kernel_rfl) (by kernel_rfl) (by decide) (pats := P_link_Link_next_p500) (ops := Q_link_Link_next_p500) (OO := OO_link_Link_next_p500) (O := O_link_Link_next_p500) (tup := tup_link_Link_next_p500) (res := res_link_Link_next_p500) (g := fun ls => g_link_Link_next_p500 (getXs (ls.getD 0 .junk)) (getB (ls.getD 1 .junk))) (T := fun ls => T_link_Link_next_p500 (getXs (ls.getD 0 .junk)) (getB (ls.getD 1 .junk))) (fun _ => rfl) (fun ls => by kernel_rfl) c_link_Link_next_p500

noncomputable def TYbG811t : FuncId → Option Go.Cx.Spec := addT TYbG810t 46 S_link_Link_next_p500
theorem TYbG811t_ok : TblOK Try.prog TYbG811t := TYbG810t_ok.add S_link_Link_next_p500_ok

/- comptoir/link.every -/
noncomputable def E_link_every_fnext_p500 : En := enK Try.prog TYbG811t [1000018] [(3, ⟨[1, 2, 6, 7, 8, 9, 10, 11, 12, 13, 14, 15, 16, 17, 18, 19, 20, 21], [], [], none, [], []⟩)] [(3, [(3, 22, (.slice 1 (.int .u8)))])] [] 1
def P_link_every_fnext_p500 : List Pat := [.func 46 [.lit (.ptr 0 0)] []]
def Q_link_every_fnext_p500 : List OPat := [.fix 68 [.leaf (.slice 1 (.int .u8)), .leaf .bool]]
def O_link_every_fnext_p500 : Pat := .leaf (.slice 1 (.slice 1 (.int .u8)))
def OO_link_every_fnext_p500 : List OPat := [.fix 68 [.leaf (.slice 1 (.int .u8)), .leaf .bool]]
def tup_link_every_fnext_p500 : List AV → List AV × List AV × Bool := fun ls => (getXs (ls.getD 0 .junk), getXs (ls.getD 1 .junk), getB (ls.getD 2 .junk))
def res_link_every_fnext_p500 : List AV × List AV × Bool → AV × List Ob := fun x => (.slice 1 (.slice 1 (.int .u8)) (x.1) .ro, [.fix 68 [.slice 1 (.int .u8) (x.2.1) .ro, .bool (x.2.2)]])
noncomputable def T_link_every_fnext_p500 (x0 : List AV) (x1 : Bool) : Tr ((List AV × Bool × List AV × Bool × List AV) ⊕ (List AV × List AV × Bool)) := (opt (Go.Proofs.Ytaejmfmamhdlhaa.g_link_Link_next_p500 x0 x1) fun (y0 : List Go.Cx.AV × Bool × List Go.Cx.AV × Bool) => (.r (.inl ((Prod.fst y0, Prod.fst (Prod.snd y0), Prod.fst (Prod.snd (Prod.snd y0)), Prod.snd (Prod.snd (Prod.snd y0)), [])))))
noncomputable def M_link_every_fnext_p500 (x0 : List AV) (x1 : Bool) : List AV × Bool × List AV × Bool × List AV → Tr ((List AV × Bool × List AV × Bool × List AV) ⊕ (List AV × List AV × Bool))
  | (l0, b0, l1, b1, l2) => (.c (b0) (.c (List.length l2 == List.length l2) (.c (Decidable.decide (List.length (l2 ++ [Go.Cx.AV.slice (1 : Nat) (Go.Cx.Sh.int Go.IntKind.u8) l0 Go.Cx.SK.ro]) * (25 : Nat) < (70368744177664 : Nat))) (opt (Go.Proofs.Ytaejmfmamhdlhaa.g_link_Link_next_p500 l1 b1) fun (y0 : List Go.Cx.AV × Bool × List Go.Cx.AV × Bool) => (.r (.inl ((Prod.fst y0, Prod.fst (Prod.snd y0), Prod.fst (Prod.snd (Prod.snd y0)), Prod.snd (Prod.snd (Prod.snd y0)), l2 ++ [Go.Cx.AV.slice (1 : Nat) (Go.Cx.Sh.int Go.IntKind.u8) l0 Go.Cx.SK.ro]))))) .bad) .bad) (.c (List.length l2 == List.length l2) (.r (.inr ((l2, l1, b1)))) .bad))
noncomputable def g_link_every_fnext_p500 (x0 : List AV) (x1 : Bool) : Option (List AV × List AV × Bool) := run (M_link_every_fnext_p500 x0 x1) (T_link_every_fnext_p500 x0 x1)
noncomputable def b_link_every_fnext_p500 := Try.f45.body.getD .skip
noncomputable def st_link_every_fnext_p500_0 (x0 : List AV) (x1 : Bool) (l0 : List AV) (b0 : Bool) (l1 : List AV) (b1 : Bool) (l2 : List AV) : St := ⟨[Go.Cx.AV.func (46 : Nat) [Go.Cx.AV.ptr (0 : Nat) (0 : Nat)] [], Go.Cx.AV.junk, Go.Cx.AV.junk, Go.Cx.AV.oslice (1 : Nat) (0 : Nat) (List.length l2), Go.Cx.AV.slice (1 : Nat) (Go.Cx.Sh.int Go.IntKind.u8) l0 Go.Cx.SK.ro, Go.Cx.AV.bool b0, Go.Cx.AV.junk, Go.Cx.AV.junk, Go.Cx.AV.junk, Go.Cx.AV.junk, Go.Cx.AV.junk, Go.Cx.AV.junk, Go.Cx.AV.junk, Go.Cx.AV.junk, Go.Cx.AV.junk, Go.Cx.AV.junk, Go.Cx.AV.junk, Go.Cx.AV.junk, Go.Cx.AV.junk, Go.Cx.AV.junk, Go.Cx.AV.junk, Go.Cx.AV.junk], [Go.Cx.Ob.fix (68 : Nat) [Go.Cx.AV.slice (1 : Nat) (Go.Cx.Sh.int Go.IntKind.u8) l1 Go.Cx.SK.ro, Go.Cx.AV.bool b1], Go.Cx.Ob.grow (22 : Nat) (0 : Nat) (1 : Nat) (Go.Cx.Sh.slice (1 : Nat) (Go.Cx.Sh.int Go.IntKind.u8)) l2]⟩
noncomputable def L_link_every_fnext_p500 (x0 : List AV) (x1 : Bool) (Rv : List AV × List AV × Bool → Prop) : List AV × Bool × List AV × Bool × List AV → Prop
  | (l0, b0, l1, b1, l2) => headL E_link_every_fnext_p500 [.r, .r, .l, .r, .d] b_link_every_fnext_p500 2 (bodyK E_link_every_fnext_p500 Try.f45 (outH O_link_every_fnext_p500 OO_link_every_fnext_p500 fun ls => Rv (tup_link_every_fnext_p500 ls))) (st_link_every_fnext_p500_0 x0 x1 l0 b0 l1 b1 l2)
set_option maxRecDepth 100000 in
theorem l_link_every_fnext_p500_0 (x0 : List AV) (x1 : Bool) (Rv : List AV × List AV × Bool → Prop) (l0 : List AV) (b0 : Bool) (l1 : List AV) (b1 : Bool) (l2 : List AV) : stepL E_link_every_fnext_p500 [.r, .r, .l, .r, .d] b_link_every_fnext_p500 2 (bodyK E_link_every_fnext_p500 Try.f45 (outH O_link_every_fnext_p500 OO_link_every_fnext_p500 fun ls => Rv (tup_link_every_fnext_p500 ls))) (st_link_every_fnext_p500_0 x0 x1 l0 b0 l1 b1 l2) =
  (M_link_every_fnext_p500 x0 x1 ((l0, b0, l1, b1, l2))).fold False (Sum.elim (L_link_every_fnext_p500 x0 x1 Rv) Rv) := by kernel_rfl
set_option maxRecDepth 100000 in
theorem e_link_every_fnext_p500_0 (x0 : List AV) (x1 : Bool) (Rv : List AV × List AV × Bool → Prop) (l0 : List AV) (b0 : Bool) (l1 : List AV) (b1 : Bool) (l2 : List AV) : L_link_every_fnext_p500 x0 x1 Rv ((l0, b0, l1, b1, l2)) = headL E_link_every_fnext_p500 [.r, .r, .l, .r, .d] b_link_every_fnext_p500 2 (bodyK E_link_every_fnext_p500 Try.f45 (outH O_link_every_fnext_p500 OO_link_every_fnext_p500 fun ls => Rv (tup_link_every_fnext_p500 ls))) (st_link_every_fnext_p500_0 x0 x1 l0 b0 l1 b1 l2) := by kernel_rfl
section
attribute [local irreducible] Tr.fold M_link_every_fnext_p500 L_link_every_fnext_p500 T_link_every_fnext_p500 E_link_every_fnext_p500 b_link_every_fnext_p500 bodyK headC headL stepC stepL wpX callA
set_option maxRecDepth 100000 in
theorem h_link_every_fnext_p500 (x0 : List AV) (x1 : Bool) (Rv : List AV × List AV × Bool → Prop) : ∀ s, (M_link_every_fnext_p500 x0 x1 s).fold False (Sum.elim (L_link_every_fnext_p500 x0 x1 Rv) Rv) → L_link_every_fnext_p500 x0 x1 Rv s := by
  rintro (⟨v0, v1, v2, v3, v4⟩)
  · exact fun h => Eq.mpr (e_link_every_fnext_p500_0 x0 x1 Rv v0 v1 v2 v3 v4) (headL_of (Eq.mpr (l_link_every_fnext_p500_0 x0 x1 Rv v0 v1 v2 v3 v4) h))
set_option maxRecDepth 100000 in
theorem c_link_every_fnext_p500 (ls : List AV) (Rv : List AV × List AV × Bool → Prop) : callA E_link_every_fnext_p500 Try.f45 (instL ls P_link_every_fnext_p500 0) (instH ls Q_link_every_fnext_p500 0) (outH O_link_every_fnext_p500 OO_link_every_fnext_p500 fun ls => Rv (tup_link_every_fnext_p500 ls)) = (T_link_every_fnext_p500 (getXs (ls.getD 0 .junk)) (getB (ls.getD 1 .junk))).fold False (Sum.elim (L_link_every_fnext_p500 (getXs (ls.getD 0 .junk)) (getB (ls.getD 1 .junk)) Rv) Rv) := by kernel_rfl
end
noncomputable def S_link_every_fnext_p500 : Go.Cx.Spec := heapS (patH P_link_every_fnext_p500 Q_link_every_fnext_p500 fun ls => opt (g_link_every_fnext_p500 (getXs (ls.getD 0 .junk)) (getB (ls.getD 1 .junk))) fun x => .r (res_link_every_fnext_p500 x))
set_option maxRecDepth 100000 in
theorem S_link_every_fnext_p500_ok : Sound Try.prog 45 S_link_every_fnext_p500 :=
  heap_mach (E := E_link_every_fnext_p500) (TblOK.enK TYbG811t_ok _ _ _ _ _) mixed Try.func45 (c := Try.f45.body.getD .skip) (by kernel_rfl) (by kernel_rfl) (by decide) (pats := P_link_every_fnext_p500) (ops := Q_link_every_fnext_p500) (OO := OO_link_every_fnext_p500) (O := O_link_every_fnext_p500) (tup := tup_link_every_fnext_p500) (res := res_link_every_fnext_p500) (g := fun ls => g_link_every_fnext_p500 (getXs (ls.getD 0 .junk)) (getB (ls.getD 1 .junk))) (T := fun ls => T_link_every_fnext_p500 (getXs (ls.getD 0 .junk)) (getB (ls.getD 1 .junk))) (step := fun ls => M_link_every_fnext_p500 (getXs (ls.getD 0 .junk)) (getB (ls.getD 1 .junk))) (L := fun ls => L_link_every_fnext_p500 (getXs (ls.getD 0 .junk)) (getB (ls.getD 1 .junk))) (fun _ => rfl) (fun ls => by kernel_rfl) c_link_every_fnext_p500 (fun ls Rv => h_link_every_fnext_p500 (getXs (ls.getD 0 .junk)) (getB (ls.getD 1 .junk)) Rv)

noncomputable def TYbG812t : FuncId → Option Go.Cx.Spec := addT TYbG811t 45 S_link_every_fnext_p500
theorem TYbG812t_ok : TblOK Try.prog TYbG812t := TYbG811t_ok.add S_link_every_fnext_p500_ok

/- (*comptoir/link.Link).Feed -/
noncomputable def E_link_Link_Feed_p0500 : En := enK Try.prog TYbG812t [1000019] [] [] [] 1
def P_link_Link_Feed_p0500 : List Pat := [.lit (.ptr 0 0), .leaf (.slice 1 (.int .u8))]
def Q_link_Link_Feed_p0500 : List OPat := [.fix 68 [.leaf (.slice 1 (.int .u8)), .leaf .bool]]
def O_link_Link_Feed_p0500 : Pat := .tuple [.leaf (.slice 1 (.slice 1 (.int .u8))), .leaf (.int .i64)]
def OO_link_Link_Feed_p0500 : List OPat := [.fix 68 [.leaf (.slice 1 (.int .u8)), .leaf .bool]]
def tup_link_Link_Feed_p0500 : List AV → List AV × Int × List AV × Bool := fun ls => (getXs (ls.getD 0 .junk), getI (ls.getD 1 .junk), getXs (ls.getD 2 .junk), getB (ls.getD 3 .junk))
def res_link_Link_Feed_p0500 : List AV × Int × List AV × Bool → AV × List Ob := fun x => (.tuple [.slice 1 (.slice 1 (.int .u8)) (x.1) .ro, .int .i64 (x.2.1)], [.fix 68 [.slice 1 (.int .u8) (x.2.2.1) .ro, .bool (x.2.2.2)]])
noncomputable def T_link_Link_Feed_p0500 (x0 : List AV) (x1 : List AV) (x2 : Bool) : Tr (List AV × Int × List AV × Bool) := (.c (!x2) (opt (Go.Proofs.Ytaejmfmamhdlhaa.g_slices_Concat_byte_byte [Go.Cx.AV.slice (1 : Nat) (Go.Cx.Sh.int Go.IntKind.u8) x1 Go.Cx.SK.ro, Go.Cx.AV.slice (1 : Nat) (Go.Cx.Sh.int Go.IntKind.u8) x0 Go.Cx.SK.ro]) fun (y0 : List Go.Cx.AV) => (opt (Go.Proofs.Ytaejmfmamhdlhaa.g_link_every_fnext_p500 y0 x2) fun (y1 : List Go.Cx.AV × List Go.Cx.AV × Bool) => (.c (Prod.snd (Prod.snd y1)) (.r (([], (4 : Int), Prod.fst (Prod.snd y1), Prod.snd (Prod.snd y1)))) (.r ((Prod.fst y1, (0 : Int), Prod.fst (Prod.snd y1), Prod.snd (Prod.snd y1))))))) (.c (x2) (.r (([], (4 : Int), x1, x2))) (.r (([], (0 : Int), x1, x2)))))
noncomputable def g_link_Link_Feed_p0500 (x0 : List AV) (x1 : List AV) (x2 : Bool) : Option (List AV × Int × List AV × Bool) := (T_link_Link_Feed_p0500 x0 x1 x2).val
set_option maxRecDepth 100000 in
theorem c_link_Link_Feed_p0500 (ls : List AV) (Rv : List AV × Int × List AV × Bool → Prop) : callA E_link_Link_Feed_p0500 Try.f27 (instL ls P_link_Link_Feed_p0500 0) (instH ls Q_link_Link_Feed_p0500 1) (outH O_link_Link_Feed_p0500 OO_link_Link_Feed_p0500 fun ls => Rv (tup_link_Link_Feed_p0500 ls)) = (T_link_Link_Feed_p0500 (getXs (ls.getD 0 .junk)) (getXs (ls.getD 1 .junk)) (getB (ls.getD 2 .junk))).fold False Rv := by kernel_rfl
noncomputable def S_link_Link_Feed_p0500 : Go.Cx.Spec := heapS (patH P_link_Link_Feed_p0500 Q_link_Link_Feed_p0500 fun ls => opt (g_link_Link_Feed_p0500 (getXs (ls.getD 0 .junk)) (getXs (ls.getD 1 .junk)) (getB (ls.getD 2 .junk))) fun x => .r (res_link_Link_Feed_p0500 x))
set_option maxRecDepth 100000 in
theorem S_link_Link_Feed_p0500_ok : Sound Try.prog 27 S_link_Link_Feed_p0500 :=
  heap_flat (E := E_link_Link_Feed_p0500) (TblOK.enK TYbG812t_ok _ _ _ _ _) mixed Try.func27 (c := Try.f27.body.getD .skip) (by kernel_rfl) (by kernel_rfl) (by decide) (pats := P_link_Link_Feed_p0500) (ops := Q_link_Link_Feed_p0500) (OO := OO_link_Link_Feed_p0500) (O := O_link_Link_Feed_p0500) (tup := tup_link_Link_Feed_p0500) (res := res_link_Link_Feed_p0500) (g := fun ls => g_link_Link_Feed_p0500 (getXs (ls.getD 0 .junk)) (getXs (ls.getD 1 .junk)) (getB (ls.getD 2 .junk))) (T := fun ls => T_link_Link_Feed_p0500 (getXs (ls.getD 0 .junk)) (getXs (ls.getD 1 .junk)) (getB (ls.getD 2 .junk))) (fun _ => rfl) (fun ls => by kernel_rfl) c_link_Link_Feed_p0500

noncomputable def TYbG813t : FuncId → Option Go.Cx.Spec := addT TYbG812t 27 S_link_Link_Feed_p0500
theorem TYbG813t_ok : TblOK Try.prog TYbG813t := TYbG812t_ok.add S_link_Link_Feed_p0500_ok

/- comptoir/cursor.Put -/
noncomputable def E_cursor_Put : En := enK Try.prog TYbG813t [1000031, 1000032] [(4, ⟨[3, 4, 5, 6, 8, 9, 10, 11, 12, 13, 14, 17, 18, 19, 20, 21, 22, 23, 24, 25, 26, 27, 28, 29, 30, 31, 32, 33, 34], [], [], none, [7], []⟩)] [] [] 0
def P_cursor_Put : List Pat := [.leaf (.slice 1 (.int .u8)), .leaf (.int .u64), .leaf (.int .i64)]
def O_cursor_Put : Pat := .leaf (.slice 1 (.int .u8))
def tup_cursor_Put : List AV → List AV := fun ls => getXs (ls.getD 0 .junk)
def res_cursor_Put : List AV → AV := fun x => .slice 1 (.int .u8) (x) .ro
noncomputable def T_cursor_Put (x0 : List AV) (x1 : Int) (x2 : Int) : Tr ((Int × Int × List AV × Int) ⊕ (List AV)) := (.c (Decidable.decide ((0 : Int) ≤ if (8 : Int) < if (0 : Int) > x2 then (0 : Int) else x2 then (8 : Int) else if (0 : Int) > x2 then (0 : Int) else x2)) (.c ((if (8 : Int) < if (0 : Int) > x2 then (0 : Int) else x2 then (8 : Int) else if (0 : Int) > x2 then (0 : Int) else x2) == if (8 : Int) < if (0 : Int) > x2 then (0 : Int) else x2 then (8 : Int) else if (0 : Int) > x2 then (0 : Int) else x2) (.c (Decidable.decide (List.length (List.replicate (Int.toNat (if (8 : Int) < if (0 : Int) > x2 then (0 : Int) else x2 then (8 : Int) else if (0 : Int) > x2 then (0 : Int) else x2)) (Go.Cx.AV.int Go.IntKind.u8 (0 : Int))) * (2 : Nat) < (70368744177664 : Nat))) (.c (List.length (List.replicate (Int.toNat (if (8 : Int) < if (0 : Int) > x2 then (0 : Int) else x2 then (8 : Int) else if (0 : Int) > x2 then (0 : Int) else x2)) (Go.Cx.AV.int Go.IntKind.u8 (0 : Int))) == List.length (List.replicate (Int.toNat (if (8 : Int) < if (0 : Int) > x2 then (0 : Int) else x2 then (8 : Int) else if (0 : Int) > x2 then (0 : Int) else x2)) (Go.Cx.AV.int Go.IntKind.u8 (0 : Int)))) (.r (.inl ((if (8 : Int) < if (0 : Int) > x2 then (0 : Int) else x2 then (8 : Int) else if (0 : Int) > x2 then (0 : Int) else x2, (↑(List.length (List.replicate (Int.toNat (if (8 : Int) < if (0 : Int) > x2 then (0 : Int) else x2 then (8 : Int) else if (0 : Int) > x2 then (0 : Int) else x2)) (Go.Cx.AV.int Go.IntKind.u8 (0 : Int)))) : Int), List.replicate (Int.toNat (if (8 : Int) < if (0 : Int) > x2 then (0 : Int) else x2 then (8 : Int) else if (0 : Int) > x2 then (0 : Int) else x2)) (Go.Cx.AV.int Go.IntKind.u8 (0 : Int)), (0 : Int))))) .bad) .bad) .bad) .bad)
noncomputable def M_cursor_Put (x0 : List AV) (x1 : Int) (x2 : Int) : Int × Int × List AV × Int → Tr ((Int × Int × List AV × Int) ⊕ (List AV))
  | (i0, i1, l0, i2) => (.c (Decidable.decide (i2 < i1)) (.c (Decidable.decide ((0 : Int) ≤ Go.IntKind.wrap Go.IntKind.i64 ((8 : Int) * i2))) (.c (Decidable.decide ((0 : Int) ≤ Go.IntKind.wrap Go.IntKind.i64 (Go.IntKind.wrap Go.IntKind.i64 (i0 - (1 : Int)) - i2))) (.c (Decidable.decide (Go.IntKind.wrap Go.IntKind.i64 (Go.IntKind.wrap Go.IntKind.i64 (i0 - (1 : Int)) - i2) < (↑(List.length l0) : Int))) (.c (List.length l0 == List.length l0) (.c (Decidable.decide (Int.toNat (Go.IntKind.wrap Go.IntKind.i64 (Go.IntKind.wrap Go.IntKind.i64 (i0 - (1 : Int)) - i2)) < List.length l0)) (.c (List.length l0 == List.length (List.set l0 (Int.toNat (Go.IntKind.wrap Go.IntKind.i64 (Go.IntKind.wrap Go.IntKind.i64 (i0 - (1 : Int)) - i2))) (Go.Cx.AV.int Go.IntKind.u8 (Go.IntKind.wrap Go.IntKind.u8 (Go.Cx.shrA Go.IntKind.u64 x1 (Go.IntKind.wrap Go.IntKind.i64 ((8 : Int) * i2))))))) (.r (.inl ((i0, i1, List.set l0 (Int.toNat (Go.IntKind.wrap Go.IntKind.i64 (Go.IntKind.wrap Go.IntKind.i64 (i0 - (1 : Int)) - i2))) (Go.Cx.AV.int Go.IntKind.u8 (Go.IntKind.wrap Go.IntKind.u8 (Go.Cx.shrA Go.IntKind.u64 x1 (Go.IntKind.wrap Go.IntKind.i64 ((8 : Int) * i2))))), Go.IntKind.wrap Go.IntKind.i64 (i2 + (1 : Int)))))) .bad) .bad) .bad) .bad) .bad) .bad) (.c (List.length l0 == List.length l0) (opt (Go.Proofs.Ytaejmfmamhdlhaa.g_slices_Concat_byte_byte [Go.Cx.AV.slice (1 : Nat) (Go.Cx.Sh.int Go.IntKind.u8) x0 Go.Cx.SK.ro, Go.Cx.AV.slice (1 : Nat) (Go.Cx.Sh.int Go.IntKind.u8) l0 Go.Cx.SK.ro]) fun (y0 : List Go.Cx.AV) => (.r (.inr (y0)))) .bad))
noncomputable def g_cursor_Put (x0 : List AV) (x1 : Int) (x2 : Int) : Option (List AV) := run (M_cursor_Put x0 x1 x2) (T_cursor_Put x0 x1 x2)
noncomputable def b_cursor_Put := Try.f41.body.getD .skip
noncomputable def st_cursor_Put_0 (x0 : List AV) (x1 : Int) (x2 : Int) (i0 : Int) (i1 : Int) (l0 : List AV) (i2 : Int) : St := ⟨[Go.Cx.AV.slice (1 : Nat) (Go.Cx.Sh.int Go.IntKind.u8) x0 Go.Cx.SK.ro, Go.Cx.AV.int Go.IntKind.u64 x1, Go.Cx.AV.int Go.IntKind.i64 i0, Go.Cx.AV.junk, Go.Cx.AV.junk, Go.Cx.AV.junk, Go.Cx.AV.junk, Go.Cx.AV.oslice (0 : Nat) (0 : Nat) (List.length l0), Go.Cx.AV.junk, Go.Cx.AV.junk, Go.Cx.AV.junk, Go.Cx.AV.junk, Go.Cx.AV.junk, Go.Cx.AV.junk, Go.Cx.AV.junk, Go.Cx.AV.int Go.IntKind.i64 i1, Go.Cx.AV.int Go.IntKind.i64 i2, Go.Cx.AV.junk, Go.Cx.AV.junk, Go.Cx.AV.junk, Go.Cx.AV.junk, Go.Cx.AV.junk, Go.Cx.AV.junk, Go.Cx.AV.junk, Go.Cx.AV.junk, Go.Cx.AV.junk, Go.Cx.AV.junk, Go.Cx.AV.junk, Go.Cx.AV.junk, Go.Cx.AV.junk, Go.Cx.AV.junk, Go.Cx.AV.junk, Go.Cx.AV.junk, Go.Cx.AV.junk, Go.Cx.AV.junk], [Go.Cx.Ob.grow (5 : Nat) (0 : Nat) (1 : Nat) (Go.Cx.Sh.int Go.IntKind.u8) l0]⟩
noncomputable def L_cursor_Put (x0 : List AV) (x1 : Int) (x2 : Int) (Rv : List AV → Prop) : Int × Int × List AV × Int → Prop
  | (i0, i1, l0, i2) => headL E_cursor_Put [.r, .r, .r, .l, .r, .d] b_cursor_Put 1 (bodyK E_cursor_Put Try.f41 (outP O_cursor_Put fun ls => Rv (tup_cursor_Put ls))) (st_cursor_Put_0 x0 x1 x2 i0 i1 l0 i2)
set_option maxRecDepth 100000 in
theorem l_cursor_Put_0 (x0 : List AV) (x1 : Int) (x2 : Int) (Rv : List AV → Prop) (i0 : Int) (i1 : Int) (l0 : List AV) (i2 : Int) : stepL E_cursor_Put [.r, .r, .r, .l, .r, .d] b_cursor_Put 1 (bodyK E_cursor_Put Try.f41 (outP O_cursor_Put fun ls => Rv (tup_cursor_Put ls))) (st_cursor_Put_0 x0 x1 x2 i0 i1 l0 i2) =
  (M_cursor_Put x0 x1 x2 ((i0, i1, l0, i2))).fold False (Sum.elim (L_cursor_Put x0 x1 x2 Rv) Rv) := by kernel_rfl
set_option maxRecDepth 100000 in
theorem e_cursor_Put_0 (x0 : List AV) (x1 : Int) (x2 : Int) (Rv : List AV → Prop) (i0 : Int) (i1 : Int) (l0 : List AV) (i2 : Int) : L_cursor_Put x0 x1 x2 Rv ((i0, i1, l0, i2)) = headL E_cursor_Put [.r, .r, .r, .l, .r, .d] b_cursor_Put 1 (bodyK E_cursor_Put Try.f41 (outP O_cursor_Put fun ls => Rv (tup_cursor_Put ls))) (st_cursor_Put_0 x0 x1 x2 i0 i1 l0 i2) := by kernel_rfl
section
attribute [local irreducible] Tr.fold M_cursor_Put L_cursor_Put T_cursor_Put E_cursor_Put b_cursor_Put bodyK headC headL stepC stepL wpX callA
set_option maxRecDepth 100000 in
theorem h_cursor_Put (x0 : List AV) (x1 : Int) (x2 : Int) (Rv : List AV → Prop) : ∀ s, (M_cursor_Put x0 x1 x2 s).fold False (Sum.elim (L_cursor_Put x0 x1 x2 Rv) Rv) → L_cursor_Put x0 x1 x2 Rv s := by
  rintro (⟨v0, v1, v2, v3⟩)
  · exact fun h => Eq.mpr (e_cursor_Put_0 x0 x1 x2 Rv v0 v1 v2 v3) (headL_of (Eq.mpr (l_cursor_Put_0 x0 x1 x2 Rv v0 v1 v2 v3) h))
set_option maxRecDepth 100000 in
theorem c_cursor_Put (ls : List AV) (Rv : List AV → Prop) : callA E_cursor_Put Try.f41 (instL ls P_cursor_Put 0) [] (outP O_cursor_Put fun ls => Rv (tup_cursor_Put ls)) = (T_cursor_Put (getXs (ls.getD 0 .junk)) (getI (ls.getD 1 .junk)) (getI (ls.getD 2 .junk))).fold False (Sum.elim (L_cursor_Put (getXs (ls.getD 0 .junk)) (getI (ls.getD 1 .junk)) (getI (ls.getD 2 .junk)) Rv) Rv) := by kernel_rfl
end
noncomputable def S_cursor_Put : Go.Cx.Spec := pureS (patF P_cursor_Put fun ls => opt (g_cursor_Put (getXs (ls.getD 0 .junk)) (getI (ls.getD 1 .junk)) (getI (ls.getD 2 .junk))) fun x => .r (res_cursor_Put x))
set_option maxRecDepth 100000 in
theorem S_cursor_Put_ok : Sound Try.prog 41 S_cursor_Put :=
  pure_mach (E := E_cursor_Put) (TblOK.enK TYbG813t_ok _ _ _ _ _) mixed rfl Try.func41 (c := Try.f41.body.getD .skip) (by kernel_rfl) (by kernel_rfl) (pats := P_cursor_Put) (O := O_cursor_Put) (tup := tup_cursor_Put) (res := res_cursor_Put) (g := fun ls => g_cursor_Put (getXs (ls.getD 0 .junk)) (getI (ls.getD 1 .junk)) (getI (ls.getD 2 .junk))) (T := fun ls => T_cursor_Put (getXs (ls.getD 0 .junk)) (getI (ls.getD 1 .junk)) (getI (ls.getD 2 .junk))) (step := fun ls => M_cursor_Put (getXs (ls.getD 0 .junk)) (getI (ls.getD 1 .junk)) (getI (ls.getD 2 .junk))) (L := fun ls => L_cursor_Put (getXs (ls.getD 0 .junk)) (getI (ls.getD 1 .junk)) (getI (ls.getD 2 .junk))) (fun _ => rfl) (fun ls => by kernel_rfl) c_cursor_Put (fun ls Rv => h_cursor_Put (getXs (ls.getD 0 .junk)) (getI (ls.getD 1 .junk)) (getI (ls.getD 2 .junk)) Rv)

noncomputable def TYbG814t : FuncId → Option Go.Cx.Spec := addT TYbG813t 41 S_cursor_Put
theorem TYbG814t_ok : TblOK Try.prog TYbG814t := TYbG813t_ok.add S_cursor_Put_ok

/- comptoir/link.Frame -/
noncomputable def E_link_Frame : En := enK Try.prog TYbG814t [1000016] [] [] [] 0
def P_link_Frame : List Pat := [.leaf (.slice 1 (.int .u8))]
def O_link_Frame : Pat := .tuple [.leaf (.slice 1 (.int .u8)), .leaf (.int .i64)]
def tup_link_Frame : List AV → List AV × Int := fun ls => (getXs (ls.getD 0 .junk), getI (ls.getD 1 .junk))
def res_link_Frame : List AV × Int → AV := fun x => .tuple [.slice 1 (.int .u8) (x.1) .ro, .int .i64 (x.2)]
noncomputable def T_link_Frame (x0 : List AV) : Tr (List AV × Int) := (.c ((↑(List.length x0) : Int) == (0 : Int)) (.r (([], (1 : Int)))) (.c (Decidable.decide ((↑(List.length x0) : Int) > (4096 : Int))) (.r (([], (4 : Int)))) (opt (Go.Proofs.Ytaejmfmamhdlhaa.g_cursor_Put [] (Go.IntKind.wrap Go.IntKind.u64 (↑(List.length x0) : Int)) (2 : Int)) fun (y0 : List Go.Cx.AV) => (opt (Go.Proofs.Ytaejmfmamhdlhaa.g_slices_Concat_byte_byte [Go.Cx.AV.slice (1 : Nat) (Go.Cx.Sh.int Go.IntKind.u8) y0 Go.Cx.SK.ro, Go.Cx.AV.slice (1 : Nat) (Go.Cx.Sh.int Go.IntKind.u8) x0 Go.Cx.SK.ro]) fun (y1 : List Go.Cx.AV) => (.r ((y1, (0 : Int))))))))
noncomputable def g_link_Frame (x0 : List AV) : Option (List AV × Int) := (T_link_Frame x0).val
set_option maxRecDepth 100000 in
theorem c_link_Frame (ls : List AV) (Rv : List AV × Int → Prop) : callA E_link_Frame Try.f25 (instL ls P_link_Frame 0) [] (outP O_link_Frame fun ls => Rv (tup_link_Frame ls)) = (T_link_Frame (getXs (ls.getD 0 .junk))).fold False Rv := by kernel_rfl
noncomputable def S_link_Frame : Go.Cx.Spec := pureS (patF P_link_Frame fun ls => opt (g_link_Frame (getXs (ls.getD 0 .junk))) fun x => .r (res_link_Frame x))
set_option maxRecDepth 100000 in
theorem S_link_Frame_ok : Sound Try.prog 25 S_link_Frame :=
  pure_flat (E := E_link_Frame) (TblOK.enK TYbG814t_ok _ _ _ _ _) mixed rfl Try.func25 (c := Try.f25.body.getD .skip) (by kernel_rfl) (by kernel_rfl) (pats := P_link_Frame) (O := O_link_Frame) (tup := tup_link_Frame) (res := res_link_Frame) (g := fun ls => g_link_Frame (getXs (ls.getD 0 .junk))) (T := fun ls => T_link_Frame (getXs (ls.getD 0 .junk))) (fun _ => rfl) (fun ls => by kernel_rfl) c_link_Frame

noncomputable def TYbG815t : FuncId → Option Go.Cx.Spec := addT TYbG814t 25 S_link_Frame
theorem TYbG815t_ok : TblOK Try.prog TYbG815t := TYbG814t_ok.add S_link_Frame_ok

/- comptoir/comptoirhelp.Bytes -/
noncomputable def E_comptoirhelp_Bytes : En := enK Try.prog TYbG815t [] [] [] [] 0
def P_comptoirhelp_Bytes : List Pat := [.leaf (.slice 1 (.int .u8)), .leaf (.slice 1 (.int .u8))]
def O_comptoirhelp_Bytes : Pat := .leaf .bool
def tup_comptoirhelp_Bytes : List AV → Bool := fun ls => getB (ls.getD 0 .junk)
def res_comptoirhelp_Bytes : Bool → AV := fun x => .bool (x)
noncomputable def T_comptoirhelp_Bytes (x0 : List AV) (x1 : List AV) : Tr (Bool) := (.r (Go.Cx.bytesOf x0 == Go.Cx.bytesOf x1))
noncomputable def g_comptoirhelp_Bytes (x0 : List AV) (x1 : List AV) : Option (Bool) := (T_comptoirhelp_Bytes x0 x1).val
set_option maxRecDepth 100000 in
theorem c_comptoirhelp_Bytes (ls : List AV) (Rv : Bool → Prop) : callA E_comptoirhelp_Bytes Try.f19 (instL ls P_comptoirhelp_Bytes 0) [] (outP O_comptoirhelp_Bytes fun ls => Rv (tup_comptoirhelp_Bytes ls)) = (T_comptoirhelp_Bytes (getXs (ls.getD 0 .junk)) (getXs (ls.getD 1 .junk))).fold False Rv := by kernel_rfl
noncomputable def S_comptoirhelp_Bytes : Go.Cx.Spec := pureS (patF P_comptoirhelp_Bytes fun ls => opt (g_comptoirhelp_Bytes (getXs (ls.getD 0 .junk)) (getXs (ls.getD 1 .junk))) fun x => .r (res_comptoirhelp_Bytes x))
set_option maxRecDepth 100000 in
theorem S_comptoirhelp_Bytes_ok : Sound Try.prog 19 S_comptoirhelp_Bytes :=
  pure_flat (E := E_comptoirhelp_Bytes) (TblOK.enK TYbG815t_ok _ _ _ _ _) mixed rfl Try.func19 (c := Try.f19.body.getD .skip) (by kernel_rfl) (by kernel_rfl) (pats := P_comptoirhelp_Bytes) (O := O_comptoirhelp_Bytes) (tup := tup_comptoirhelp_Bytes) (res := res_comptoirhelp_Bytes) (g := fun ls => g_comptoirhelp_Bytes (getXs (ls.getD 0 .junk)) (getXs (ls.getD 1 .junk))) (T := fun ls => T_comptoirhelp_Bytes (getXs (ls.getD 0 .junk)) (getXs (ls.getD 1 .junk))) (fun _ => rfl) (fun ls => by kernel_rfl) c_comptoirhelp_Bytes

noncomputable def TYbG816t : FuncId → Option Go.Cx.Spec := addT TYbG815t 19 S_comptoirhelp_Bytes
theorem TYbG816t_ok : TblOK Try.prog TYbG816t := TYbG815t_ok.add S_comptoirhelp_Bytes_ok

/- comptoir/comptoirlaw06.awake -/
noncomputable def E_comptoirlaw06_awake : En := enK Try.prog TYbG816t [] [] [] [] 0
def P_comptoirlaw06_awake : List Pat := []
def O_comptoirlaw06_awake : Pat := .leaf .bool
def tup_comptoirlaw06_awake : List AV → Bool := fun ls => getB (ls.getD 0 .junk)
def res_comptoirlaw06_awake : Bool → AV := fun x => .bool (x)
noncomputable def T_comptoirlaw06_awake : Tr (Bool) := (opt (Go.Proofs.Ytaejmfmamhdlhaa.g_link_Link_Feed_p0500 [Go.Cx.AV.int Go.IntKind.u8 (0 : Int), Go.Cx.AV.int Go.IntKind.u8 (1 : Int), Go.Cx.AV.int Go.IntKind.u8 (7 : Int)] [] Bool.false) fun (y0 : List Go.Cx.AV × Int × List Go.Cx.AV × Bool) => (opt (Go.Proofs.Ytaejmfmamhdlhaa.g_link_Frame [Go.Cx.AV.int Go.IntKind.u8 (7 : Int)]) fun (y1 : List Go.Cx.AV × Int) => (.c (Prod.fst (Prod.snd y0) == (0 : Int)) (.c ((↑(List.length (Prod.fst y0)) : Int) == (1 : Int)) (.c (Decidable.decide ((0 : Int) < (↑(List.length (Prod.fst y0)) : Int))) (.c (Go.Cx.bytesOf (Go.Cx.getXs (List.getD (Prod.fst y0) (0 : Nat) (Go.Cx.AV.slice (1 : Nat) (Go.Cx.Sh.int Go.IntKind.u8) [] Go.Cx.SK.ro))) == [(7 : UInt8)]) (.c (Prod.snd y1 == (0 : Int)) (.r (Go.Cx.bytesOf (Prod.fst y1) == [(0 : UInt8), (1 : UInt8), (7 : UInt8)])) (.r (Bool.false))) (.r (Bool.false))) .bad) (.r (Bool.false))) (.r (Bool.false)))))
noncomputable def g_comptoirlaw06_awake : Option (Bool) := (T_comptoirlaw06_awake).val
set_option maxRecDepth 100000 in
theorem c_comptoirlaw06_awake (ls : List AV) (Rv : Bool → Prop) : callA E_comptoirlaw06_awake Try.f24 (instL ls P_comptoirlaw06_awake 0) [] (outP O_comptoirlaw06_awake fun ls => Rv (tup_comptoirlaw06_awake ls)) = (T_comptoirlaw06_awake).fold False Rv := by kernel_rfl
noncomputable def S_comptoirlaw06_awake : Go.Cx.Spec := pureS (patF P_comptoirlaw06_awake fun ls => opt (g_comptoirlaw06_awake) fun x => .r (res_comptoirlaw06_awake x))
set_option maxRecDepth 100000 in
theorem S_comptoirlaw06_awake_ok : Sound Try.prog 24 S_comptoirlaw06_awake :=
  pure_flat (E := E_comptoirlaw06_awake) (TblOK.enK TYbG816t_ok _ _ _ _ _) mixed rfl Try.func24 (c := Try.f24.body.getD .skip) (by kernel_rfl) (by kernel_rfl) (pats := P_comptoirlaw06_awake) (O := O_comptoirlaw06_awake) (tup := tup_comptoirlaw06_awake) (res := res_comptoirlaw06_awake) (g := fun ls => g_comptoirlaw06_awake) (T := fun ls => T_comptoirlaw06_awake) (fun _ => rfl) (fun ls => by kernel_rfl) c_comptoirlaw06_awake

noncomputable def TYbG817t : FuncId → Option Go.Cx.Spec := addT TYbG816t 24 S_comptoirlaw06_awake
theorem TYbG817t_ok : TblOK Try.prog TYbG817t := TYbG816t_ok.add S_comptoirlaw06_awake_ok

/- (*comptoir/link.Link).Feed -/
noncomputable def E_link_Link_Feed_n0 : En := enK Try.prog TYbG817t [1000019] [] [] [] 0
def P_link_Link_Feed_n0 : List Pat := [.lit .nilptr, .leaf (.slice 1 (.int .u8))]
def O_link_Link_Feed_n0 : Pat := .tuple [.leaf (.slice 1 (.slice 1 (.int .u8))), .leaf (.int .i64)]
def tup_link_Link_Feed_n0 : List AV → List AV × Int := fun ls => (getXs (ls.getD 0 .junk), getI (ls.getD 1 .junk))
def res_link_Link_Feed_n0 : List AV × Int → AV := fun x => .tuple [.slice 1 (.slice 1 (.int .u8)) (x.1) .ro, .int .i64 (x.2)]
noncomputable def T_link_Link_Feed_n0 (x0 : List AV) : Tr (List AV × Int) := (.r (([], (2 : Int))))
noncomputable def g_link_Link_Feed_n0 (x0 : List AV) : Option (List AV × Int) := (T_link_Link_Feed_n0 x0).val
set_option maxRecDepth 100000 in
theorem c_link_Link_Feed_n0 (ls : List AV) (Rv : List AV × Int → Prop) : callA E_link_Link_Feed_n0 Try.f27 (instL ls P_link_Link_Feed_n0 0) [] (outP O_link_Link_Feed_n0 fun ls => Rv (tup_link_Link_Feed_n0 ls)) = (T_link_Link_Feed_n0 (getXs (ls.getD 0 .junk))).fold False Rv := by kernel_rfl
noncomputable def S_link_Link_Feed_n0 : Go.Cx.Spec := pureS (patF P_link_Link_Feed_n0 fun ls => opt (g_link_Link_Feed_n0 (getXs (ls.getD 0 .junk))) fun x => .r (res_link_Link_Feed_n0 x))
set_option maxRecDepth 100000 in
theorem S_link_Link_Feed_n0_ok : Sound Try.prog 27 S_link_Link_Feed_n0 :=
  pure_flat (E := E_link_Link_Feed_n0) (TblOK.enK TYbG817t_ok _ _ _ _ _) mixed rfl Try.func27 (c := Try.f27.body.getD .skip) (by kernel_rfl) (by kernel_rfl) (pats := P_link_Link_Feed_n0) (O := O_link_Link_Feed_n0) (tup := tup_link_Link_Feed_n0) (res := res_link_Link_Feed_n0) (g := fun ls => g_link_Link_Feed_n0 (getXs (ls.getD 0 .junk))) (T := fun ls => T_link_Link_Feed_n0 (getXs (ls.getD 0 .junk))) (fun _ => rfl) (fun ls => by kernel_rfl) c_link_Link_Feed_n0

noncomputable def TYbG818t : FuncId → Option Go.Cx.Spec := addT TYbG817t 27 (orS (tagsB [1, 0]) S_link_Link_Feed_n0 S_link_Link_Feed_p0500)
theorem TYbG818t_ok : TblOK Try.prog TYbG818t := TYbG817t_ok.add (Sound.or _ S_link_Link_Feed_n0_ok S_link_Link_Feed_p0500_ok)

/- comptoir/comptoirlaw06.LinkDead -/
noncomputable def E_comptoirlaw06_LinkDead : En := enK Try.prog (addT TYbG818t 25 (frzAr S_link_Frame)) [] [(6, ⟨[2, 3, 4, 7, 8, 9, 10, 11, 12, 13, 14, 15, 16, 17, 18, 19, 20, 21, 22, 23, 24, 25, 26, 27, 28, 29, 30, 31, 32, 33, 34, 35, 36, 37, 38, 39, 40, 42, 43, 44, 45, 46, 47, 48, 49, 50, 51, 52, 53, 54, 55, 56, 57, 58, 59, 60, 61, 62, 63, 64, 65, 66, 67, 68, 69, 70, 71, 72, 73, 74, 75, 76, 77, 78, 79, 80, 81, 82, 83, 84, 85, 86, 87, 88, 89, 90, 91, 92, 93, 94, 95, 96, 97, 98, 99, 100, 101, 102, 103, 104, 105, 106, 107, 108, 109], [], [], some 1000, [], []⟩), (17, ⟨[0, 1, 2, 3, 4, 5, 6, 7, 9, 11, 13, 15, 17, 18, 21, 22, 23, 24, 25, 26, 27, 28, 29, 30, 31, 32, 33, 34, 35, 36, 37, 38, 39, 40, 41, 42, 43, 44, 45, 46, 47, 48, 49, 50, 51, 52, 53, 54, 55, 56, 57, 58, 59, 60, 61, 62, 63, 64, 65, 66, 67, 68, 69, 70, 71, 72, 73, 74, 75, 76, 77, 78, 79, 80, 81, 82, 83, 84, 85, 86, 87, 88, 89, 90, 91, 92, 93, 94, 95, 96, 97, 98, 99, 100, 101, 102, 103, 104, 105, 106, 107, 108, 109], [], [], some 1000, [], []⟩)] [] [] 0
def P_comptoirlaw06_LinkDead : List Pat := [.leaf (.int .i64), .leaf (.slice 1 (.int .u8))]
def O_comptoirlaw06_LinkDead : Pat := .leaf .bool
def tup_comptoirlaw06_LinkDead : List AV → Bool := fun ls => getB (ls.getD 0 .junk)
def res_comptoirlaw06_LinkDead : Bool → AV := fun x => .bool (x)
noncomputable def T_comptoirlaw06_LinkDead (x0 : Int) (x1 : List AV) : Tr (((Int × Bool) ⊕ (Int × Int × Int × Int × List AV × Bool × List AV × Bool × Int)) ⊕ (Bool)) := (.c (Decidable.decide ((↑(List.length x1) : Int) > (100 : Int))) (opt (Go.Proofs.Ytaejmfmamhdlhaa.g_comptoirlaw06_awake) fun (y0 : Bool) => (.r (.inr (y0)))) (opt (Go.Proofs.Ytaejmfmamhdlhaa.g_comptoirlaw06_awake) fun (y0 : Bool) => (.c (!y0) (.r (.inl (.inl ((Go.IntKind.wrap Go.IntKind.i64 ((4094 : Int) + Go.IntKind.wrap Go.IntKind.i64 (Int.tmod (Go.IntKind.wrap Go.IntKind.u64 x0) (5 : Int))), Bool.true))))) (.r (.inl (.inl ((Go.IntKind.wrap Go.IntKind.i64 ((4094 : Int) + Go.IntKind.wrap Go.IntKind.i64 (Int.tmod (Go.IntKind.wrap Go.IntKind.u64 x0) (5 : Int))), Bool.false))))))))
noncomputable def M_comptoirlaw06_LinkDead (x0 : Int) (x1 : List AV) : (Int × Bool) ⊕ (Int × Int × Int × Int × List AV × Bool × List AV × Bool × Int) → Tr (((Int × Bool) ⊕ (Int × Int × Int × Int × List AV × Bool × List AV × Bool × Int)) ⊕ (Bool))
  | .inl ((i0, b0)) => (.c (b0) (.r (.inr (Bool.false))) (opt (Go.Proofs.Ytaejmfmamhdlhaa.g_link_Link_Feed_p0500 [Go.Cx.AV.int Go.IntKind.u8 (Go.IntKind.wrap Go.IntKind.u8 (Go.Cx.shrA Go.IntKind.i64 i0 (8 : Int))), Go.Cx.AV.int Go.IntKind.u8 (Go.IntKind.wrap Go.IntKind.u8 i0)] [] Bool.false) fun (y0 : List Go.Cx.AV × Int × List Go.Cx.AV × Bool) => (opt (Go.Proofs.Ytaejmfmamhdlhaa.g_link_Link_Feed_p0500 x1 (Prod.fst (Prod.snd (Prod.snd y0))) (Prod.snd (Prod.snd (Prod.snd y0)))) fun (y1 : List Go.Cx.AV × Int × List Go.Cx.AV × Bool) => (opt (Go.Proofs.Ytaejmfmamhdlhaa.g_link_Link_Feed_p0500 [Go.Cx.AV.int Go.IntKind.u8 (0 : Int), Go.Cx.AV.int Go.IntKind.u8 (0 : Int), Go.Cx.AV.int Go.IntKind.u8 (1 : Int)] [] Bool.false) fun (y2 : List Go.Cx.AV × Int × List Go.Cx.AV × Bool) => (opt (Go.Proofs.Ytaejmfmamhdlhaa.g_link_Link_Feed_p0500 x1 (Prod.fst (Prod.snd (Prod.snd y2))) (Prod.snd (Prod.snd (Prod.snd y2)))) fun (y3 : List Go.Cx.AV × Int × List Go.Cx.AV × Bool) => (.c (Decidable.decide ((0 : Int) ≤ i0)) (.c (i0 == i0) (.c (Decidable.decide (List.length (List.replicate (Int.toNat i0) (Go.Cx.AV.int Go.IntKind.u8 (0 : Int))) * (2 : Nat) < (70368744177664 : Nat))) (.c (Bool.true && List.length (List.replicate (Int.toNat i0) (Go.Cx.AV.int Go.IntKind.u8 (0 : Int))) == List.length (List.replicate (Int.toNat i0) (Go.Cx.AV.int Go.IntKind.u8 (0 : Int)))) (opt (Go.Proofs.Ytaejmfmamhdlhaa.g_link_Frame (List.replicate (Int.toNat i0) (Go.Cx.AV.int Go.IntKind.u8 (0 : Int)))) fun (y4 : List Go.Cx.AV × Int) => (.c (Decidable.decide (i0 > (4096 : Int))) (.r (.inl (.inr ((Prod.fst (Prod.snd y0), Prod.fst (Prod.snd y1), Prod.fst (Prod.snd y3), Prod.snd y4, Prod.fst (Prod.snd (Prod.snd y1)), Prod.snd (Prod.snd (Prod.snd y1)), Prod.fst (Prod.snd (Prod.snd y3)), Prod.snd (Prod.snd (Prod.snd y3)), (4 : Int)))))) (.r (.inl (.inr ((Prod.fst (Prod.snd y0), Prod.fst (Prod.snd y1), Prod.fst (Prod.snd y3), Prod.snd y4, Prod.fst (Prod.snd (Prod.snd y1)), Prod.snd (Prod.snd (Prod.snd y1)), Prod.fst (Prod.snd (Prod.snd y3)), Prod.snd (Prod.snd (Prod.snd y3)), (0 : Int)))))))) .bad) .bad) .bad) .bad))))))
  | .inr ((i1, i2, i3, i4, l0, b1, l1, b2, i5)) => (.c (i1 == i5) (.c (i2 == i5) (.c (Prod.fst (Prod.snd (Option.getD (Go.Proofs.Ytaejmfmamhdlhaa.g_link_Link_Feed_p0500 [Go.Cx.AV.int Go.IntKind.u8 (0 : Int), Go.Cx.AV.int Go.IntKind.u8 (0 : Int), Go.Cx.AV.int Go.IntKind.u8 (1 : Int)] [] Bool.false) Inhabited.default)) == (4 : Int)) (.c (i3 == (4 : Int)) (.c (i4 == i5) (.r (.inr (Bool.true))) (.r (.inr (Bool.false)))) (.r (.inr (Bool.false)))) (.r (.inr (Bool.false)))) (.r (.inr (Bool.false)))) (.r (.inr (Bool.false))))
noncomputable def g_comptoirlaw06_LinkDead (x0 : Int) (x1 : List AV) : Option (Bool) := run (M_comptoirlaw06_LinkDead x0 x1) (T_comptoirlaw06_LinkDead x0 x1)
noncomputable def b_comptoirlaw06_LinkDead := Try.f8.body.getD .skip
noncomputable def st_comptoirlaw06_LinkDead_0 (x0 : Int) (x1 : List AV) (i0 : Int) (b0 : Bool) : St := ⟨frOf 0 110 [(0, Go.Cx.AV.int Go.IntKind.i64 i0), (1, Go.Cx.AV.slice (1 : Nat) (Go.Cx.Sh.int Go.IntKind.u8) x1 Go.Cx.SK.ro), (5, Go.Cx.AV.ptr (0 : Nat) (0 : Nat)), (6, Go.Cx.AV.ptr (1 : Nat) (0 : Nat)), (41, Go.Cx.AV.bool b0)], [Go.Cx.Ob.fix (68 : Nat) [Go.Cx.AV.slice (1 : Nat) (Go.Cx.Sh.int Go.IntKind.u8) [] Go.Cx.SK.ro, Go.Cx.AV.bool Bool.false], Go.Cx.Ob.fix (68 : Nat) [Go.Cx.AV.slice (1 : Nat) (Go.Cx.Sh.int Go.IntKind.u8) [] Go.Cx.SK.ro, Go.Cx.AV.bool Bool.false]]⟩
noncomputable def st_comptoirlaw06_LinkDead_1 (x0 : Int) (x1 : List AV) (i1 : Int) (i2 : Int) (i3 : Int) (i4 : Int) (l0 : List AV) (b1 : Bool) (l1 : List AV) (b2 : Bool) (i5 : Int) : St := ⟨frOf 0 110 [(8, Go.Cx.AV.int Go.IntKind.i64 i1), (10, Go.Cx.AV.int Go.IntKind.i64 i2), (12, Go.Cx.AV.int Go.IntKind.i64 (Prod.fst (Prod.snd (Option.getD (Go.Proofs.Ytaejmfmamhdlhaa.g_link_Link_Feed_p0500 [Go.Cx.AV.int Go.IntKind.u8 (0 : Int), Go.Cx.AV.int Go.IntKind.u8 (0 : Int), Go.Cx.AV.int Go.IntKind.u8 (1 : Int)] [] Bool.false) Inhabited.default)))), (14, Go.Cx.AV.int Go.IntKind.i64 i3), (16, Go.Cx.AV.int Go.IntKind.i64 i4), (19, Go.Cx.AV.int Go.IntKind.i64 (2 : Int)), (20, Go.Cx.AV.int Go.IntKind.i64 i5)], [Go.Cx.Ob.fix (68 : Nat) [Go.Cx.AV.slice (1 : Nat) (Go.Cx.Sh.int Go.IntKind.u8) l0 Go.Cx.SK.ro, Go.Cx.AV.bool b1], Go.Cx.Ob.fix (68 : Nat) [Go.Cx.AV.slice (1 : Nat) (Go.Cx.Sh.int Go.IntKind.u8) l1 Go.Cx.SK.ro, Go.Cx.AV.bool b2], Go.Cx.Ob.dead]⟩
noncomputable def L_comptoirlaw06_LinkDead (x0 : Int) (x1 : List AV) (Rv : Bool → Prop) : (Int × Bool) ⊕ (Int × Int × Int × Int × List AV × Bool × List AV × Bool × Int) → Prop
  | .inl ((i0, b0)) => headC E_comptoirlaw06_LinkDead [.r, .r, .r, .r, .l, .r] b_comptoirlaw06_LinkDead (bodyK E_comptoirlaw06_LinkDead Try.f8 (outP O_comptoirlaw06_LinkDead fun ls => Rv (tup_comptoirlaw06_LinkDead ls))) (st_comptoirlaw06_LinkDead_0 x0 x1 i0 b0)
  | .inr ((i1, i2, i3, i4, l0, b1, l1, b2, i5)) => headC E_comptoirlaw06_LinkDead [.r, .r, .r, .r, .r, .r, .r, .r, .r, .r, .r, .r, .r, .r] b_comptoirlaw06_LinkDead (bodyK E_comptoirlaw06_LinkDead Try.f8 (outP O_comptoirlaw06_LinkDead fun ls => Rv (tup_comptoirlaw06_LinkDead ls))) (st_comptoirlaw06_LinkDead_1 x0 x1 i1 i2 i3 i4 l0 b1 l1 b2 i5)
set_option maxRecDepth 100000 in
theorem l_comptoirlaw06_LinkDead_0 (x0 : Int) (x1 : List AV) (Rv : Bool → Prop) (i0 : Int) (b0 : Bool) : stepC E_comptoirlaw06_LinkDead [.r, .r, .r, .r, .l, .r] b_comptoirlaw06_LinkDead (bodyK E_comptoirlaw06_LinkDead Try.f8 (outP O_comptoirlaw06_LinkDead fun ls => Rv (tup_comptoirlaw06_LinkDead ls))) (st_comptoirlaw06_LinkDead_0 x0 x1 i0 b0) =
  (M_comptoirlaw06_LinkDead x0 x1 (.inl ((i0, b0)))).fold False (Sum.elim (L_comptoirlaw06_LinkDead x0 x1 Rv) Rv) := by kernel_rfl
set_option maxRecDepth 100000 in
theorem l_comptoirlaw06_LinkDead_1 (x0 : Int) (x1 : List AV) (Rv : Bool → Prop) (i1 : Int) (i2 : Int) (i3 : Int) (i4 : Int) (l0 : List AV) (b1 : Bool) (l1 : List AV) (b2 : Bool) (i5 : Int) : stepC E_comptoirlaw06_LinkDead [.r, .r, .r, .r, .r, .r, .r, .r, .r, .r, .r, .r, .r, .r] b_comptoirlaw06_LinkDead (bodyK E_comptoirlaw06_LinkDead Try.f8 (outP O_comptoirlaw06_LinkDead fun ls => Rv (tup_comptoirlaw06_LinkDead ls))) (st_comptoirlaw06_LinkDead_1 x0 x1 i1 i2 i3 i4 l0 b1 l1 b2 i5) =
  (M_comptoirlaw06_LinkDead x0 x1 (.inr ((i1, i2, i3, i4, l0, b1, l1, b2, i5)))).fold False (Sum.elim (L_comptoirlaw06_LinkDead x0 x1 Rv) Rv) := by kernel_rfl
set_option maxRecDepth 100000 in
theorem e_comptoirlaw06_LinkDead_0 (x0 : Int) (x1 : List AV) (Rv : Bool → Prop) (i0 : Int) (b0 : Bool) : L_comptoirlaw06_LinkDead x0 x1 Rv (.inl ((i0, b0))) = headC E_comptoirlaw06_LinkDead [.r, .r, .r, .r, .l, .r] b_comptoirlaw06_LinkDead (bodyK E_comptoirlaw06_LinkDead Try.f8 (outP O_comptoirlaw06_LinkDead fun ls => Rv (tup_comptoirlaw06_LinkDead ls))) (st_comptoirlaw06_LinkDead_0 x0 x1 i0 b0) := by kernel_rfl
set_option maxRecDepth 100000 in
theorem e_comptoirlaw06_LinkDead_1 (x0 : Int) (x1 : List AV) (Rv : Bool → Prop) (i1 : Int) (i2 : Int) (i3 : Int) (i4 : Int) (l0 : List AV) (b1 : Bool) (l1 : List AV) (b2 : Bool) (i5 : Int) : L_comptoirlaw06_LinkDead x0 x1 Rv (.inr ((i1, i2, i3, i4, l0, b1, l1, b2, i5))) = headC E_comptoirlaw06_LinkDead [.r, .r, .r, .r, .r, .r, .r, .r, .r, .r, .r, .r, .r, .r] b_comptoirlaw06_LinkDead (bodyK E_comptoirlaw06_LinkDead Try.f8 (outP O_comptoirlaw06_LinkDead fun ls => Rv (tup_comptoirlaw06_LinkDead ls))) (st_comptoirlaw06_LinkDead_1 x0 x1 i1 i2 i3 i4 l0 b1 l1 b2 i5) := by kernel_rfl
section
attribute [local irreducible] Tr.fold M_comptoirlaw06_LinkDead L_comptoirlaw06_LinkDead T_comptoirlaw06_LinkDead E_comptoirlaw06_LinkDead b_comptoirlaw06_LinkDead bodyK headC headL stepC stepL wpX callA
set_option maxRecDepth 100000 in
theorem h_comptoirlaw06_LinkDead (x0 : Int) (x1 : List AV) (Rv : Bool → Prop) : ∀ s, (M_comptoirlaw06_LinkDead x0 x1 s).fold False (Sum.elim (L_comptoirlaw06_LinkDead x0 x1 Rv) Rv) → L_comptoirlaw06_LinkDead x0 x1 Rv s := by
  rintro (⟨v0, v1⟩ | ⟨v0, v1, v2, v3, v4, v5, v6, v7, v8⟩)
  · exact fun h => Eq.mpr (e_comptoirlaw06_LinkDead_0 x0 x1 Rv v0 v1) (headC_of (Eq.mpr (l_comptoirlaw06_LinkDead_0 x0 x1 Rv v0 v1) h))
  · exact fun h => Eq.mpr (e_comptoirlaw06_LinkDead_1 x0 x1 Rv v0 v1 v2 v3 v4 v5 v6 v7 v8) (headC_of (Eq.mpr (l_comptoirlaw06_LinkDead_1 x0 x1 Rv v0 v1 v2 v3 v4 v5 v6 v7 v8) h))
set_option maxRecDepth 100000 in
theorem c_comptoirlaw06_LinkDead (ls : List AV) (Rv : Bool → Prop) : callA E_comptoirlaw06_LinkDead Try.f8 (instL ls P_comptoirlaw06_LinkDead 0) [] (outP O_comptoirlaw06_LinkDead fun ls => Rv (tup_comptoirlaw06_LinkDead ls)) = (T_comptoirlaw06_LinkDead (getI (ls.getD 0 .junk)) (getXs (ls.getD 1 .junk))).fold False (Sum.elim (L_comptoirlaw06_LinkDead (getI (ls.getD 0 .junk)) (getXs (ls.getD 1 .junk)) Rv) Rv) := by kernel_rfl
end
theorem eok_comptoirlaw06_LinkDead : EnOK E_comptoirlaw06_LinkDead := TblOK.enK (TblOK.add TYbG818t_ok (Sound.frzAr S_link_Frame_ok)) _ _ _ _ _


end Go.Proofs.Ytaejmfmamhdlhaa
