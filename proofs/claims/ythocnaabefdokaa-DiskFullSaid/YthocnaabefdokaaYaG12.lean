/- Printed: what the functions that a statement reaches come to. -/
import Derived.Test.YthocnaabefdokaaYaB2
namespace Go.Proofs.Ythocnaabefdokaa
open Go.Cx Go.Cx.AV
set_option linter.unusedVariables false
/- comptoir/disk.New -/
noncomputable def E_disk_New : En := enK Try.prog T0t [] [] [] [] 1
def P_disk_New : List Pat := []
def Q_disk_New : List OPat := []
def O_disk_New : Pat := .lit (.ptr 0 0)
def OO_disk_New : List OPat := [.fix 83 [.leaf (.slice 1 (.int .u8)), .leaf (.slice 1 (.int .u8)), .leaf (.int .i64), .leaf .bool, .leaf .bool]]
def tup_disk_New : List AV → List AV × List AV × Int × Bool × Bool := fun ls => (getXs (ls.getD 0 .junk), getXs (ls.getD 1 .junk), getI (ls.getD 2 .junk), getB (ls.getD 3 .junk), getB (ls.getD 4 .junk))
def res_disk_New : List AV × List AV × Int × Bool × Bool → AV × List Ob := fun x => (.ptr 0 0, [.fix 83 [.slice 1 (.int .u8) (x.1) .ro, .slice 1 (.int .u8) (x.2.1) .ro, .int .i64 (x.2.2.1), .bool (x.2.2.2.1), .bool (x.2.2.2.2)]])
noncomputable def T_disk_New : Tr (List AV × List AV × Int × Bool × Bool) := (.r (([], [], (0 : Int), Bool.false, Bool.false)))
noncomputable def g_disk_New : Option (List AV × List AV × Int × Bool × Bool) := (T_disk_New).val
set_option maxRecDepth 100000 in
theorem c_disk_New (ls : List AV) (Rv : List AV × List AV × Int × Bool × Bool → Prop) : callA E_disk_New Try.f26 (instL ls P_disk_New 0) (instH ls Q_disk_New 0) (outH O_disk_New OO_disk_New fun ls => Rv (tup_disk_New ls)) = (T_disk_New).fold False Rv := by kernel_rfl
noncomputable def S_disk_New : Go.Cx.Spec := heapS (patH P_disk_New Q_disk_New fun ls => opt (g_disk_New) fun x => .r (res_disk_New x))
set_option maxRecDepth 100000 in
theorem S_disk_New_ok : Sound Try.prog 26 S_disk_New :=
  heap_flat (E := E_disk_New) (TblOK.enK T0t_ok _ _ _ _ _) mixed Try.func26 (c := Try.f26.body.getD .skip) (by kernel_rfl) (by kernel_rfl) (by decide) (pats := P_disk_New) (ops := Q_disk_New) (OO := OO_disk_New) (O := O_disk_New) (tup := tup_disk_New) (res := res_disk_New) (g := fun ls => g_disk_New) (T := fun ls => T_disk_New) (fun _ => rfl) (fun ls => by kernel_rfl) c_disk_New

noncomputable def TYaG121t : FuncId → Option Go.Cx.Spec := addT T0t 26 S_disk_New
theorem TYaG121t_ok : TblOK Try.prog TYaG121t := T0t_ok.add S_disk_New_ok

/- (*comptoir/disk.Disk).Tear -/
noncomputable def E_disk_Disk_Tear_p0500000 : En := enK Try.prog TYaG121t [] [] [] [] 1
def P_disk_Disk_Tear_p0500000 : List Pat := [.lit (.ptr 0 0), .leaf (.int .i64)]
def Q_disk_Disk_Tear_p0500000 : List OPat := [.fix 83 [.leaf (.slice 1 (.int .u8)), .leaf (.slice 1 (.int .u8)), .leaf (.int .i64), .leaf .bool, .leaf .bool]]
def O_disk_Disk_Tear_p0500000 : Pat := .tuple []
def OO_disk_Disk_Tear_p0500000 : List OPat := [.fix 83 [.leaf (.slice 1 (.int .u8)), .leaf (.slice 1 (.int .u8)), .leaf (.int .i64), .leaf .bool, .leaf .bool]]
def tup_disk_Disk_Tear_p0500000 : List AV → List AV × List AV × Int × Bool × Bool := fun ls => (getXs (ls.getD 0 .junk), getXs (ls.getD 1 .junk), getI (ls.getD 2 .junk), getB (ls.getD 3 .junk), getB (ls.getD 4 .junk))
def res_disk_Disk_Tear_p0500000 : List AV × List AV × Int × Bool × Bool → AV × List Ob := fun x => (.tuple [], [.fix 83 [.slice 1 (.int .u8) (x.1) .ro, .slice 1 (.int .u8) (x.2.1) .ro, .int .i64 (x.2.2.1), .bool (x.2.2.2.1), .bool (x.2.2.2.2)]])
noncomputable def T_disk_Disk_Tear_p0500000 (x0 : Int) (x1 : List AV) (x2 : List AV) (x3 : Int) (x4 : Bool) (x5 : Bool) : Tr (List AV × List AV × Int × Bool × Bool) := (.r ((x1, x2, if (0 : Int) > x0 then (0 : Int) else x0, Bool.true, x5)))
noncomputable def g_disk_Disk_Tear_p0500000 (x0 : Int) (x1 : List AV) (x2 : List AV) (x3 : Int) (x4 : Bool) (x5 : Bool) : Option (List AV × List AV × Int × Bool × Bool) := (T_disk_Disk_Tear_p0500000 x0 x1 x2 x3 x4 x5).val
set_option maxRecDepth 100000 in
theorem c_disk_Disk_Tear_p0500000 (ls : List AV) (Rv : List AV × List AV × Int × Bool × Bool → Prop) : callA E_disk_Disk_Tear_p0500000 Try.f39 (instL ls P_disk_Disk_Tear_p0500000 0) (instH ls Q_disk_Disk_Tear_p0500000 1) (outH O_disk_Disk_Tear_p0500000 OO_disk_Disk_Tear_p0500000 fun ls => Rv (tup_disk_Disk_Tear_p0500000 ls)) = (T_disk_Disk_Tear_p0500000 (getI (ls.getD 0 .junk)) (getXs (ls.getD 1 .junk)) (getXs (ls.getD 2 .junk)) (getI (ls.getD 3 .junk)) (getB (ls.getD 4 .junk)) (getB (ls.getD 5 .junk))).fold False Rv := by kernel_rfl
noncomputable def S_disk_Disk_Tear_p0500000 : Go.Cx.Spec := heapS (patH P_disk_Disk_Tear_p0500000 Q_disk_Disk_Tear_p0500000 fun ls => opt (g_disk_Disk_Tear_p0500000 (getI (ls.getD 0 .junk)) (getXs (ls.getD 1 .junk)) (getXs (ls.getD 2 .junk)) (getI (ls.getD 3 .junk)) (getB (ls.getD 4 .junk)) (getB (ls.getD 5 .junk))) fun x => .r (res_disk_Disk_Tear_p0500000 x))
set_option maxRecDepth 100000 in
theorem S_disk_Disk_Tear_p0500000_ok : Sound Try.prog 39 S_disk_Disk_Tear_p0500000 :=
  heap_flat (E := E_disk_Disk_Tear_p0500000) (TblOK.enK TYaG121t_ok _ _ _ _ _) mixed Try.func39 (c := Try.f39.body.getD .skip) (by kernel_rfl) (by kernel_rfl) (by decide) (pats := P_disk_Disk_Tear_p0500000) (ops := Q_disk_Disk_Tear_p0500000) (OO := OO_disk_Disk_Tear_p0500000) (O := O_disk_Disk_Tear_p0500000) (tup := tup_disk_Disk_Tear_p0500000) (res := res_disk_Disk_Tear_p0500000) (g := fun ls => g_disk_Disk_Tear_p0500000 (getI (ls.getD 0 .junk)) (getXs (ls.getD 1 .junk)) (getXs (ls.getD 2 .junk)) (getI (ls.getD 3 .junk)) (getB (ls.getD 4 .junk)) (getB (ls.getD 5 .junk))) (T := fun ls => T_disk_Disk_Tear_p0500000 (getI (ls.getD 0 .junk)) (getXs (ls.getD 1 .junk)) (getXs (ls.getD 2 .junk)) (getI (ls.getD 3 .junk)) (getB (ls.getD 4 .junk)) (getB (ls.getD 5 .junk))) (fun _ => rfl) (fun ls => by kernel_rfl) c_disk_Disk_Tear_p0500000

noncomputable def TYaG122t : FuncId → Option Go.Cx.Spec := addT TYaG121t 39 S_disk_Disk_Tear_p0500000
theorem TYaG122t_ok : TblOK Try.prog TYaG122t := TYaG121t_ok.add S_disk_Disk_Tear_p0500000_ok

/- (*comptoir/disk.Disk).may -/
noncomputable def E_disk_Disk_may_p0 : En := enK Try.prog TYaG122t [] [] [] [] 0
def P_disk_Disk_may_p0 : List Pat := [.rptr [.leaf (.slice 1 (.int .u8)), .leaf (.slice 1 (.int .u8)), .leaf (.int .i64), .leaf .bool, .leaf .bool], .leaf (.int .i64)]
def O_disk_Disk_may_p0 : Pat := .leaf (.int .i64)
def tup_disk_Disk_may_p0 : List AV → Int := fun ls => getI (ls.getD 0 .junk)
def res_disk_Disk_may_p0 : Int → AV := fun x => .int .i64 (x)
noncomputable def T_disk_Disk_may_p0 (x0 : List AV) (x1 : List AV) (x2 : Int) (x3 : Bool) (x4 : Bool) (x5 : Int) : Tr (Int) := (.c (Decidable.decide (x5 < (0 : Int))) (.r ((1 : Int))) (.c (Decidable.decide (x5 ≥ (2 : Int))) (.r ((1 : Int))) (.c (x4) (.r ((24 : Int))) (.r ((0 : Int))))))
noncomputable def g_disk_Disk_may_p0 (x0 : List AV) (x1 : List AV) (x2 : Int) (x3 : Bool) (x4 : Bool) (x5 : Int) : Option (Int) := (T_disk_Disk_may_p0 x0 x1 x2 x3 x4 x5).val
set_option maxRecDepth 100000 in
theorem c_disk_Disk_may_p0 (ls : List AV) (Rv : Int → Prop) : callA E_disk_Disk_may_p0 Try.f52 (instL ls P_disk_Disk_may_p0 0) [] (outP O_disk_Disk_may_p0 fun ls => Rv (tup_disk_Disk_may_p0 ls)) = (T_disk_Disk_may_p0 (getXs (ls.getD 0 .junk)) (getXs (ls.getD 1 .junk)) (getI (ls.getD 2 .junk)) (getB (ls.getD 3 .junk)) (getB (ls.getD 4 .junk)) (getI (ls.getD 5 .junk))).fold False Rv := by kernel_rfl
noncomputable def S_disk_Disk_may_p0 : Go.Cx.Spec := pureS (patF P_disk_Disk_may_p0 fun ls => opt (g_disk_Disk_may_p0 (getXs (ls.getD 0 .junk)) (getXs (ls.getD 1 .junk)) (getI (ls.getD 2 .junk)) (getB (ls.getD 3 .junk)) (getB (ls.getD 4 .junk)) (getI (ls.getD 5 .junk))) fun x => .r (res_disk_Disk_may_p0 x))
set_option maxRecDepth 100000 in
theorem S_disk_Disk_may_p0_ok : Sound Try.prog 52 S_disk_Disk_may_p0 :=
  pure_flat (E := E_disk_Disk_may_p0) (TblOK.enK TYaG122t_ok _ _ _ _ _) mixed rfl Try.func52 (c := Try.f52.body.getD .skip) (by kernel_rfl) (by kernel_rfl) (pats := P_disk_Disk_may_p0) (O := O_disk_Disk_may_p0) (tup := tup_disk_Disk_may_p0) (res := res_disk_Disk_may_p0) (g := fun ls => g_disk_Disk_may_p0 (getXs (ls.getD 0 .junk)) (getXs (ls.getD 1 .junk)) (getI (ls.getD 2 .junk)) (getB (ls.getD 3 .junk)) (getB (ls.getD 4 .junk)) (getI (ls.getD 5 .junk))) (T := fun ls => T_disk_Disk_may_p0 (getXs (ls.getD 0 .junk)) (getXs (ls.getD 1 .junk)) (getI (ls.getD 2 .junk)) (getB (ls.getD 3 .junk)) (getB (ls.getD 4 .junk)) (getI (ls.getD 5 .junk))) (fun _ => rfl) (fun ls => by kernel_rfl) c_disk_Disk_may_p0

noncomputable def TYaG123t : FuncId → Option Go.Cx.Spec := addT TYaG122t 52 S_disk_Disk_may_p0
theorem TYaG123t_ok : TblOK Try.prog TYaG123t := TYaG122t_ok.add S_disk_Disk_may_p0_ok

/- slices.Grow[[]byte,byte] -/
noncomputable def E_slices_Grow_byte_byte : En := enK Try.prog TYaG123t [25] [(3, ⟨[2, 3, 4, 5, 6, 7, 8, 9, 10, 11, 12, 13, 14, 15, 16, 17, 18, 19, 20, 21, 22, 23, 24, 25, 26], [], [], some 1000, [], []⟩), (6, ⟨[1, 2, 3, 4, 5, 6, 7, 8, 9, 10, 11, 12, 13, 14, 15, 16, 17, 18, 19, 20, 21, 22, 23, 24, 25, 26], [], [], some 1000, [], []⟩)] [(6, [(1000000, 5, (.int .u8))])] [] 1
def P_slices_Grow_byte_byte : List Pat := [.lit .nilsl, .leaf (.int .i64)]
def Q_slices_Grow_byte_byte : List OPat := []
def O_slices_Grow_byte_byte : Pat := .own 0 1 0
def OO_slices_Grow_byte_byte : List OPat := [.grow 5 1 1 (.int .u8)]
def tup_slices_Grow_byte_byte : List AV → List AV := fun ls => getXs (ls.getD 0 .junk)
def res_slices_Grow_byte_byte : List AV → AV × List Ob := fun x => (.oslice 0 1 (List.length (x)), [.grow 5 1 1 (.int .u8) (x)])
noncomputable def T_slices_Grow_byte_byte (x0 : Int) : Tr (((Unit) ⊕ (Unit)) ⊕ (List AV)) := (.c (Decidable.decide (x0 < (0 : Int))) .bad (.r (.inl (.inl (())))))
noncomputable def M_slices_Grow_byte_byte (x0 : Int) : (Unit) ⊕ (Unit) → Tr (((Unit) ⊕ (Unit)) ⊕ (List AV))
  | .inl (()) => (.c (Decidable.decide (Go.IntKind.wrap Go.IntKind.i64 (x0 - (0 : Int)) > (0 : Int))) (.c (Decidable.decide ((0 : Int) < Go.IntKind.wrap Go.IntKind.i64 (x0 - (0 : Int)))) (.c (Decidable.decide (List.length (List.replicate (Int.toNat (Go.IntKind.wrap Go.IntKind.i64 (x0 - (0 : Int)))) (Go.Cx.AV.int Go.IntKind.u8 (0 : Int))) * (2 : Nat) < (70368744177664 : Nat))) (.c (List.length (List.replicate (Int.toNat (Go.IntKind.wrap Go.IntKind.i64 (x0 - (0 : Int)))) (Go.Cx.AV.int Go.IntKind.u8 (0 : Int))) == List.length (List.replicate (Int.toNat (Go.IntKind.wrap Go.IntKind.i64 (x0 - (0 : Int)))) (Go.Cx.AV.int Go.IntKind.u8 (0 : Int)))) (.r (.inl (.inr (())))) .bad) .bad) .bad) (.r (.inl (.inr (())))))
  | .inr (()) => (.c ((0 : Nat) == List.length ([] : List AV)) (.r (.inr ([]))) .bad)
noncomputable def g_slices_Grow_byte_byte (x0 : Int) : Option (List AV) := run (M_slices_Grow_byte_byte x0) (T_slices_Grow_byte_byte x0)
noncomputable def b_slices_Grow_byte_byte := Try.f62.body.getD .skip
def st_slices_Grow_byte_byte_0 (x0 : Int) : St := ⟨[Go.Cx.AV.nilsl, Go.Cx.AV.int Go.IntKind.i64 x0, Go.Cx.AV.junk, Go.Cx.AV.junk, Go.Cx.AV.junk, Go.Cx.AV.junk, Go.Cx.AV.junk, Go.Cx.AV.junk, Go.Cx.AV.junk, Go.Cx.AV.junk, Go.Cx.AV.junk, Go.Cx.AV.junk, Go.Cx.AV.junk, Go.Cx.AV.junk, Go.Cx.AV.junk, Go.Cx.AV.junk, Go.Cx.AV.junk, Go.Cx.AV.junk, Go.Cx.AV.junk, Go.Cx.AV.junk, Go.Cx.AV.junk, Go.Cx.AV.junk, Go.Cx.AV.junk, Go.Cx.AV.junk, Go.Cx.AV.junk, Go.Cx.AV.junk, Go.Cx.AV.junk], []⟩
def st_slices_Grow_byte_byte_1 (x0 : Int) : St := ⟨[Go.Cx.AV.oslice (0 : Nat) (1 : Nat) (0 : Nat), Go.Cx.AV.junk, Go.Cx.AV.junk, Go.Cx.AV.junk, Go.Cx.AV.junk, Go.Cx.AV.junk, Go.Cx.AV.junk, Go.Cx.AV.junk, Go.Cx.AV.junk, Go.Cx.AV.junk, Go.Cx.AV.junk, Go.Cx.AV.junk, Go.Cx.AV.junk, Go.Cx.AV.junk, Go.Cx.AV.junk, Go.Cx.AV.junk, Go.Cx.AV.junk, Go.Cx.AV.junk, Go.Cx.AV.junk, Go.Cx.AV.junk, Go.Cx.AV.junk, Go.Cx.AV.junk, Go.Cx.AV.junk, Go.Cx.AV.junk, Go.Cx.AV.junk, Go.Cx.AV.junk, Go.Cx.AV.junk], [Go.Cx.Ob.grow (5 : Nat) (1 : Nat) (1 : Nat) (Go.Cx.Sh.int Go.IntKind.u8) []]⟩
noncomputable def L_slices_Grow_byte_byte (x0 : Int) (Rv : List AV → Prop) : (Unit) ⊕ (Unit) → Prop
  | .inl (()) => headC E_slices_Grow_byte_byte [.r, .r] b_slices_Grow_byte_byte (bodyK E_slices_Grow_byte_byte Try.f62 (outH O_slices_Grow_byte_byte OO_slices_Grow_byte_byte fun ls => Rv (tup_slices_Grow_byte_byte ls))) (st_slices_Grow_byte_byte_0 x0)
  | .inr (()) => headC E_slices_Grow_byte_byte [.r, .r, .r] b_slices_Grow_byte_byte (bodyK E_slices_Grow_byte_byte Try.f62 (outH O_slices_Grow_byte_byte OO_slices_Grow_byte_byte fun ls => Rv (tup_slices_Grow_byte_byte ls))) (st_slices_Grow_byte_byte_1 x0)
set_option maxRecDepth 100000 in
theorem l_slices_Grow_byte_byte_0 (x0 : Int) (Rv : List AV → Prop) : stepC E_slices_Grow_byte_byte [.r, .r] b_slices_Grow_byte_byte (bodyK E_slices_Grow_byte_byte Try.f62 (outH O_slices_Grow_byte_byte OO_slices_Grow_byte_byte fun ls => Rv (tup_slices_Grow_byte_byte ls))) (st_slices_Grow_byte_byte_0 x0) =
  (M_slices_Grow_byte_byte x0 (.inl (()))).fold False (Sum.elim (L_slices_Grow_byte_byte x0 Rv) Rv) := by kernel_rfl
set_option maxRecDepth 100000 in
theorem l_slices_Grow_byte_byte_1 (x0 : Int) (Rv : List AV → Prop) : stepC E_slices_Grow_byte_byte [.r, .r, .r] b_slices_Grow_byte_byte (bodyK E_slices_Grow_byte_byte Try.f62 (outH O_slices_Grow_byte_byte OO_slices_Grow_byte_byte fun ls => Rv (tup_slices_Grow_byte_byte ls))) (st_slices_Grow_byte_byte_1 x0) =
  (M_slices_Grow_byte_byte x0 (.inr (()))).fold False (Sum.elim (L_slices_Grow_byte_byte x0 Rv) Rv) := by kernel_rfl
set_option maxRecDepth 100000 in
theorem e_slices_Grow_byte_byte_0 (x0 : Int) (Rv : List AV → Prop) : L_slices_Grow_byte_byte x0 Rv (.inl (())) = headC E_slices_Grow_byte_byte [.r, .r] b_slices_Grow_byte_byte (bodyK E_slices_Grow_byte_byte Try.f62 (outH O_slices_Grow_byte_byte OO_slices_Grow_byte_byte fun ls => Rv (tup_slices_Grow_byte_byte ls))) (st_slices_Grow_byte_byte_0 x0) := by kernel_rfl
set_option maxRecDepth 100000 in
theorem e_slices_Grow_byte_byte_1 (x0 : Int) (Rv : List AV → Prop) : L_slices_Grow_byte_byte x0 Rv (.inr (())) = headC E_slices_Grow_byte_byte [.r, .r, .r] b_slices_Grow_byte_byte (bodyK E_slices_Grow_byte_byte Try.f62 (outH O_slices_Grow_byte_byte OO_slices_Grow_byte_byte fun ls => Rv (tup_slices_Grow_byte_byte ls))) (st_slices_Grow_byte_byte_1 x0) := by kernel_rfl
section
attribute [local irreducible] Tr.fold M_slices_Grow_byte_byte L_slices_Grow_byte_byte T_slices_Grow_byte_byte E_slices_Grow_byte_byte b_slices_Grow_byte_byte bodyK headC headL stepC stepL wpX callA
set_option maxRecDepth 100000 in
theorem h_slices_Grow_byte_byte (x0 : Int) (Rv : List AV → Prop) : ∀ s, (M_slices_Grow_byte_byte x0 s).fold False (Sum.elim (L_slices_Grow_byte_byte x0 Rv) Rv) → L_slices_Grow_byte_byte x0 Rv s := by
  rintro (⟨⟩ | ⟨⟩)
  · exact fun h => Eq.mpr (e_slices_Grow_byte_byte_0 x0 Rv) (headC_of (Eq.mpr (l_slices_Grow_byte_byte_0 x0 Rv) h))
  · exact fun h => Eq.mpr (e_slices_Grow_byte_byte_1 x0 Rv) (headC_of (Eq.mpr (l_slices_Grow_byte_byte_1 x0 Rv) h))
set_option maxRecDepth 100000 in
theorem c_slices_Grow_byte_byte (ls : List AV) (Rv : List AV → Prop) : callA E_slices_Grow_byte_byte Try.f62 (instL ls P_slices_Grow_byte_byte 0) (instH ls Q_slices_Grow_byte_byte 1) (outH O_slices_Grow_byte_byte OO_slices_Grow_byte_byte fun ls => Rv (tup_slices_Grow_byte_byte ls)) = (T_slices_Grow_byte_byte (getI (ls.getD 0 .junk))).fold False (Sum.elim (L_slices_Grow_byte_byte (getI (ls.getD 0 .junk)) Rv) Rv) := by kernel_rfl
end
noncomputable def S_slices_Grow_byte_byte : Go.Cx.Spec := heapS (patH P_slices_Grow_byte_byte Q_slices_Grow_byte_byte fun ls => opt (g_slices_Grow_byte_byte (getI (ls.getD 0 .junk))) fun x => .r (res_slices_Grow_byte_byte x))
set_option maxRecDepth 100000 in
theorem S_slices_Grow_byte_byte_ok : Sound Try.prog 62 S_slices_Grow_byte_byte :=
  heap_mach (E := E_slices_Grow_byte_byte) (TblOK.enK TYaG123t_ok _ _ _ _ _) mixed Try.func62 (c := Try.f62.body.getD .skip) (by kernel_rfl) (by kernel_rfl) (by decide) (pats := P_slices_Grow_byte_byte) (ops := Q_slices_Grow_byte_byte) (OO := OO_slices_Grow_byte_byte) (O := O_slices_Grow_byte_byte) (tup := tup_slices_Grow_byte_byte) (res := res_slices_Grow_byte_byte) (g := fun ls => g_slices_Grow_byte_byte (getI (ls.getD 0 .junk))) (T := fun ls => T_slices_Grow_byte_byte (getI (ls.getD 0 .junk))) (step := fun ls => M_slices_Grow_byte_byte (getI (ls.getD 0 .junk))) (L := fun ls => L_slices_Grow_byte_byte (getI (ls.getD 0 .junk))) (fun _ => rfl) (fun ls => by kernel_rfl) c_slices_Grow_byte_byte (fun ls Rv => h_slices_Grow_byte_byte (getI (ls.getD 0 .junk)) Rv)

noncomputable def TYaG124t : FuncId → Option Go.Cx.Spec := addT TYaG123t 62 S_slices_Grow_byte_byte
theorem TYaG124t_ok : TblOK Try.prog TYaG124t := TYaG123t_ok.add S_slices_Grow_byte_byte_ok

/- slices.Concat[[]byte,byte] -/
noncomputable def E_slices_Concat_byte_byte : En := enK Try.prog TYaG124t [] [(3, ⟨[1, 2, 4, 5, 6, 7, 8, 12, 13, 14, 15, 16, 17, 18, 19, 20, 21, 22, 23, 24, 25, 26, 27, 28, 29, 30, 31, 32, 33, 34, 35], [], [], none, [], []⟩), (11, ⟨[0, 1, 2, 3, 4, 5, 7, 8, 9, 10, 11, 12, 13, 14, 15, 16, 17, 18, 19, 20, 21, 22, 23, 24, 28, 29, 30, 31, 32, 33, 34, 35], [], [], none, [], []⟩)] [] [] 0
def P_slices_Concat_byte_byte : List Pat := [.leaf (.slice 1 (.slice 1 (.int .u8)))]
def O_slices_Concat_byte_byte : Pat := .leaf (.slice 1 (.int .u8))
def tup_slices_Concat_byte_byte : List AV → List AV := fun ls => getXs (ls.getD 0 .junk)
def res_slices_Concat_byte_byte : List AV → AV := fun x => .slice 1 (.int .u8) (x) .ro
noncomputable def T_slices_Concat_byte_byte (x0 : List AV) : Tr (((Int × Int) ⊕ (List AV × Int)) ⊕ (List AV)) := (.r (.inl (.inl (((0 : Int), (0 : Int))))))
noncomputable def M_slices_Concat_byte_byte (x0 : List AV) : (Int × Int) ⊕ (List AV × Int) → Tr (((Int × Int) ⊕ (List AV × Int)) ⊕ (List AV))
  | .inl ((i0, i1)) => (.c (Decidable.decide (i1 < (↑(List.length x0) : Int))) (.c (Decidable.decide ((0 : Int) ≤ i1)) (.c (Decidable.decide (i1 < (↑(List.length x0) : Int))) (.c (Decidable.decide (Go.IntKind.wrap Go.IntKind.i64 (i0 + (↑(List.length (Go.Cx.getXs (List.getD x0 (Int.toNat i1) (Go.Cx.AV.slice (1 : Nat) (Go.Cx.Sh.int Go.IntKind.u8) [] Go.Cx.SK.ro)))) : Int)) < (0 : Int))) .bad (.r (.inl (.inl ((Go.IntKind.wrap Go.IntKind.i64 (i0 + (↑(List.length (Go.Cx.getXs (List.getD x0 (Int.toNat i1) (Go.Cx.AV.slice (1 : Nat) (Go.Cx.Sh.int Go.IntKind.u8) [] Go.Cx.SK.ro)))) : Int)), Go.IntKind.wrap Go.IntKind.i64 (i1 + (1 : Int)))))))) .bad) .bad) (opt (Go.Proofs.Ythocnaabefdokaa.g_slices_Grow_byte_byte i0) fun (y0 : List Go.Cx.AV) => (.r (.inl (.inr ((y0, (0 : Int))))))))
  | .inr ((l0, i2)) => (.c (Decidable.decide (i2 < (↑(List.length x0) : Int))) (.c (Decidable.decide ((0 : Int) ≤ i2)) (.c (Decidable.decide (i2 < (↑(List.length x0) : Int))) (.c (List.length l0 == List.length l0) (.c (Decidable.decide (List.length (l0 ++ Go.Cx.getXs (List.getD x0 (Int.toNat i2) (Go.Cx.AV.slice (1 : Nat) (Go.Cx.Sh.int Go.IntKind.u8) [] Go.Cx.SK.ro))) * (2 : Nat) < (70368744177664 : Nat))) (.r (.inl (.inr ((l0 ++ Go.Cx.getXs (List.getD x0 (Int.toNat i2) (Go.Cx.AV.slice (1 : Nat) (Go.Cx.Sh.int Go.IntKind.u8) [] Go.Cx.SK.ro)), Go.IntKind.wrap Go.IntKind.i64 (i2 + (1 : Int))))))) .bad) .bad) .bad) .bad) (.c (List.length l0 == List.length l0) (.r (.inr (l0))) .bad))
noncomputable def g_slices_Concat_byte_byte (x0 : List AV) : Option (List AV) := run (M_slices_Concat_byte_byte x0) (T_slices_Concat_byte_byte x0)
noncomputable def b_slices_Concat_byte_byte := Try.f50.body.getD .skip
def st_slices_Concat_byte_byte_0 (x0 : List AV) (i0 : Int) (i1 : Int) : St := ⟨[Go.Cx.AV.slice (1 : Nat) (Go.Cx.Sh.slice (1 : Nat) (Go.Cx.Sh.int Go.IntKind.u8)) x0 Go.Cx.SK.ro, Go.Cx.AV.junk, Go.Cx.AV.junk, Go.Cx.AV.int Go.IntKind.i64 i0, Go.Cx.AV.junk, Go.Cx.AV.junk, Go.Cx.AV.junk, Go.Cx.AV.junk, Go.Cx.AV.junk, Go.Cx.AV.slice (1 : Nat) (Go.Cx.Sh.slice (1 : Nat) (Go.Cx.Sh.int Go.IntKind.u8)) x0 Go.Cx.SK.ro, Go.Cx.AV.int Go.IntKind.i64 (↑(List.length x0) : Int), Go.Cx.AV.int Go.IntKind.i64 i1, Go.Cx.AV.junk, Go.Cx.AV.junk, Go.Cx.AV.junk, Go.Cx.AV.junk, Go.Cx.AV.junk, Go.Cx.AV.junk, Go.Cx.AV.junk, Go.Cx.AV.junk, Go.Cx.AV.junk, Go.Cx.AV.junk, Go.Cx.AV.junk, Go.Cx.AV.junk, Go.Cx.AV.junk, Go.Cx.AV.junk, Go.Cx.AV.junk, Go.Cx.AV.junk, Go.Cx.AV.junk, Go.Cx.AV.junk, Go.Cx.AV.junk, Go.Cx.AV.junk, Go.Cx.AV.junk, Go.Cx.AV.junk, Go.Cx.AV.junk, Go.Cx.AV.junk], []⟩
def st_slices_Concat_byte_byte_1 (x0 : List AV) (l0 : List AV) (i2 : Int) : St := ⟨[Go.Cx.AV.junk, Go.Cx.AV.junk, Go.Cx.AV.junk, Go.Cx.AV.junk, Go.Cx.AV.junk, Go.Cx.AV.junk, Go.Cx.AV.oslice (0 : Nat) (1 : Nat) (List.length l0), Go.Cx.AV.junk, Go.Cx.AV.junk, Go.Cx.AV.junk, Go.Cx.AV.junk, Go.Cx.AV.junk, Go.Cx.AV.junk, Go.Cx.AV.junk, Go.Cx.AV.junk, Go.Cx.AV.junk, Go.Cx.AV.junk, Go.Cx.AV.junk, Go.Cx.AV.junk, Go.Cx.AV.junk, Go.Cx.AV.junk, Go.Cx.AV.junk, Go.Cx.AV.junk, Go.Cx.AV.junk, Go.Cx.AV.junk, Go.Cx.AV.slice (1 : Nat) (Go.Cx.Sh.slice (1 : Nat) (Go.Cx.Sh.int Go.IntKind.u8)) x0 Go.Cx.SK.ro, Go.Cx.AV.int Go.IntKind.i64 (↑(List.length x0) : Int), Go.Cx.AV.int Go.IntKind.i64 i2, Go.Cx.AV.junk, Go.Cx.AV.junk, Go.Cx.AV.junk, Go.Cx.AV.junk, Go.Cx.AV.junk, Go.Cx.AV.junk, Go.Cx.AV.junk, Go.Cx.AV.junk], [Go.Cx.Ob.grow (5 : Nat) (1 : Nat) (1 : Nat) (Go.Cx.Sh.int Go.IntKind.u8) l0]⟩
noncomputable def L_slices_Concat_byte_byte (x0 : List AV) (Rv : List AV → Prop) : (Int × Int) ⊕ (List AV × Int) → Prop
  | .inl ((i0, i1)) => headL E_slices_Concat_byte_byte [.r, .r, .l, .r, .d] b_slices_Concat_byte_byte 0 (bodyK E_slices_Concat_byte_byte Try.f50 (outP O_slices_Concat_byte_byte fun ls => Rv (tup_slices_Concat_byte_byte ls))) (st_slices_Concat_byte_byte_0 x0 i0 i1)
  | .inr ((l0, i2)) => headL E_slices_Concat_byte_byte [.r, .r, .r, .r, .l, .r, .d] b_slices_Concat_byte_byte 1 (bodyK E_slices_Concat_byte_byte Try.f50 (outP O_slices_Concat_byte_byte fun ls => Rv (tup_slices_Concat_byte_byte ls))) (st_slices_Concat_byte_byte_1 x0 l0 i2)
set_option maxRecDepth 100000 in
theorem l_slices_Concat_byte_byte_0 (x0 : List AV) (Rv : List AV → Prop) (i0 : Int) (i1 : Int) : stepL E_slices_Concat_byte_byte [.r, .r, .l, .r, .d] b_slices_Concat_byte_byte 0 (bodyK E_slices_Concat_byte_byte Try.f50 (outP O_slices_Concat_byte_byte fun ls => Rv (tup_slices_Concat_byte_byte ls))) (st_slices_Concat_byte_byte_0 x0 i0 i1) =
  (M_slices_Concat_byte_byte x0 (.inl ((i0, i1)))).fold False (Sum.elim (L_slices_Concat_byte_byte x0 Rv) Rv) := by kernel_rfl
set_option maxRecDepth 100000 in
theorem l_slices_Concat_byte_byte_1 (x0 : List AV) (Rv : List AV → Prop) (l0 : List AV) (i2 : Int) : stepL E_slices_Concat_byte_byte [.r, .r, .r, .r, .l, .r, .d] b_slices_Concat_byte_byte 1 (bodyK E_slices_Concat_byte_byte Try.f50 (outP O_slices_Concat_byte_byte fun ls => Rv (tup_slices_Concat_byte_byte ls))) (st_slices_Concat_byte_byte_1 x0 l0 i2) =
  (M_slices_Concat_byte_byte x0 (.inr ((l0, i2)))).fold False (Sum.elim (L_slices_Concat_byte_byte x0 Rv) Rv) := by kernel_rfl
set_option maxRecDepth 100000 in
theorem e_slices_Concat_byte_byte_0 (x0 : List AV) (Rv : List AV → Prop) (i0 : Int) (i1 : Int) : L_slices_Concat_byte_byte x0 Rv (.inl ((i0, i1))) = headL E_slices_Concat_byte_byte [.r, .r, .l, .r, .d] b_slices_Concat_byte_byte 0 (bodyK E_slices_Concat_byte_byte Try.f50 (outP O_slices_Concat_byte_byte fun ls => Rv (tup_slices_Concat_byte_byte ls))) (st_slices_Concat_byte_byte_0 x0 i0 i1) := by kernel_rfl
set_option maxRecDepth 100000 in
theorem e_slices_Concat_byte_byte_1 (x0 : List AV) (Rv : List AV → Prop) (l0 : List AV) (i2 : Int) : L_slices_Concat_byte_byte x0 Rv (.inr ((l0, i2))) = headL E_slices_Concat_byte_byte [.r, .r, .r, .r, .l, .r, .d] b_slices_Concat_byte_byte 1 (bodyK E_slices_Concat_byte_byte Try.f50 (outP O_slices_Concat_byte_byte fun ls => Rv (tup_slices_Concat_byte_byte ls))) (st_slices_Concat_byte_byte_1 x0 l0 i2) := by kernel_rfl
section
attribute [local irreducible] Tr.fold M_slices_Concat_byte_byte L_slices_Concat_byte_byte T_slices_Concat_byte_byte E_slices_Concat_byte_byte b_slices_Concat_byte_byte bodyK headC headL stepC stepL wpX callA
set_option maxRecDepth 100000 in
theorem h_slices_Concat_byte_byte (x0 : List AV) (Rv : List AV → Prop) : ∀ s, (M_slices_Concat_byte_byte x0 s).fold False (Sum.elim (L_slices_Concat_byte_byte x0 Rv) Rv) → L_slices_Concat_byte_byte x0 Rv s := by
  rintro (⟨v0, v1⟩ | ⟨v0, v1⟩)
  · exact fun h => Eq.mpr (e_slices_Concat_byte_byte_0 x0 Rv v0 v1) (headL_of (Eq.mpr (l_slices_Concat_byte_byte_0 x0 Rv v0 v1) h))
  · exact fun h => Eq.mpr (e_slices_Concat_byte_byte_1 x0 Rv v0 v1) (headL_of (Eq.mpr (l_slices_Concat_byte_byte_1 x0 Rv v0 v1) h))
set_option maxRecDepth 100000 in
theorem c_slices_Concat_byte_byte (ls : List AV) (Rv : List AV → Prop) : callA E_slices_Concat_byte_byte Try.f50 (instL ls P_slices_Concat_byte_byte 0) [] (outP O_slices_Concat_byte_byte fun ls => Rv (tup_slices_Concat_byte_byte ls)) = (T_slices_Concat_byte_byte (getXs (ls.getD 0 .junk))).fold False (Sum.elim (L_slices_Concat_byte_byte (getXs (ls.getD 0 .junk)) Rv) Rv) := by kernel_rfl
end
noncomputable def S_slices_Concat_byte_byte : Go.Cx.Spec := pureS (patF P_slices_Concat_byte_byte fun ls => opt (g_slices_Concat_byte_byte (getXs (ls.getD 0 .junk))) fun x => .r (res_slices_Concat_byte_byte x))
set_option maxRecDepth 100000 in
theorem S_slices_Concat_byte_byte_ok : Sound Try.prog 50 S_slices_Concat_byte_byte :=
  pure_mach (E := E_slices_Concat_byte_byte) (TblOK.enK TYaG124t_ok _ _ _ _ _) mixed rfl Try.func50 (c := Try.f50.body.getD .skip) (by kernel_rfl) (by kernel_rfl) (pats := P_slices_Concat_byte_byte) (O := O_slices_Concat_byte_byte) (tup := tup_slices_Concat_byte_byte) (res := res_slices_Concat_byte_byte) (g := fun ls => g_slices_Concat_byte_byte (getXs (ls.getD 0 .junk))) (T := fun ls => T_slices_Concat_byte_byte (getXs (ls.getD 0 .junk))) (step := fun ls => M_slices_Concat_byte_byte (getXs (ls.getD 0 .junk))) (L := fun ls => L_slices_Concat_byte_byte (getXs (ls.getD 0 .junk))) (fun _ => rfl) (fun ls => by kernel_rfl) c_slices_Concat_byte_byte (fun ls Rv => h_slices_Concat_byte_byte (getXs (ls.getD 0 .junk)) Rv)

noncomputable def TYaG125t : FuncId → Option Go.Cx.Spec := addT TYaG124t 50 S_slices_Concat_byte_byte
theorem TYaG125t_ok : TblOK Try.prog TYaG125t := TYaG124t_ok.add S_slices_Concat_byte_byte_ok

/- (*comptoir/disk.Disk).Append -/
noncomputable def E_disk_Disk_Append_p00500000 : En := enK Try.prog TYaG125t [] [] [] [] 1
def P_disk_Disk_Append_p00500000 : List Pat := [.lit (.ptr 0 0), .leaf (.int .i64), .leaf (.slice 1 (.int .u8))]
def Q_disk_Disk_Append_p00500000 : List OPat := [.fix 83 [.leaf (.slice 1 (.int .u8)), .leaf (.slice 1 (.int .u8)), .leaf (.int .i64), .leaf .bool, .leaf .bool]]
def O_disk_Disk_Append_p00500000 : Pat := .leaf (.int .i64)
def OO_disk_Disk_Append_p00500000 : List OPat := [.fix 83 [.leaf (.slice 1 (.int .u8)), .leaf (.slice 1 (.int .u8)), .leaf (.int .i64), .leaf .bool, .leaf .bool]]
def tup_disk_Disk_Append_p00500000 : List AV → Int × List AV × List AV × Int × Bool × Bool := fun ls => (getI (ls.getD 0 .junk), getXs (ls.getD 1 .junk), getXs (ls.getD 2 .junk), getI (ls.getD 3 .junk), getB (ls.getD 4 .junk), getB (ls.getD 5 .junk))
def res_disk_Disk_Append_p00500000 : Int × List AV × List AV × Int × Bool × Bool → AV × List Ob := fun x => (.int .i64 (x.1), [.fix 83 [.slice 1 (.int .u8) (x.2.1) .ro, .slice 1 (.int .u8) (x.2.2.1) .ro, .int .i64 (x.2.2.2.1), .bool (x.2.2.2.2.1), .bool (x.2.2.2.2.2)]])
noncomputable def T_disk_Disk_Append_p00500000 (x0 : Int) (x1 : List AV) (x2 : List AV) (x3 : List AV) (x4 : Int) (x5 : Bool) (x6 : Bool) : Tr (Int × List AV × List AV × Int × Bool × Bool) := (opt (Go.Proofs.Ythocnaabefdokaa.g_disk_Disk_may_p0 x2 x3 x4 x5 x6 x0) fun (y0 : Int) => (.c (y0 != (0 : Int)) (.r ((y0, x2, x3, x4, x5, x6))) (.c (Decidable.decide (x0 = (1 : Int))) (.c (Decidable.decide (Go.IntKind.wrap Go.IntKind.i64 ((↑(List.length x3) : Int) + (↑(List.length x1) : Int)) > (2000000 : Int))) (.r (((4 : Int), x2, x3, x4, x5, x6))) (.c (x5) (.c (Decidable.decide (x0 = (1 : Int))) (.c (Decidable.decide ((0 : Int) ≤ if x4 < (↑(List.length x1) : Int) then x4 else (↑(List.length x1) : Int))) (.c (Decidable.decide ((if x4 < (↑(List.length x1) : Int) then x4 else (↑(List.length x1) : Int)) ≤ (↑(List.length x1) : Int))) (.c (Decidable.decide ((0 : Int) ≤ if x4 < (↑(List.length x1) : Int) then x4 else (↑(List.length x1) : Int))) (opt (Go.Proofs.Ythocnaabefdokaa.g_slices_Concat_byte_byte [Go.Cx.AV.slice (1 : Nat) (Go.Cx.Sh.int Go.IntKind.u8) x3 Go.Cx.SK.ro, Go.Cx.AV.slice (1 : Nat) (Go.Cx.Sh.int Go.IntKind.u8) (List.drop (0 : Nat) (List.take (Int.toNat (if x4 < (↑(List.length x1) : Int) then x4 else (↑(List.length x1) : Int))) x1)) Go.Cx.SK.ro]) fun (y1 : List Go.Cx.AV) => (.c (Decidable.decide (x0 = (1 : Int))) (.c (Decidable.decide ((if x4 < (↑(List.length x1) : Int) then x4 else (↑(List.length x1) : Int)) < (↑(List.length x1) : Int))) (.r (((24 : Int), x2, y1, Go.IntKind.wrap Go.IntKind.i64 (x4 - if x4 < (↑(List.length x1) : Int) then x4 else (↑(List.length x1) : Int)), x5, Decidable.decide ((if x4 < (↑(List.length x1) : Int) then x4 else (↑(List.length x1) : Int)) < (↑(List.length x1) : Int))))) (.r (((0 : Int), x2, y1, Go.IntKind.wrap Go.IntKind.i64 (x4 - if x4 < (↑(List.length x1) : Int) then x4 else (↑(List.length x1) : Int)), x5, Decidable.decide ((if x4 < (↑(List.length x1) : Int) then x4 else (↑(List.length x1) : Int)) < (↑(List.length x1) : Int)))))) (.c (Decidable.decide (x0 = (0 : Int))) (.c (Decidable.decide ((if x4 < (↑(List.length x1) : Int) then x4 else (↑(List.length x1) : Int)) < (↑(List.length x1) : Int))) (.r (((24 : Int), y1, x3, Go.IntKind.wrap Go.IntKind.i64 (x4 - if x4 < (↑(List.length x1) : Int) then x4 else (↑(List.length x1) : Int)), x5, Decidable.decide ((if x4 < (↑(List.length x1) : Int) then x4 else (↑(List.length x1) : Int)) < (↑(List.length x1) : Int))))) (.r (((0 : Int), y1, x3, Go.IntKind.wrap Go.IntKind.i64 (x4 - if x4 < (↑(List.length x1) : Int) then x4 else (↑(List.length x1) : Int)), x5, Decidable.decide ((if x4 < (↑(List.length x1) : Int) then x4 else (↑(List.length x1) : Int)) < (↑(List.length x1) : Int)))))) .bad))) .bad) .bad) .bad) (.c (Decidable.decide (x0 = (0 : Int))) (.c (Decidable.decide ((0 : Int) ≤ if x4 < (↑(List.length x1) : Int) then x4 else (↑(List.length x1) : Int))) (.c (Decidable.decide ((if x4 < (↑(List.length x1) : Int) then x4 else (↑(List.length x1) : Int)) ≤ (↑(List.length x1) : Int))) (.c (Decidable.decide ((0 : Int) ≤ if x4 < (↑(List.length x1) : Int) then x4 else (↑(List.length x1) : Int))) (opt (Go.Proofs.Ythocnaabefdokaa.g_slices_Concat_byte_byte [Go.Cx.AV.slice (1 : Nat) (Go.Cx.Sh.int Go.IntKind.u8) x2 Go.Cx.SK.ro, Go.Cx.AV.slice (1 : Nat) (Go.Cx.Sh.int Go.IntKind.u8) (List.drop (0 : Nat) (List.take (Int.toNat (if x4 < (↑(List.length x1) : Int) then x4 else (↑(List.length x1) : Int))) x1)) Go.Cx.SK.ro]) fun (y1 : List Go.Cx.AV) => (.c (Decidable.decide (x0 = (1 : Int))) (.c (Decidable.decide ((if x4 < (↑(List.length x1) : Int) then x4 else (↑(List.length x1) : Int)) < (↑(List.length x1) : Int))) (.r (((24 : Int), x2, y1, Go.IntKind.wrap Go.IntKind.i64 (x4 - if x4 < (↑(List.length x1) : Int) then x4 else (↑(List.length x1) : Int)), x5, Decidable.decide ((if x4 < (↑(List.length x1) : Int) then x4 else (↑(List.length x1) : Int)) < (↑(List.length x1) : Int))))) (.r (((0 : Int), x2, y1, Go.IntKind.wrap Go.IntKind.i64 (x4 - if x4 < (↑(List.length x1) : Int) then x4 else (↑(List.length x1) : Int)), x5, Decidable.decide ((if x4 < (↑(List.length x1) : Int) then x4 else (↑(List.length x1) : Int)) < (↑(List.length x1) : Int)))))) (.c (Decidable.decide (x0 = (0 : Int))) (.c (Decidable.decide ((if x4 < (↑(List.length x1) : Int) then x4 else (↑(List.length x1) : Int)) < (↑(List.length x1) : Int))) (.r (((24 : Int), y1, x3, Go.IntKind.wrap Go.IntKind.i64 (x4 - if x4 < (↑(List.length x1) : Int) then x4 else (↑(List.length x1) : Int)), x5, Decidable.decide ((if x4 < (↑(List.length x1) : Int) then x4 else (↑(List.length x1) : Int)) < (↑(List.length x1) : Int))))) (.r (((0 : Int), y1, x3, Go.IntKind.wrap Go.IntKind.i64 (x4 - if x4 < (↑(List.length x1) : Int) then x4 else (↑(List.length x1) : Int)), x5, Decidable.decide ((if x4 < (↑(List.length x1) : Int) then x4 else (↑(List.length x1) : Int)) < (↑(List.length x1) : Int)))))) .bad))) .bad) .bad) .bad) .bad)) (.c (Decidable.decide (x0 = (1 : Int))) (.c (Decidable.decide ((↑(List.length x1) : Int) ≤ (↑(List.length x1) : Int))) (opt (Go.Proofs.Ythocnaabefdokaa.g_slices_Concat_byte_byte [Go.Cx.AV.slice (1 : Nat) (Go.Cx.Sh.int Go.IntKind.u8) x3 Go.Cx.SK.ro, Go.Cx.AV.slice (1 : Nat) (Go.Cx.Sh.int Go.IntKind.u8) (List.drop (0 : Nat) (List.take (List.length x1) x1)) Go.Cx.SK.ro]) fun (y1 : List Go.Cx.AV) => (.c (Decidable.decide (x0 = (1 : Int))) (.c (x6) (.r (((24 : Int), x2, y1, x4, x5, x6))) (.r (((0 : Int), x2, y1, x4, x5, x6)))) (.c (Decidable.decide (x0 = (0 : Int))) (.c (x6) (.r (((24 : Int), y1, x3, x4, x5, x6))) (.r (((0 : Int), y1, x3, x4, x5, x6)))) .bad))) .bad) (.c (Decidable.decide (x0 = (0 : Int))) (.c (Decidable.decide ((↑(List.length x1) : Int) ≤ (↑(List.length x1) : Int))) (opt (Go.Proofs.Ythocnaabefdokaa.g_slices_Concat_byte_byte [Go.Cx.AV.slice (1 : Nat) (Go.Cx.Sh.int Go.IntKind.u8) x2 Go.Cx.SK.ro, Go.Cx.AV.slice (1 : Nat) (Go.Cx.Sh.int Go.IntKind.u8) (List.drop (0 : Nat) (List.take (List.length x1) x1)) Go.Cx.SK.ro]) fun (y1 : List Go.Cx.AV) => (.c (Decidable.decide (x0 = (1 : Int))) (.c (x6) (.r (((24 : Int), x2, y1, x4, x5, x6))) (.r (((0 : Int), x2, y1, x4, x5, x6)))) (.c (Decidable.decide (x0 = (0 : Int))) (.c (x6) (.r (((24 : Int), y1, x3, x4, x5, x6))) (.r (((0 : Int), y1, x3, x4, x5, x6)))) .bad))) .bad) .bad)))) (.c (Decidable.decide (x0 = (0 : Int))) (.c (Decidable.decide (Go.IntKind.wrap Go.IntKind.i64 ((↑(List.length x2) : Int) + (↑(List.length x1) : Int)) > (2000000 : Int))) (.r (((4 : Int), x2, x3, x4, x5, x6))) (.c (x5) (.c (Decidable.decide (x0 = (1 : Int))) (.c (Decidable.decide ((0 : Int) ≤ if x4 < (↑(List.length x1) : Int) then x4 else (↑(List.length x1) : Int))) (.c (Decidable.decide ((if x4 < (↑(List.length x1) : Int) then x4 else (↑(List.length x1) : Int)) ≤ (↑(List.length x1) : Int))) (.c (Decidable.decide ((0 : Int) ≤ if x4 < (↑(List.length x1) : Int) then x4 else (↑(List.length x1) : Int))) (opt (Go.Proofs.Ythocnaabefdokaa.g_slices_Concat_byte_byte [Go.Cx.AV.slice (1 : Nat) (Go.Cx.Sh.int Go.IntKind.u8) x3 Go.Cx.SK.ro, Go.Cx.AV.slice (1 : Nat) (Go.Cx.Sh.int Go.IntKind.u8) (List.drop (0 : Nat) (List.take (Int.toNat (if x4 < (↑(List.length x1) : Int) then x4 else (↑(List.length x1) : Int))) x1)) Go.Cx.SK.ro]) fun (y1 : List Go.Cx.AV) => (.c (Decidable.decide (x0 = (1 : Int))) (.c (Decidable.decide ((if x4 < (↑(List.length x1) : Int) then x4 else (↑(List.length x1) : Int)) < (↑(List.length x1) : Int))) (.r (((24 : Int), x2, y1, Go.IntKind.wrap Go.IntKind.i64 (x4 - if x4 < (↑(List.length x1) : Int) then x4 else (↑(List.length x1) : Int)), x5, Decidable.decide ((if x4 < (↑(List.length x1) : Int) then x4 else (↑(List.length x1) : Int)) < (↑(List.length x1) : Int))))) (.r (((0 : Int), x2, y1, Go.IntKind.wrap Go.IntKind.i64 (x4 - if x4 < (↑(List.length x1) : Int) then x4 else (↑(List.length x1) : Int)), x5, Decidable.decide ((if x4 < (↑(List.length x1) : Int) then x4 else (↑(List.length x1) : Int)) < (↑(List.length x1) : Int)))))) (.c (Decidable.decide (x0 = (0 : Int))) (.c (Decidable.decide ((if x4 < (↑(List.length x1) : Int) then x4 else (↑(List.length x1) : Int)) < (↑(List.length x1) : Int))) (.r (((24 : Int), y1, x3, Go.IntKind.wrap Go.IntKind.i64 (x4 - if x4 < (↑(List.length x1) : Int) then x4 else (↑(List.length x1) : Int)), x5, Decidable.decide ((if x4 < (↑(List.length x1) : Int) then x4 else (↑(List.length x1) : Int)) < (↑(List.length x1) : Int))))) (.r (((0 : Int), y1, x3, Go.IntKind.wrap Go.IntKind.i64 (x4 - if x4 < (↑(List.length x1) : Int) then x4 else (↑(List.length x1) : Int)), x5, Decidable.decide ((if x4 < (↑(List.length x1) : Int) then x4 else (↑(List.length x1) : Int)) < (↑(List.length x1) : Int)))))) .bad))) .bad) .bad) .bad) (.c (Decidable.decide (x0 = (0 : Int))) (.c (Decidable.decide ((0 : Int) ≤ if x4 < (↑(List.length x1) : Int) then x4 else (↑(List.length x1) : Int))) (.c (Decidable.decide ((if x4 < (↑(List.length x1) : Int) then x4 else (↑(List.length x1) : Int)) ≤ (↑(List.length x1) : Int))) (.c (Decidable.decide ((0 : Int) ≤ if x4 < (↑(List.length x1) : Int) then x4 else (↑(List.length x1) : Int))) (opt (Go.Proofs.Ythocnaabefdokaa.g_slices_Concat_byte_byte [Go.Cx.AV.slice (1 : Nat) (Go.Cx.Sh.int Go.IntKind.u8) x2 Go.Cx.SK.ro, Go.Cx.AV.slice (1 : Nat) (Go.Cx.Sh.int Go.IntKind.u8) (List.drop (0 : Nat) (List.take (Int.toNat (if x4 < (↑(List.length x1) : Int) then x4 else (↑(List.length x1) : Int))) x1)) Go.Cx.SK.ro]) fun (y1 : List Go.Cx.AV) => (.c (Decidable.decide (x0 = (1 : Int))) (.c (Decidable.decide ((if x4 < (↑(List.length x1) : Int) then x4 else (↑(List.length x1) : Int)) < (↑(List.length x1) : Int))) (.r (((24 : Int), x2, y1, Go.IntKind.wrap Go.IntKind.i64 (x4 - if x4 < (↑(List.length x1) : Int) then x4 else (↑(List.length x1) : Int)), x5, Decidable.decide ((if x4 < (↑(List.length x1) : Int) then x4 else (↑(List.length x1) : Int)) < (↑(List.length x1) : Int))))) (.r (((0 : Int), x2, y1, Go.IntKind.wrap Go.IntKind.i64 (x4 - if x4 < (↑(List.length x1) : Int) then x4 else (↑(List.length x1) : Int)), x5, Decidable.decide ((if x4 < (↑(List.length x1) : Int) then x4 else (↑(List.length x1) : Int)) < (↑(List.length x1) : Int)))))) (.c (Decidable.decide (x0 = (0 : Int))) (.c (Decidable.decide ((if x4 < (↑(List.length x1) : Int) then x4 else (↑(List.length x1) : Int)) < (↑(List.length x1) : Int))) (.r (((24 : Int), y1, x3, Go.IntKind.wrap Go.IntKind.i64 (x4 - if x4 < (↑(List.length x1) : Int) then x4 else (↑(List.length x1) : Int)), x5, Decidable.decide ((if x4 < (↑(List.length x1) : Int) then x4 else (↑(List.length x1) : Int)) < (↑(List.length x1) : Int))))) (.r (((0 : Int), y1, x3, Go.IntKind.wrap Go.IntKind.i64 (x4 - if x4 < (↑(List.length x1) : Int) then x4 else (↑(List.length x1) : Int)), x5, Decidable.decide ((if x4 < (↑(List.length x1) : Int) then x4 else (↑(List.length x1) : Int)) < (↑(List.length x1) : Int)))))) .bad))) .bad) .bad) .bad) .bad)) (.c (Decidable.decide (x0 = (1 : Int))) (.c (Decidable.decide ((↑(List.length x1) : Int) ≤ (↑(List.length x1) : Int))) (opt (Go.Proofs.Ythocnaabefdokaa.g_slices_Concat_byte_byte [Go.Cx.AV.slice (1 : Nat) (Go.Cx.Sh.int Go.IntKind.u8) x3 Go.Cx.SK.ro, Go.Cx.AV.slice (1 : Nat) (Go.Cx.Sh.int Go.IntKind.u8) (List.drop (0 : Nat) (List.take (List.length x1) x1)) Go.Cx.SK.ro]) fun (y1 : List Go.Cx.AV) => (.c (Decidable.decide (x0 = (1 : Int))) (.c (x6) (.r (((24 : Int), x2, y1, x4, x5, x6))) (.r (((0 : Int), x2, y1, x4, x5, x6)))) (.c (Decidable.decide (x0 = (0 : Int))) (.c (x6) (.r (((24 : Int), y1, x3, x4, x5, x6))) (.r (((0 : Int), y1, x3, x4, x5, x6)))) .bad))) .bad) (.c (Decidable.decide (x0 = (0 : Int))) (.c (Decidable.decide ((↑(List.length x1) : Int) ≤ (↑(List.length x1) : Int))) (opt (Go.Proofs.Ythocnaabefdokaa.g_slices_Concat_byte_byte [Go.Cx.AV.slice (1 : Nat) (Go.Cx.Sh.int Go.IntKind.u8) x2 Go.Cx.SK.ro, Go.Cx.AV.slice (1 : Nat) (Go.Cx.Sh.int Go.IntKind.u8) (List.drop (0 : Nat) (List.take (List.length x1) x1)) Go.Cx.SK.ro]) fun (y1 : List Go.Cx.AV) => (.c (Decidable.decide (x0 = (1 : Int))) (.c (x6) (.r (((24 : Int), x2, y1, x4, x5, x6))) (.r (((0 : Int), x2, y1, x4, x5, x6)))) (.c (Decidable.decide (x0 = (0 : Int))) (.c (x6) (.r (((24 : Int), y1, x3, x4, x5, x6))) (.r (((0 : Int), y1, x3, x4, x5, x6)))) .bad))) .bad) .bad)))) .bad))))
noncomputable def g_disk_Disk_Append_p00500000 (x0 : Int) (x1 : List AV) (x2 : List AV) (x3 : List AV) (x4 : Int) (x5 : Bool) (x6 : Bool) : Option (Int × List AV × List AV × Int × Bool × Bool) := (T_disk_Disk_Append_p00500000 x0 x1 x2 x3 x4 x5 x6).val
set_option maxRecDepth 100000 in
theorem c_disk_Disk_Append_p00500000 (ls : List AV) (Rv : Int × List AV × List AV × Int × Bool × Bool → Prop) : callA E_disk_Disk_Append_p00500000 Try.f27 (instL ls P_disk_Disk_Append_p00500000 0) (instH ls Q_disk_Disk_Append_p00500000 2) (outH O_disk_Disk_Append_p00500000 OO_disk_Disk_Append_p00500000 fun ls => Rv (tup_disk_Disk_Append_p00500000 ls)) = (T_disk_Disk_Append_p00500000 (getI (ls.getD 0 .junk)) (getXs (ls.getD 1 .junk)) (getXs (ls.getD 2 .junk)) (getXs (ls.getD 3 .junk)) (getI (ls.getD 4 .junk)) (getB (ls.getD 5 .junk)) (getB (ls.getD 6 .junk))).fold False Rv := by kernel_rfl
noncomputable def S_disk_Disk_Append_p00500000 : Go.Cx.Spec := heapS (patH P_disk_Disk_Append_p00500000 Q_disk_Disk_Append_p00500000 fun ls => opt (g_disk_Disk_Append_p00500000 (getI (ls.getD 0 .junk)) (getXs (ls.getD 1 .junk)) (getXs (ls.getD 2 .junk)) (getXs (ls.getD 3 .junk)) (getI (ls.getD 4 .junk)) (getB (ls.getD 5 .junk)) (getB (ls.getD 6 .junk))) fun x => .r (res_disk_Disk_Append_p00500000 x))
set_option maxRecDepth 100000 in
theorem S_disk_Disk_Append_p00500000_ok : Sound Try.prog 27 S_disk_Disk_Append_p00500000 :=
  heap_flat (E := E_disk_Disk_Append_p00500000) (TblOK.enK TYaG125t_ok _ _ _ _ _) mixed Try.func27 (c := Try.f27.body.getD .skip) (by kernel_rfl) (by kernel_rfl) (by decide) (pats := P_disk_Disk_Append_p00500000) (ops := Q_disk_Disk_Append_p00500000) (OO := OO_disk_Disk_Append_p00500000) (O := O_disk_Disk_Append_p00500000) (tup := tup_disk_Disk_Append_p00500000) (res := res_disk_Disk_Append_p00500000) (g := fun ls => g_disk_Disk_Append_p00500000 (getI (ls.getD 0 .junk)) (getXs (ls.getD 1 .junk)) (getXs (ls.getD 2 .junk)) (getXs (ls.getD 3 .junk)) (getI (ls.getD 4 .junk)) (getB (ls.getD 5 .junk)) (getB (ls.getD 6 .junk))) (T := fun ls => T_disk_Disk_Append_p00500000 (getI (ls.getD 0 .junk)) (getXs (ls.getD 1 .junk)) (getXs (ls.getD 2 .junk)) (getXs (ls.getD 3 .junk)) (getI (ls.getD 4 .junk)) (getB (ls.getD 5 .junk)) (getB (ls.getD 6 .junk))) (fun _ => rfl) (fun ls => by kernel_rfl) c_disk_Disk_Append_p00500000

noncomputable def TYaG126t : FuncId → Option Go.Cx.Spec := addT TYaG125t 27 S_disk_Disk_Append_p00500000
theorem TYaG126t_ok : TblOK Try.prog TYaG126t := TYaG125t_ok.add S_disk_Disk_Append_p00500000_ok

/- (*comptoir/disk.Disk).Torn -/
noncomputable def E_disk_Disk_Torn_p : En := enK Try.prog TYaG126t [] [] [] [] 0
def P_disk_Disk_Torn_p : List Pat := [.rptr [.leaf (.slice 1 (.int .u8)), .leaf (.slice 1 (.int .u8)), .leaf (.int .i64), .leaf .bool, .leaf .bool]]
def O_disk_Disk_Torn_p : Pat := .leaf .bool
def tup_disk_Disk_Torn_p : List AV → Bool := fun ls => getB (ls.getD 0 .junk)
def res_disk_Disk_Torn_p : Bool → AV := fun x => .bool (x)
noncomputable def T_disk_Disk_Torn_p (x0 : List AV) (x1 : List AV) (x2 : Int) (x3 : Bool) (x4 : Bool) : Tr (Bool) := (.r (x4))
noncomputable def g_disk_Disk_Torn_p (x0 : List AV) (x1 : List AV) (x2 : Int) (x3 : Bool) (x4 : Bool) : Option (Bool) := (T_disk_Disk_Torn_p x0 x1 x2 x3 x4).val
set_option maxRecDepth 100000 in
theorem c_disk_Disk_Torn_p (ls : List AV) (Rv : Bool → Prop) : callA E_disk_Disk_Torn_p Try.f44 (instL ls P_disk_Disk_Torn_p 0) [] (outP O_disk_Disk_Torn_p fun ls => Rv (tup_disk_Disk_Torn_p ls)) = (T_disk_Disk_Torn_p (getXs (ls.getD 0 .junk)) (getXs (ls.getD 1 .junk)) (getI (ls.getD 2 .junk)) (getB (ls.getD 3 .junk)) (getB (ls.getD 4 .junk))).fold False Rv := by kernel_rfl
noncomputable def S_disk_Disk_Torn_p : Go.Cx.Spec := pureS (patF P_disk_Disk_Torn_p fun ls => opt (g_disk_Disk_Torn_p (getXs (ls.getD 0 .junk)) (getXs (ls.getD 1 .junk)) (getI (ls.getD 2 .junk)) (getB (ls.getD 3 .junk)) (getB (ls.getD 4 .junk))) fun x => .r (res_disk_Disk_Torn_p x))
set_option maxRecDepth 100000 in
theorem S_disk_Disk_Torn_p_ok : Sound Try.prog 44 S_disk_Disk_Torn_p :=
  pure_flat (E := E_disk_Disk_Torn_p) (TblOK.enK TYaG126t_ok _ _ _ _ _) mixed rfl Try.func44 (c := Try.f44.body.getD .skip) (by kernel_rfl) (by kernel_rfl) (pats := P_disk_Disk_Torn_p) (O := O_disk_Disk_Torn_p) (tup := tup_disk_Disk_Torn_p) (res := res_disk_Disk_Torn_p) (g := fun ls => g_disk_Disk_Torn_p (getXs (ls.getD 0 .junk)) (getXs (ls.getD 1 .junk)) (getI (ls.getD 2 .junk)) (getB (ls.getD 3 .junk)) (getB (ls.getD 4 .junk))) (T := fun ls => T_disk_Disk_Torn_p (getXs (ls.getD 0 .junk)) (getXs (ls.getD 1 .junk)) (getI (ls.getD 2 .junk)) (getB (ls.getD 3 .junk)) (getB (ls.getD 4 .junk))) (fun _ => rfl) (fun ls => by kernel_rfl) c_disk_Disk_Torn_p

noncomputable def TYaG127t : FuncId → Option Go.Cx.Spec := addT TYaG126t 44 S_disk_Disk_Torn_p
theorem TYaG127t_ok : TblOK Try.prog TYaG127t := TYaG126t_ok.add S_disk_Disk_Torn_p_ok

/- (*comptoir/disk.Disk).slot -/
noncomputable def E_disk_Disk_slot_p0500000 : En := enK Try.prog TYaG127t [] [] [] [] 1
def P_disk_Disk_slot_p0500000 : List Pat := [.lit (.ptr 0 0), .leaf (.int .i64)]
def Q_disk_Disk_slot_p0500000 : List OPat := [.fix 83 [.leaf (.slice 1 (.int .u8)), .leaf (.slice 1 (.int .u8)), .leaf (.int .i64), .leaf .bool, .leaf .bool]]
def O_disk_Disk_slot_p0500000 : Pat := .leaf (.slice 1 (.int .u8))
def OO_disk_Disk_slot_p0500000 : List OPat := [.fix 83 [.leaf (.slice 1 (.int .u8)), .leaf (.slice 1 (.int .u8)), .leaf (.int .i64), .leaf .bool, .leaf .bool]]
def tup_disk_Disk_slot_p0500000 : List AV → List AV × List AV × List AV × Int × Bool × Bool := fun ls => (getXs (ls.getD 0 .junk), getXs (ls.getD 1 .junk), getXs (ls.getD 2 .junk), getI (ls.getD 3 .junk), getB (ls.getD 4 .junk), getB (ls.getD 5 .junk))
def res_disk_Disk_slot_p0500000 : List AV × List AV × List AV × Int × Bool × Bool → AV × List Ob := fun x => (.slice 1 (.int .u8) (x.1) .ro, [.fix 83 [.slice 1 (.int .u8) (x.2.1) .ro, .slice 1 (.int .u8) (x.2.2.1) .ro, .int .i64 (x.2.2.2.1), .bool (x.2.2.2.2.1), .bool (x.2.2.2.2.2)]])
noncomputable def T_disk_Disk_slot_p0500000 (x0 : Int) (x1 : List AV) (x2 : List AV) (x3 : Int) (x4 : Bool) (x5 : Bool) : Tr (List AV × List AV × List AV × Int × Bool × Bool) := (.c (Decidable.decide (x0 < (0 : Int))) (.r (([], x1, x2, x3, x4, x5))) (.c (Decidable.decide (x0 ≥ (2 : Int))) (.r (([], x1, x2, x3, x4, x5))) (.c (Decidable.decide (x0 = (1 : Int))) (.r ((x2, x1, x2, x3, x4, x5))) (.c (Decidable.decide (x0 = (0 : Int))) (.r ((x1, x1, x2, x3, x4, x5))) .bad))))
noncomputable def g_disk_Disk_slot_p0500000 (x0 : Int) (x1 : List AV) (x2 : List AV) (x3 : Int) (x4 : Bool) (x5 : Bool) : Option (List AV × List AV × List AV × Int × Bool × Bool) := (T_disk_Disk_slot_p0500000 x0 x1 x2 x3 x4 x5).val
set_option maxRecDepth 100000 in
theorem c_disk_Disk_slot_p0500000 (ls : List AV) (Rv : List AV × List AV × List AV × Int × Bool × Bool → Prop) : callA E_disk_Disk_slot_p0500000 Try.f54 (instL ls P_disk_Disk_slot_p0500000 0) (instH ls Q_disk_Disk_slot_p0500000 1) (outH O_disk_Disk_slot_p0500000 OO_disk_Disk_slot_p0500000 fun ls => Rv (tup_disk_Disk_slot_p0500000 ls)) = (T_disk_Disk_slot_p0500000 (getI (ls.getD 0 .junk)) (getXs (ls.getD 1 .junk)) (getXs (ls.getD 2 .junk)) (getI (ls.getD 3 .junk)) (getB (ls.getD 4 .junk)) (getB (ls.getD 5 .junk))).fold False Rv := by kernel_rfl
noncomputable def S_disk_Disk_slot_p0500000 : Go.Cx.Spec := heapS (patH P_disk_Disk_slot_p0500000 Q_disk_Disk_slot_p0500000 fun ls => opt (g_disk_Disk_slot_p0500000 (getI (ls.getD 0 .junk)) (getXs (ls.getD 1 .junk)) (getXs (ls.getD 2 .junk)) (getI (ls.getD 3 .junk)) (getB (ls.getD 4 .junk)) (getB (ls.getD 5 .junk))) fun x => .r (res_disk_Disk_slot_p0500000 x))
set_option maxRecDepth 100000 in
theorem S_disk_Disk_slot_p0500000_ok : Sound Try.prog 54 S_disk_Disk_slot_p0500000 :=
  heap_flat (E := E_disk_Disk_slot_p0500000) (TblOK.enK TYaG127t_ok _ _ _ _ _) mixed Try.func54 (c := Try.f54.body.getD .skip) (by kernel_rfl) (by kernel_rfl) (by decide) (pats := P_disk_Disk_slot_p0500000) (ops := Q_disk_Disk_slot_p0500000) (OO := OO_disk_Disk_slot_p0500000) (O := O_disk_Disk_slot_p0500000) (tup := tup_disk_Disk_slot_p0500000) (res := res_disk_Disk_slot_p0500000) (g := fun ls => g_disk_Disk_slot_p0500000 (getI (ls.getD 0 .junk)) (getXs (ls.getD 1 .junk)) (getXs (ls.getD 2 .junk)) (getI (ls.getD 3 .junk)) (getB (ls.getD 4 .junk)) (getB (ls.getD 5 .junk))) (T := fun ls => T_disk_Disk_slot_p0500000 (getI (ls.getD 0 .junk)) (getXs (ls.getD 1 .junk)) (getXs (ls.getD 2 .junk)) (getI (ls.getD 3 .junk)) (getB (ls.getD 4 .junk)) (getB (ls.getD 5 .junk))) (fun _ => rfl) (fun ls => by kernel_rfl) c_disk_Disk_slot_p0500000

noncomputable def TYaG128t : FuncId → Option Go.Cx.Spec := addT TYaG127t 54 S_disk_Disk_slot_p0500000
theorem TYaG128t_ok : TblOK Try.prog TYaG128t := TYaG127t_ok.add S_disk_Disk_slot_p0500000_ok

/- comptoir/disk.own -/
noncomputable def E_disk_own_fslot_0p500000 : En := enK Try.prog (addT TYaG128t 55 S55o) [] [] [] [] 1
def P_disk_own_fslot_0p500000 : List Pat := [.func 54 [.lit (.ptr 0 0)] [], .leaf (.int .i64)]
def Q_disk_own_fslot_0p500000 : List OPat := [.fix 83 [.leaf (.slice 1 (.int .u8)), .leaf (.slice 1 (.int .u8)), .leaf (.int .i64), .leaf .bool, .leaf .bool]]
def O_disk_own_fslot_0p500000 : Pat := .leaf (.slice 1 (.int .u8))
def OO_disk_own_fslot_0p500000 : List OPat := [.fix 83 [.leaf (.slice 1 (.int .u8)), .leaf (.slice 1 (.int .u8)), .leaf (.int .i64), .leaf .bool, .leaf .bool]]
def tup_disk_own_fslot_0p500000 : List AV → List AV × List AV × List AV × Int × Bool × Bool := fun ls => (getXs (ls.getD 0 .junk), getXs (ls.getD 1 .junk), getXs (ls.getD 2 .junk), getI (ls.getD 3 .junk), getB (ls.getD 4 .junk), getB (ls.getD 5 .junk))
def res_disk_own_fslot_0p500000 : List AV × List AV × List AV × Int × Bool × Bool → AV × List Ob := fun x => (.slice 1 (.int .u8) (x.1) .ro, [.fix 83 [.slice 1 (.int .u8) (x.2.1) .ro, .slice 1 (.int .u8) (x.2.2.1) .ro, .int .i64 (x.2.2.2.1), .bool (x.2.2.2.2.1), .bool (x.2.2.2.2.2)]])
noncomputable def T_disk_own_fslot_0p500000 (x0 : Int) (x1 : List AV) (x2 : List AV) (x3 : Int) (x4 : Bool) (x5 : Bool) : Tr (List AV × List AV × List AV × Int × Bool × Bool) := (opt (Go.Proofs.Ythocnaabefdokaa.g_disk_Disk_slot_p0500000 x0 x1 x2 x3 x4 x5) fun (y0 : List Go.Cx.AV × List Go.Cx.AV × List Go.Cx.AV × Int × Bool × Bool) => (.c (Decidable.decide (List.length (Prod.fst y0) * (2 : Nat) < (70368744177664 : Nat))) (.c (List.length (Prod.fst y0) == List.length (Prod.fst y0)) (.r ((Prod.fst y0, Prod.fst (Prod.snd y0), Prod.fst (Prod.snd (Prod.snd y0)), Prod.fst (Prod.snd (Prod.snd (Prod.snd y0))), Prod.fst (Prod.snd (Prod.snd (Prod.snd (Prod.snd y0)))), Prod.snd (Prod.snd (Prod.snd (Prod.snd (Prod.snd y0))))))) .bad) .bad))
noncomputable def g_disk_own_fslot_0p500000 (x0 : Int) (x1 : List AV) (x2 : List AV) (x3 : Int) (x4 : Bool) (x5 : Bool) : Option (List AV × List AV × List AV × Int × Bool × Bool) := (T_disk_own_fslot_0p500000 x0 x1 x2 x3 x4 x5).val
set_option maxRecDepth 100000 in
theorem c_disk_own_fslot_0p500000 (ls : List AV) (Rv : List AV × List AV × List AV × Int × Bool × Bool → Prop) : callA E_disk_own_fslot_0p500000 Try.f53 (instL ls P_disk_own_fslot_0p500000 0) (instH ls Q_disk_own_fslot_0p500000 1) (outH O_disk_own_fslot_0p500000 OO_disk_own_fslot_0p500000 fun ls => Rv (tup_disk_own_fslot_0p500000 ls)) = (T_disk_own_fslot_0p500000 (getI (ls.getD 0 .junk)) (getXs (ls.getD 1 .junk)) (getXs (ls.getD 2 .junk)) (getI (ls.getD 3 .junk)) (getB (ls.getD 4 .junk)) (getB (ls.getD 5 .junk))).fold False Rv := by kernel_rfl
noncomputable def S_disk_own_fslot_0p500000 : Go.Cx.Spec := heapS (patH P_disk_own_fslot_0p500000 Q_disk_own_fslot_0p500000 fun ls => opt (g_disk_own_fslot_0p500000 (getI (ls.getD 0 .junk)) (getXs (ls.getD 1 .junk)) (getXs (ls.getD 2 .junk)) (getI (ls.getD 3 .junk)) (getB (ls.getD 4 .junk)) (getB (ls.getD 5 .junk))) fun x => .r (res_disk_own_fslot_0p500000 x))
set_option maxRecDepth 100000 in
theorem S_disk_own_fslot_0p500000_ok : Sound Try.prog 53 S_disk_own_fslot_0p500000 :=
  heap_flat (E := E_disk_own_fslot_0p500000) (TblOK.enK (TblOK.add TYaG128t_ok S55o_ok) _ _ _ _ _) mixed Try.func53 (c := Try.f53.body.getD .skip) (by kernel_rfl) (by kernel_rfl) (by decide) (pats := P_disk_own_fslot_0p500000) (ops := Q_disk_own_fslot_0p500000) (OO := OO_disk_own_fslot_0p500000) (O := O_disk_own_fslot_0p500000) (tup := tup_disk_own_fslot_0p500000) (res := res_disk_own_fslot_0p500000) (g := fun ls => g_disk_own_fslot_0p500000 (getI (ls.getD 0 .junk)) (getXs (ls.getD 1 .junk)) (getXs (ls.getD 2 .junk)) (getI (ls.getD 3 .junk)) (getB (ls.getD 4 .junk)) (getB (ls.getD 5 .junk))) (T := fun ls => T_disk_own_fslot_0p500000 (getI (ls.getD 0 .junk)) (getXs (ls.getD 1 .junk)) (getXs (ls.getD 2 .junk)) (getI (ls.getD 3 .junk)) (getB (ls.getD 4 .junk)) (getB (ls.getD 5 .junk))) (fun _ => rfl) (fun ls => by kernel_rfl) c_disk_own_fslot_0p500000

noncomputable def TYaG129t : FuncId → Option Go.Cx.Spec := addT TYaG128t 53 S_disk_own_fslot_0p500000
theorem TYaG129t_ok : TblOK Try.prog TYaG129t := TYaG128t_ok.add S_disk_own_fslot_0p500000_ok

/- (*comptoir/disk.Disk).Slot -/
noncomputable def E_disk_Disk_Slot_p0500000 : En := enK Try.prog TYaG129t [] [] [] [] 1
def P_disk_Disk_Slot_p0500000 : List Pat := [.lit (.ptr 0 0), .leaf (.int .i64)]
def Q_disk_Disk_Slot_p0500000 : List OPat := [.fix 83 [.leaf (.slice 1 (.int .u8)), .leaf (.slice 1 (.int .u8)), .leaf (.int .i64), .leaf .bool, .leaf .bool]]
def O_disk_Disk_Slot_p0500000 : Pat := .leaf (.slice 1 (.int .u8))
def OO_disk_Disk_Slot_p0500000 : List OPat := [.fix 83 [.leaf (.slice 1 (.int .u8)), .leaf (.slice 1 (.int .u8)), .leaf (.int .i64), .leaf .bool, .leaf .bool]]
def tup_disk_Disk_Slot_p0500000 : List AV → List AV × List AV × List AV × Int × Bool × Bool := fun ls => (getXs (ls.getD 0 .junk), getXs (ls.getD 1 .junk), getXs (ls.getD 2 .junk), getI (ls.getD 3 .junk), getB (ls.getD 4 .junk), getB (ls.getD 5 .junk))
def res_disk_Disk_Slot_p0500000 : List AV × List AV × List AV × Int × Bool × Bool → AV × List Ob := fun x => (.slice 1 (.int .u8) (x.1) .ro, [.fix 83 [.slice 1 (.int .u8) (x.2.1) .ro, .slice 1 (.int .u8) (x.2.2.1) .ro, .int .i64 (x.2.2.2.1), .bool (x.2.2.2.2.1), .bool (x.2.2.2.2.2)]])
noncomputable def T_disk_Disk_Slot_p0500000 (x0 : Int) (x1 : List AV) (x2 : List AV) (x3 : Int) (x4 : Bool) (x5 : Bool) : Tr (List AV × List AV × List AV × Int × Bool × Bool) := (opt (Go.Proofs.Ythocnaabefdokaa.g_disk_own_fslot_0p500000 x0 x1 x2 x3 x4 x5) fun (y0 : List Go.Cx.AV × List Go.Cx.AV × List Go.Cx.AV × Int × Bool × Bool) => (.r ((Prod.fst y0, Prod.fst (Prod.snd y0), Prod.fst (Prod.snd (Prod.snd y0)), Prod.fst (Prod.snd (Prod.snd (Prod.snd y0))), Prod.fst (Prod.snd (Prod.snd (Prod.snd (Prod.snd y0)))), Prod.snd (Prod.snd (Prod.snd (Prod.snd (Prod.snd y0))))))))
noncomputable def g_disk_Disk_Slot_p0500000 (x0 : Int) (x1 : List AV) (x2 : List AV) (x3 : Int) (x4 : Bool) (x5 : Bool) : Option (List AV × List AV × List AV × Int × Bool × Bool) := (T_disk_Disk_Slot_p0500000 x0 x1 x2 x3 x4 x5).val
set_option maxRecDepth 100000 in
theorem c_disk_Disk_Slot_p0500000 (ls : List AV) (Rv : List AV × List AV × List AV × Int × Bool × Bool → Prop) : callA E_disk_Disk_Slot_p0500000 Try.f28 (instL ls P_disk_Disk_Slot_p0500000 0) (instH ls Q_disk_Disk_Slot_p0500000 1) (outH O_disk_Disk_Slot_p0500000 OO_disk_Disk_Slot_p0500000 fun ls => Rv (tup_disk_Disk_Slot_p0500000 ls)) = (T_disk_Disk_Slot_p0500000 (getI (ls.getD 0 .junk)) (getXs (ls.getD 1 .junk)) (getXs (ls.getD 2 .junk)) (getI (ls.getD 3 .junk)) (getB (ls.getD 4 .junk)) (getB (ls.getD 5 .junk))).fold False Rv := by kernel_rfl
noncomputable def S_disk_Disk_Slot_p0500000 : Go.Cx.Spec := heapS (patH P_disk_Disk_Slot_p0500000 Q_disk_Disk_Slot_p0500000 fun ls => opt (g_disk_Disk_Slot_p0500000 (getI (ls.getD 0 .junk)) (getXs (ls.getD 1 .junk)) (getXs (ls.getD 2 .junk)) (getI (ls.getD 3 .junk)) (getB (ls.getD 4 .junk)) (getB (ls.getD 5 .junk))) fun x => .r (res_disk_Disk_Slot_p0500000 x))
set_option maxRecDepth 100000 in
theorem S_disk_Disk_Slot_p0500000_ok : Sound Try.prog 28 S_disk_Disk_Slot_p0500000 :=
  heap_flat (E := E_disk_Disk_Slot_p0500000) (TblOK.enK TYaG129t_ok _ _ _ _ _) mixed Try.func28 (c := Try.f28.body.getD .skip) (by kernel_rfl) (by kernel_rfl) (by decide) (pats := P_disk_Disk_Slot_p0500000) (ops := Q_disk_Disk_Slot_p0500000) (OO := OO_disk_Disk_Slot_p0500000) (O := O_disk_Disk_Slot_p0500000) (tup := tup_disk_Disk_Slot_p0500000) (res := res_disk_Disk_Slot_p0500000) (g := fun ls => g_disk_Disk_Slot_p0500000 (getI (ls.getD 0 .junk)) (getXs (ls.getD 1 .junk)) (getXs (ls.getD 2 .junk)) (getI (ls.getD 3 .junk)) (getB (ls.getD 4 .junk)) (getB (ls.getD 5 .junk))) (T := fun ls => T_disk_Disk_Slot_p0500000 (getI (ls.getD 0 .junk)) (getXs (ls.getD 1 .junk)) (getXs (ls.getD 2 .junk)) (getI (ls.getD 3 .junk)) (getB (ls.getD 4 .junk)) (getB (ls.getD 5 .junk))) (fun _ => rfl) (fun ls => by kernel_rfl) c_disk_Disk_Slot_p0500000

noncomputable def TYaG1210t : FuncId → Option Go.Cx.Spec := addT TYaG129t 28 S_disk_Disk_Slot_p0500000
theorem TYaG1210t_ok : TblOK Try.prog TYaG1210t := TYaG129t_ok.add S_disk_Disk_Slot_p0500000_ok

/- comptoir/comptoirhelp.Bytes -/
noncomputable def E_comptoirhelp_Bytes : En := enK Try.prog TYaG1210t [] [] [] [] 0
def P_comptoirhelp_Bytes : List Pat := [.leaf (.slice 1 (.int .u8)), .leaf (.slice 1 (.int .u8))]
def O_comptoirhelp_Bytes : Pat := .leaf .bool
def tup_comptoirhelp_Bytes : List AV → Bool := fun ls => getB (ls.getD 0 .junk)
def res_comptoirhelp_Bytes : Bool → AV := fun x => .bool (x)
noncomputable def T_comptoirhelp_Bytes (x0 : List AV) (x1 : List AV) : Tr (Bool) := (.r (Go.Cx.bytesOf x0 == Go.Cx.bytesOf x1))
noncomputable def g_comptoirhelp_Bytes (x0 : List AV) (x1 : List AV) : Option (Bool) := (T_comptoirhelp_Bytes x0 x1).val
set_option maxRecDepth 100000 in
theorem c_comptoirhelp_Bytes (ls : List AV) (Rv : Bool → Prop) : callA E_comptoirhelp_Bytes Try.f21 (instL ls P_comptoirhelp_Bytes 0) [] (outP O_comptoirhelp_Bytes fun ls => Rv (tup_comptoirhelp_Bytes ls)) = (T_comptoirhelp_Bytes (getXs (ls.getD 0 .junk)) (getXs (ls.getD 1 .junk))).fold False Rv := by kernel_rfl
noncomputable def S_comptoirhelp_Bytes : Go.Cx.Spec := pureS (patF P_comptoirhelp_Bytes fun ls => opt (g_comptoirhelp_Bytes (getXs (ls.getD 0 .junk)) (getXs (ls.getD 1 .junk))) fun x => .r (res_comptoirhelp_Bytes x))
set_option maxRecDepth 100000 in
theorem S_comptoirhelp_Bytes_ok : Sound Try.prog 21 S_comptoirhelp_Bytes :=
  pure_flat (E := E_comptoirhelp_Bytes) (TblOK.enK TYaG1210t_ok _ _ _ _ _) mixed rfl Try.func21 (c := Try.f21.body.getD .skip) (by kernel_rfl) (by kernel_rfl) (pats := P_comptoirhelp_Bytes) (O := O_comptoirhelp_Bytes) (tup := tup_comptoirhelp_Bytes) (res := res_comptoirhelp_Bytes) (g := fun ls => g_comptoirhelp_Bytes (getXs (ls.getD 0 .junk)) (getXs (ls.getD 1 .junk))) (T := fun ls => T_comptoirhelp_Bytes (getXs (ls.getD 0 .junk)) (getXs (ls.getD 1 .junk))) (fun _ => rfl) (fun ls => by kernel_rfl) c_comptoirhelp_Bytes

noncomputable def TYaG1211t : FuncId → Option Go.Cx.Spec := addT TYaG1210t 21 S_comptoirhelp_Bytes
theorem TYaG1211t_ok : TblOK Try.prog TYaG1211t := TYaG1210t_ok.add S_comptoirhelp_Bytes_ok

/- comptoir/comptoirlaw22.awake -/
noncomputable def E_comptoirlaw22_awake : En := enK Try.prog TYaG1211t [] [] [] [] 0
def P_comptoirlaw22_awake : List Pat := []
def O_comptoirlaw22_awake : Pat := .leaf .bool
def tup_comptoirlaw22_awake : List AV → Bool := fun ls => getB (ls.getD 0 .junk)
def res_comptoirlaw22_awake : Bool → AV := fun x => .bool (x)
noncomputable def T_comptoirlaw22_awake : Tr (Bool) := (opt (Go.Proofs.Ythocnaabefdokaa.g_disk_Disk_Append_p00500000 (0 : Int) [Go.Cx.AV.int Go.IntKind.u8 (1 : Int), Go.Cx.AV.int Go.IntKind.u8 (2 : Int)] [] [] (1 : Int) Bool.true Bool.false) fun (y0 : Int × List Go.Cx.AV × List Go.Cx.AV × Int × Bool × Bool) => (.c (Prod.fst y0 == (24 : Int)) (.c (Prod.snd (Prod.snd (Prod.snd (Prod.snd (Prod.snd y0))))) (opt (Go.Proofs.Ythocnaabefdokaa.g_disk_Disk_Slot_p0500000 (0 : Int) (Prod.fst (Prod.snd y0)) (Prod.fst (Prod.snd (Prod.snd y0))) (Prod.fst (Prod.snd (Prod.snd (Prod.snd y0)))) (Prod.fst (Prod.snd (Prod.snd (Prod.snd (Prod.snd y0))))) (Prod.snd (Prod.snd (Prod.snd (Prod.snd (Prod.snd y0)))))) fun (y1 : List Go.Cx.AV × List Go.Cx.AV × List Go.Cx.AV × Int × Bool × Bool) => (.r (Go.Cx.bytesOf (Prod.fst y1) == [(1 : UInt8)]))) (.r (Bool.false))) (.r (Bool.false))))
noncomputable def g_comptoirlaw22_awake : Option (Bool) := (T_comptoirlaw22_awake).val
set_option maxRecDepth 100000 in
theorem c_comptoirlaw22_awake (ls : List AV) (Rv : Bool → Prop) : callA E_comptoirlaw22_awake Try.f25 (instL ls P_comptoirlaw22_awake 0) [] (outP O_comptoirlaw22_awake fun ls => Rv (tup_comptoirlaw22_awake ls)) = (T_comptoirlaw22_awake).fold False Rv := by kernel_rfl
noncomputable def S_comptoirlaw22_awake : Go.Cx.Spec := pureS (patF P_comptoirlaw22_awake fun ls => opt (g_comptoirlaw22_awake) fun x => .r (res_comptoirlaw22_awake x))
set_option maxRecDepth 100000 in
theorem S_comptoirlaw22_awake_ok : Sound Try.prog 25 S_comptoirlaw22_awake :=
  pure_flat (E := E_comptoirlaw22_awake) (TblOK.enK TYaG1211t_ok _ _ _ _ _) mixed rfl Try.func25 (c := Try.f25.body.getD .skip) (by kernel_rfl) (by kernel_rfl) (pats := P_comptoirlaw22_awake) (O := O_comptoirlaw22_awake) (tup := tup_comptoirlaw22_awake) (res := res_comptoirlaw22_awake) (g := fun ls => g_comptoirlaw22_awake) (T := fun ls => T_comptoirlaw22_awake) (fun _ => rfl) (fun ls => by kernel_rfl) c_comptoirlaw22_awake

noncomputable def TYaG1212t : FuncId → Option Go.Cx.Spec := addT TYaG1211t 25 S_comptoirlaw22_awake
theorem TYaG1212t_ok : TblOK Try.prog TYaG1212t := TYaG1211t_ok.add S_comptoirlaw22_awake_ok

/- (*comptoir/disk.Disk).Tear -/
noncomputable def E_disk_Disk_Tear_n0 : En := enK Try.prog TYaG1212t [] [] [] [] 0
def P_disk_Disk_Tear_n0 : List Pat := [.lit .nilptr, .leaf (.int .i64)]
def O_disk_Disk_Tear_n0 : Pat := .tuple []
def tup_disk_Disk_Tear_n0 : List AV → Unit := fun ls => ()
def res_disk_Disk_Tear_n0 : Unit → AV := fun x => .tuple []
noncomputable def T_disk_Disk_Tear_n0 (x0 : Int) : Tr (Unit) := (.r (()))
noncomputable def g_disk_Disk_Tear_n0 (x0 : Int) : Option (Unit) := (T_disk_Disk_Tear_n0 x0).val
set_option maxRecDepth 100000 in
theorem c_disk_Disk_Tear_n0 (ls : List AV) (Rv : Unit → Prop) : callA E_disk_Disk_Tear_n0 Try.f39 (instL ls P_disk_Disk_Tear_n0 0) [] (outP O_disk_Disk_Tear_n0 fun ls => Rv (tup_disk_Disk_Tear_n0 ls)) = (T_disk_Disk_Tear_n0 (getI (ls.getD 0 .junk))).fold False Rv := by kernel_rfl
noncomputable def S_disk_Disk_Tear_n0 : Go.Cx.Spec := pureS (patF P_disk_Disk_Tear_n0 fun ls => opt (g_disk_Disk_Tear_n0 (getI (ls.getD 0 .junk))) fun x => .r (res_disk_Disk_Tear_n0 x))
set_option maxRecDepth 100000 in
theorem S_disk_Disk_Tear_n0_ok : Sound Try.prog 39 S_disk_Disk_Tear_n0 :=
  pure_flat (E := E_disk_Disk_Tear_n0) (TblOK.enK TYaG1212t_ok _ _ _ _ _) mixed rfl Try.func39 (c := Try.f39.body.getD .skip) (by kernel_rfl) (by kernel_rfl) (pats := P_disk_Disk_Tear_n0) (O := O_disk_Disk_Tear_n0) (tup := tup_disk_Disk_Tear_n0) (res := res_disk_Disk_Tear_n0) (g := fun ls => g_disk_Disk_Tear_n0 (getI (ls.getD 0 .junk))) (T := fun ls => T_disk_Disk_Tear_n0 (getI (ls.getD 0 .junk))) (fun _ => rfl) (fun ls => by kernel_rfl) c_disk_Disk_Tear_n0

noncomputable def TYaG1213t : FuncId → Option Go.Cx.Spec := addT TYaG1212t 39 (orS (tagsB [1, 0]) S_disk_Disk_Tear_n0 S_disk_Disk_Tear_p0500000)
theorem TYaG1213t_ok : TblOK Try.prog TYaG1213t := TYaG1212t_ok.add (Sound.or _ S_disk_Disk_Tear_n0_ok S_disk_Disk_Tear_p0500000_ok)

/- (*comptoir/disk.Disk).Mend -/
noncomputable def E_disk_Disk_Mend_n : En := enK Try.prog TYaG1213t [] [] [] [] 0
def P_disk_Disk_Mend_n : List Pat := [.lit .nilptr]
def O_disk_Disk_Mend_n : Pat := .tuple []
def tup_disk_Disk_Mend_n : List AV → Unit := fun ls => ()
def res_disk_Disk_Mend_n : Unit → AV := fun x => .tuple []
noncomputable def T_disk_Disk_Mend_n : Tr (Unit) := (.r (()))
noncomputable def g_disk_Disk_Mend_n : Option (Unit) := (T_disk_Disk_Mend_n).val
set_option maxRecDepth 100000 in
theorem c_disk_Disk_Mend_n (ls : List AV) (Rv : Unit → Prop) : callA E_disk_Disk_Mend_n Try.f41 (instL ls P_disk_Disk_Mend_n 0) [] (outP O_disk_Disk_Mend_n fun ls => Rv (tup_disk_Disk_Mend_n ls)) = (T_disk_Disk_Mend_n).fold False Rv := by kernel_rfl
noncomputable def S_disk_Disk_Mend_n : Go.Cx.Spec := pureS (patF P_disk_Disk_Mend_n fun ls => opt (g_disk_Disk_Mend_n) fun x => .r (res_disk_Disk_Mend_n x))
set_option maxRecDepth 100000 in
theorem S_disk_Disk_Mend_n_ok : Sound Try.prog 41 S_disk_Disk_Mend_n :=
  pure_flat (E := E_disk_Disk_Mend_n) (TblOK.enK TYaG1213t_ok _ _ _ _ _) mixed rfl Try.func41 (c := Try.f41.body.getD .skip) (by kernel_rfl) (by kernel_rfl) (pats := P_disk_Disk_Mend_n) (O := O_disk_Disk_Mend_n) (tup := tup_disk_Disk_Mend_n) (res := res_disk_Disk_Mend_n) (g := fun ls => g_disk_Disk_Mend_n) (T := fun ls => T_disk_Disk_Mend_n) (fun _ => rfl) (fun ls => by kernel_rfl) c_disk_Disk_Mend_n

noncomputable def TYaG1214t : FuncId → Option Go.Cx.Spec := addT TYaG1213t 41 S_disk_Disk_Mend_n
theorem TYaG1214t_ok : TblOK Try.prog TYaG1214t := TYaG1213t_ok.add S_disk_Disk_Mend_n_ok

/- (*comptoir/disk.Disk).Erase -/
noncomputable def E_disk_Disk_Erase_p0500000 : En := enK Try.prog TYaG1214t [] [] [] [] 1
def P_disk_Disk_Erase_p0500000 : List Pat := [.lit (.ptr 0 0), .leaf (.int .i64)]
def Q_disk_Disk_Erase_p0500000 : List OPat := [.fix 83 [.leaf (.slice 1 (.int .u8)), .leaf (.slice 1 (.int .u8)), .leaf (.int .i64), .leaf .bool, .leaf .bool]]
def O_disk_Disk_Erase_p0500000 : Pat := .leaf (.int .i64)
def OO_disk_Disk_Erase_p0500000 : List OPat := [.fix 83 [.leaf (.slice 1 (.int .u8)), .leaf (.slice 1 (.int .u8)), .leaf (.int .i64), .leaf .bool, .leaf .bool]]
def tup_disk_Disk_Erase_p0500000 : List AV → Int × List AV × List AV × Int × Bool × Bool := fun ls => (getI (ls.getD 0 .junk), getXs (ls.getD 1 .junk), getXs (ls.getD 2 .junk), getI (ls.getD 3 .junk), getB (ls.getD 4 .junk), getB (ls.getD 5 .junk))
def res_disk_Disk_Erase_p0500000 : Int × List AV × List AV × Int × Bool × Bool → AV × List Ob := fun x => (.int .i64 (x.1), [.fix 83 [.slice 1 (.int .u8) (x.2.1) .ro, .slice 1 (.int .u8) (x.2.2.1) .ro, .int .i64 (x.2.2.2.1), .bool (x.2.2.2.2.1), .bool (x.2.2.2.2.2)]])
noncomputable def T_disk_Disk_Erase_p0500000 (x0 : Int) (x1 : List AV) (x2 : List AV) (x3 : Int) (x4 : Bool) (x5 : Bool) : Tr (Int × List AV × List AV × Int × Bool × Bool) := (opt (Go.Proofs.Ythocnaabefdokaa.g_disk_Disk_may_p0 x1 x2 x3 x4 x5 x0) fun (y0 : Int) => (.c (y0 == (0 : Int)) (.c (Decidable.decide (x0 = (1 : Int))) (.r ((y0, x1, [], x3, x4, x5))) (.c (Decidable.decide (x0 = (0 : Int))) (.r ((y0, [], x2, x3, x4, x5))) .bad)) (.r ((y0, x1, x2, x3, x4, x5)))))
noncomputable def g_disk_Disk_Erase_p0500000 (x0 : Int) (x1 : List AV) (x2 : List AV) (x3 : Int) (x4 : Bool) (x5 : Bool) : Option (Int × List AV × List AV × Int × Bool × Bool) := (T_disk_Disk_Erase_p0500000 x0 x1 x2 x3 x4 x5).val
set_option maxRecDepth 100000 in
theorem c_disk_Disk_Erase_p0500000 (ls : List AV) (Rv : Int × List AV × List AV × Int × Bool × Bool → Prop) : callA E_disk_Disk_Erase_p0500000 Try.f29 (instL ls P_disk_Disk_Erase_p0500000 0) (instH ls Q_disk_Disk_Erase_p0500000 1) (outH O_disk_Disk_Erase_p0500000 OO_disk_Disk_Erase_p0500000 fun ls => Rv (tup_disk_Disk_Erase_p0500000 ls)) = (T_disk_Disk_Erase_p0500000 (getI (ls.getD 0 .junk)) (getXs (ls.getD 1 .junk)) (getXs (ls.getD 2 .junk)) (getI (ls.getD 3 .junk)) (getB (ls.getD 4 .junk)) (getB (ls.getD 5 .junk))).fold False Rv := by kernel_rfl
noncomputable def S_disk_Disk_Erase_p0500000 : Go.Cx.Spec := heapS (patH P_disk_Disk_Erase_p0500000 Q_disk_Disk_Erase_p0500000 fun ls => opt (g_disk_Disk_Erase_p0500000 (getI (ls.getD 0 .junk)) (getXs (ls.getD 1 .junk)) (getXs (ls.getD 2 .junk)) (getI (ls.getD 3 .junk)) (getB (ls.getD 4 .junk)) (getB (ls.getD 5 .junk))) fun x => .r (res_disk_Disk_Erase_p0500000 x))
set_option maxRecDepth 100000 in
theorem S_disk_Disk_Erase_p0500000_ok : Sound Try.prog 29 S_disk_Disk_Erase_p0500000 :=
  heap_flat (E := E_disk_Disk_Erase_p0500000) (TblOK.enK TYaG1214t_ok _ _ _ _ _) mixed Try.func29 (c := Try.f29.body.getD .skip) (by kernel_rfl) (by kernel_rfl) (by decide) (pats := P_disk_Disk_Erase_p0500000) (ops := Q_disk_Disk_Erase_p0500000) (OO := OO_disk_Disk_Erase_p0500000) (O := O_disk_Disk_Erase_p0500000) (tup := tup_disk_Disk_Erase_p0500000) (res := res_disk_Disk_Erase_p0500000) (g := fun ls => g_disk_Disk_Erase_p0500000 (getI (ls.getD 0 .junk)) (getXs (ls.getD 1 .junk)) (getXs (ls.getD 2 .junk)) (getI (ls.getD 3 .junk)) (getB (ls.getD 4 .junk)) (getB (ls.getD 5 .junk))) (T := fun ls => T_disk_Disk_Erase_p0500000 (getI (ls.getD 0 .junk)) (getXs (ls.getD 1 .junk)) (getXs (ls.getD 2 .junk)) (getI (ls.getD 3 .junk)) (getB (ls.getD 4 .junk)) (getB (ls.getD 5 .junk))) (fun _ => rfl) (fun ls => by kernel_rfl) c_disk_Disk_Erase_p0500000

noncomputable def TYaG1215t : FuncId → Option Go.Cx.Spec := addT TYaG1214t 29 S_disk_Disk_Erase_p0500000
theorem TYaG1215t_ok : TblOK Try.prog TYaG1215t := TYaG1214t_ok.add S_disk_Disk_Erase_p0500000_ok

/- (*comptoir/disk.Disk).may -/
noncomputable def E_disk_Disk_may_n0 : En := enK Try.prog TYaG1215t [] [] [] [] 0
def P_disk_Disk_may_n0 : List Pat := [.lit .nilptr, .leaf (.int .i64)]
def O_disk_Disk_may_n0 : Pat := .leaf (.int .i64)
def tup_disk_Disk_may_n0 : List AV → Int := fun ls => getI (ls.getD 0 .junk)
def res_disk_Disk_may_n0 : Int → AV := fun x => .int .i64 (x)
noncomputable def T_disk_Disk_may_n0 (x0 : Int) : Tr (Int) := (.r ((2 : Int)))
noncomputable def g_disk_Disk_may_n0 (x0 : Int) : Option (Int) := (T_disk_Disk_may_n0 x0).val
set_option maxRecDepth 100000 in
theorem c_disk_Disk_may_n0 (ls : List AV) (Rv : Int → Prop) : callA E_disk_Disk_may_n0 Try.f52 (instL ls P_disk_Disk_may_n0 0) [] (outP O_disk_Disk_may_n0 fun ls => Rv (tup_disk_Disk_may_n0 ls)) = (T_disk_Disk_may_n0 (getI (ls.getD 0 .junk))).fold False Rv := by kernel_rfl
noncomputable def S_disk_Disk_may_n0 : Go.Cx.Spec := pureS (patF P_disk_Disk_may_n0 fun ls => opt (g_disk_Disk_may_n0 (getI (ls.getD 0 .junk))) fun x => .r (res_disk_Disk_may_n0 x))
set_option maxRecDepth 100000 in
theorem S_disk_Disk_may_n0_ok : Sound Try.prog 52 S_disk_Disk_may_n0 :=
  pure_flat (E := E_disk_Disk_may_n0) (TblOK.enK TYaG1215t_ok _ _ _ _ _) mixed rfl Try.func52 (c := Try.f52.body.getD .skip) (by kernel_rfl) (by kernel_rfl) (pats := P_disk_Disk_may_n0) (O := O_disk_Disk_may_n0) (tup := tup_disk_Disk_may_n0) (res := res_disk_Disk_may_n0) (g := fun ls => g_disk_Disk_may_n0 (getI (ls.getD 0 .junk))) (T := fun ls => T_disk_Disk_may_n0 (getI (ls.getD 0 .junk))) (fun _ => rfl) (fun ls => by kernel_rfl) c_disk_Disk_may_n0

noncomputable def TYaG1216t : FuncId → Option Go.Cx.Spec := addT TYaG1215t 52 (orS (tagsB [1, 0]) S_disk_Disk_may_n0 S_disk_Disk_may_p0)
theorem TYaG1216t_ok : TblOK Try.prog TYaG1216t := TYaG1215t_ok.add (Sound.or _ S_disk_Disk_may_n0_ok S_disk_Disk_may_p0_ok)

/- (*comptoir/disk.Disk).Append -/
noncomputable def E_disk_Disk_Append_n00 : En := enK Try.prog TYaG1216t [] [] [] [] 0
def P_disk_Disk_Append_n00 : List Pat := [.lit .nilptr, .leaf (.int .i64), .leaf (.slice 1 (.int .u8))]
def O_disk_Disk_Append_n00 : Pat := .leaf (.int .i64)
def tup_disk_Disk_Append_n00 : List AV → Int := fun ls => getI (ls.getD 0 .junk)
def res_disk_Disk_Append_n00 : Int → AV := fun x => .int .i64 (x)
noncomputable def T_disk_Disk_Append_n00 (x0 : Int) (x1 : List AV) : Tr (Int) := (.r ((2 : Int)))
noncomputable def g_disk_Disk_Append_n00 (x0 : Int) (x1 : List AV) : Option (Int) := (T_disk_Disk_Append_n00 x0 x1).val
set_option maxRecDepth 100000 in
theorem c_disk_Disk_Append_n00 (ls : List AV) (Rv : Int → Prop) : callA E_disk_Disk_Append_n00 Try.f27 (instL ls P_disk_Disk_Append_n00 0) [] (outP O_disk_Disk_Append_n00 fun ls => Rv (tup_disk_Disk_Append_n00 ls)) = (T_disk_Disk_Append_n00 (getI (ls.getD 0 .junk)) (getXs (ls.getD 1 .junk))).fold False Rv := by kernel_rfl
noncomputable def S_disk_Disk_Append_n00 : Go.Cx.Spec := pureS (patF P_disk_Disk_Append_n00 fun ls => opt (g_disk_Disk_Append_n00 (getI (ls.getD 0 .junk)) (getXs (ls.getD 1 .junk))) fun x => .r (res_disk_Disk_Append_n00 x))
set_option maxRecDepth 100000 in
theorem S_disk_Disk_Append_n00_ok : Sound Try.prog 27 S_disk_Disk_Append_n00 :=
  pure_flat (E := E_disk_Disk_Append_n00) (TblOK.enK TYaG1216t_ok _ _ _ _ _) mixed rfl Try.func27 (c := Try.f27.body.getD .skip) (by kernel_rfl) (by kernel_rfl) (pats := P_disk_Disk_Append_n00) (O := O_disk_Disk_Append_n00) (tup := tup_disk_Disk_Append_n00) (res := res_disk_Disk_Append_n00) (g := fun ls => g_disk_Disk_Append_n00 (getI (ls.getD 0 .junk)) (getXs (ls.getD 1 .junk))) (T := fun ls => T_disk_Disk_Append_n00 (getI (ls.getD 0 .junk)) (getXs (ls.getD 1 .junk))) (fun _ => rfl) (fun ls => by kernel_rfl) c_disk_Disk_Append_n00

noncomputable def TYaG1217t : FuncId → Option Go.Cx.Spec := addT TYaG1216t 27 (orS (tagsB [1, 0, 0]) S_disk_Disk_Append_n00 S_disk_Disk_Append_p00500000)
theorem TYaG1217t_ok : TblOK Try.prog TYaG1217t := TYaG1216t_ok.add (Sound.or _ S_disk_Disk_Append_n00_ok S_disk_Disk_Append_p00500000_ok)

/- (*comptoir/disk.Disk).Erase -/
noncomputable def E_disk_Disk_Erase_n0 : En := enK Try.prog TYaG1217t [] [] [] [] 0
def P_disk_Disk_Erase_n0 : List Pat := [.lit .nilptr, .leaf (.int .i64)]
def O_disk_Disk_Erase_n0 : Pat := .leaf (.int .i64)
def tup_disk_Disk_Erase_n0 : List AV → Int := fun ls => getI (ls.getD 0 .junk)
def res_disk_Disk_Erase_n0 : Int → AV := fun x => .int .i64 (x)
noncomputable def T_disk_Disk_Erase_n0 (x0 : Int) : Tr (Int) := (.r ((2 : Int)))
noncomputable def g_disk_Disk_Erase_n0 (x0 : Int) : Option (Int) := (T_disk_Disk_Erase_n0 x0).val
set_option maxRecDepth 100000 in
theorem c_disk_Disk_Erase_n0 (ls : List AV) (Rv : Int → Prop) : callA E_disk_Disk_Erase_n0 Try.f29 (instL ls P_disk_Disk_Erase_n0 0) [] (outP O_disk_Disk_Erase_n0 fun ls => Rv (tup_disk_Disk_Erase_n0 ls)) = (T_disk_Disk_Erase_n0 (getI (ls.getD 0 .junk))).fold False Rv := by kernel_rfl
noncomputable def S_disk_Disk_Erase_n0 : Go.Cx.Spec := pureS (patF P_disk_Disk_Erase_n0 fun ls => opt (g_disk_Disk_Erase_n0 (getI (ls.getD 0 .junk))) fun x => .r (res_disk_Disk_Erase_n0 x))
set_option maxRecDepth 100000 in
theorem S_disk_Disk_Erase_n0_ok : Sound Try.prog 29 S_disk_Disk_Erase_n0 :=
  pure_flat (E := E_disk_Disk_Erase_n0) (TblOK.enK TYaG1217t_ok _ _ _ _ _) mixed rfl Try.func29 (c := Try.f29.body.getD .skip) (by kernel_rfl) (by kernel_rfl) (pats := P_disk_Disk_Erase_n0) (O := O_disk_Disk_Erase_n0) (tup := tup_disk_Disk_Erase_n0) (res := res_disk_Disk_Erase_n0) (g := fun ls => g_disk_Disk_Erase_n0 (getI (ls.getD 0 .junk))) (T := fun ls => T_disk_Disk_Erase_n0 (getI (ls.getD 0 .junk))) (fun _ => rfl) (fun ls => by kernel_rfl) c_disk_Disk_Erase_n0

noncomputable def TYaG1218t : FuncId → Option Go.Cx.Spec := addT TYaG1217t 29 (orS (tagsB [1, 0]) S_disk_Disk_Erase_n0 S_disk_Disk_Erase_p0500000)
theorem TYaG1218t_ok : TblOK Try.prog TYaG1218t := TYaG1217t_ok.add (Sound.or _ S_disk_Disk_Erase_n0_ok S_disk_Disk_Erase_p0500000_ok)

/- (*comptoir/disk.Disk).Torn -/
noncomputable def E_disk_Disk_Torn_n : En := enK Try.prog TYaG1218t [] [] [] [] 0
def P_disk_Disk_Torn_n : List Pat := [.lit .nilptr]
def O_disk_Disk_Torn_n : Pat := .leaf .bool
def tup_disk_Disk_Torn_n : List AV → Bool := fun ls => getB (ls.getD 0 .junk)
def res_disk_Disk_Torn_n : Bool → AV := fun x => .bool (x)
noncomputable def T_disk_Disk_Torn_n : Tr (Bool) := (.r (Bool.false))
noncomputable def g_disk_Disk_Torn_n : Option (Bool) := (T_disk_Disk_Torn_n).val
set_option maxRecDepth 100000 in
theorem c_disk_Disk_Torn_n (ls : List AV) (Rv : Bool → Prop) : callA E_disk_Disk_Torn_n Try.f44 (instL ls P_disk_Disk_Torn_n 0) [] (outP O_disk_Disk_Torn_n fun ls => Rv (tup_disk_Disk_Torn_n ls)) = (T_disk_Disk_Torn_n).fold False Rv := by kernel_rfl
noncomputable def S_disk_Disk_Torn_n : Go.Cx.Spec := pureS (patF P_disk_Disk_Torn_n fun ls => opt (g_disk_Disk_Torn_n) fun x => .r (res_disk_Disk_Torn_n x))
set_option maxRecDepth 100000 in
theorem S_disk_Disk_Torn_n_ok : Sound Try.prog 44 S_disk_Disk_Torn_n :=
  pure_flat (E := E_disk_Disk_Torn_n) (TblOK.enK TYaG1218t_ok _ _ _ _ _) mixed rfl Try.func44 (c := Try.f44.body.getD .skip) (by kernel_rfl) (by kernel_rfl) (pats := P_disk_Disk_Torn_n) (O := O_disk_Disk_Torn_n) (tup := tup_disk_Disk_Torn_n) (res := res_disk_Disk_Torn_n) (g := fun ls => g_disk_Disk_Torn_n) (T := fun ls => T_disk_Disk_Torn_n) (fun _ => rfl) (fun ls => by kernel_rfl) c_disk_Disk_Torn_n

noncomputable def TYaG1219t : FuncId → Option Go.Cx.Spec := addT TYaG1218t 44 (orS (tagsB [1]) S_disk_Disk_Torn_n S_disk_Disk_Torn_p)
theorem TYaG1219t_ok : TblOK Try.prog TYaG1219t := TYaG1218t_ok.add (Sound.or _ S_disk_Disk_Torn_n_ok S_disk_Disk_Torn_p_ok)

/- (*comptoir/disk.Disk).slot -/
noncomputable def E_disk_Disk_slot_n0 : En := enK Try.prog TYaG1219t [] [] [] [] 0
def P_disk_Disk_slot_n0 : List Pat := [.lit .nilptr, .leaf (.int .i64)]
def Q_disk_Disk_slot_n0 : List OPat := []
def O_disk_Disk_slot_n0 : Pat := .leaf (.slice 1 (.int .u8))
def OO_disk_Disk_slot_n0 : List OPat := []
def tup_disk_Disk_slot_n0 : List AV → List AV := fun ls => getXs (ls.getD 0 .junk)
def res_disk_Disk_slot_n0 : List AV → AV × List Ob := fun x => (.slice 1 (.int .u8) (x) .ro, [])
noncomputable def T_disk_Disk_slot_n0 (x0 : Int) : Tr (List AV) := (.r ([]))
noncomputable def g_disk_Disk_slot_n0 (x0 : Int) : Option (List AV) := (T_disk_Disk_slot_n0 x0).val
set_option maxRecDepth 100000 in
theorem c_disk_Disk_slot_n0 (ls : List AV) (Rv : List AV → Prop) : callA E_disk_Disk_slot_n0 Try.f54 (instL ls P_disk_Disk_slot_n0 0) (instH ls Q_disk_Disk_slot_n0 1) (outH O_disk_Disk_slot_n0 OO_disk_Disk_slot_n0 fun ls => Rv (tup_disk_Disk_slot_n0 ls)) = (T_disk_Disk_slot_n0 (getI (ls.getD 0 .junk))).fold False Rv := by kernel_rfl
noncomputable def S_disk_Disk_slot_n0 : Go.Cx.Spec := heapS (patH P_disk_Disk_slot_n0 Q_disk_Disk_slot_n0 fun ls => opt (g_disk_Disk_slot_n0 (getI (ls.getD 0 .junk))) fun x => .r (res_disk_Disk_slot_n0 x))
set_option maxRecDepth 100000 in
theorem S_disk_Disk_slot_n0_ok : Sound Try.prog 54 S_disk_Disk_slot_n0 :=
  heap_flat (E := E_disk_Disk_slot_n0) (TblOK.enK TYaG1219t_ok _ _ _ _ _) mixed Try.func54 (c := Try.f54.body.getD .skip) (by kernel_rfl) (by kernel_rfl) (by decide) (pats := P_disk_Disk_slot_n0) (ops := Q_disk_Disk_slot_n0) (OO := OO_disk_Disk_slot_n0) (O := O_disk_Disk_slot_n0) (tup := tup_disk_Disk_slot_n0) (res := res_disk_Disk_slot_n0) (g := fun ls => g_disk_Disk_slot_n0 (getI (ls.getD 0 .junk))) (T := fun ls => T_disk_Disk_slot_n0 (getI (ls.getD 0 .junk))) (fun _ => rfl) (fun ls => by kernel_rfl) c_disk_Disk_slot_n0

noncomputable def TYaG1220t : FuncId → Option Go.Cx.Spec := addT TYaG1219t 54 (orH [1, 0] S_disk_Disk_slot_n0 S_disk_Disk_slot_p0500000)
theorem TYaG1220t_ok : TblOK Try.prog TYaG1220t := TYaG1219t_ok.add (Sound.orH [1, 0] (Writes.heapS _) (Writes.heapS _) S_disk_Disk_slot_n0_ok S_disk_Disk_slot_p0500000_ok)

/- comptoir/disk.own -/
noncomputable def E_disk_own_fslot_0n : En := enK Try.prog (addT TYaG1220t 55 S55o) [] [] [] [] 0
def P_disk_own_fslot_0n : List Pat := [.func 54 [.lit .nilptr] [], .leaf (.int .i64)]
def Q_disk_own_fslot_0n : List OPat := []
def O_disk_own_fslot_0n : Pat := .leaf (.slice 1 (.int .u8))
def OO_disk_own_fslot_0n : List OPat := []
def tup_disk_own_fslot_0n : List AV → List AV := fun ls => getXs (ls.getD 0 .junk)
def res_disk_own_fslot_0n : List AV → AV × List Ob := fun x => (.slice 1 (.int .u8) (x) .ro, [])
noncomputable def T_disk_own_fslot_0n (x0 : Int) : Tr (List AV) := (.r ([]))
noncomputable def g_disk_own_fslot_0n (x0 : Int) : Option (List AV) := (T_disk_own_fslot_0n x0).val
set_option maxRecDepth 100000 in
theorem c_disk_own_fslot_0n (ls : List AV) (Rv : List AV → Prop) : callA E_disk_own_fslot_0n Try.f53 (instL ls P_disk_own_fslot_0n 0) (instH ls Q_disk_own_fslot_0n 1) (outH O_disk_own_fslot_0n OO_disk_own_fslot_0n fun ls => Rv (tup_disk_own_fslot_0n ls)) = (T_disk_own_fslot_0n (getI (ls.getD 0 .junk))).fold False Rv := by kernel_rfl
noncomputable def S_disk_own_fslot_0n : Go.Cx.Spec := heapS (patH P_disk_own_fslot_0n Q_disk_own_fslot_0n fun ls => opt (g_disk_own_fslot_0n (getI (ls.getD 0 .junk))) fun x => .r (res_disk_own_fslot_0n x))
set_option maxRecDepth 100000 in
theorem S_disk_own_fslot_0n_ok : Sound Try.prog 53 S_disk_own_fslot_0n :=
  heap_flat (E := E_disk_own_fslot_0n) (TblOK.enK (TblOK.add TYaG1220t_ok S55o_ok) _ _ _ _ _) mixed Try.func53 (c := Try.f53.body.getD .skip) (by kernel_rfl) (by kernel_rfl) (by decide) (pats := P_disk_own_fslot_0n) (ops := Q_disk_own_fslot_0n) (OO := OO_disk_own_fslot_0n) (O := O_disk_own_fslot_0n) (tup := tup_disk_own_fslot_0n) (res := res_disk_own_fslot_0n) (g := fun ls => g_disk_own_fslot_0n (getI (ls.getD 0 .junk))) (T := fun ls => T_disk_own_fslot_0n (getI (ls.getD 0 .junk))) (fun _ => rfl) (fun ls => by kernel_rfl) c_disk_own_fslot_0n

noncomputable def TYaG1221t : FuncId → Option Go.Cx.Spec := addT TYaG1220t 53 (orH [64, 0, 1] S_disk_own_fslot_0n S_disk_own_fslot_0p500000)
theorem TYaG1221t_ok : TblOK Try.prog TYaG1221t := TYaG1220t_ok.add (Sound.orH [64, 0, 1] (Writes.heapS _) (Writes.heapS _) S_disk_own_fslot_0n_ok S_disk_own_fslot_0p500000_ok)

/- (*comptoir/disk.Disk).Slot -/
noncomputable def E_disk_Disk_Slot_n0 : En := enK Try.prog TYaG1221t [] [] [] [] 0
def P_disk_Disk_Slot_n0 : List Pat := [.lit .nilptr, .leaf (.int .i64)]
def Q_disk_Disk_Slot_n0 : List OPat := []
def O_disk_Disk_Slot_n0 : Pat := .leaf (.slice 1 (.int .u8))
def OO_disk_Disk_Slot_n0 : List OPat := []
def tup_disk_Disk_Slot_n0 : List AV → List AV := fun ls => getXs (ls.getD 0 .junk)
def res_disk_Disk_Slot_n0 : List AV → AV × List Ob := fun x => (.slice 1 (.int .u8) (x) .ro, [])
noncomputable def T_disk_Disk_Slot_n0 (x0 : Int) : Tr (List AV) := (.r ([]))
noncomputable def g_disk_Disk_Slot_n0 (x0 : Int) : Option (List AV) := (T_disk_Disk_Slot_n0 x0).val
set_option maxRecDepth 100000 in
theorem c_disk_Disk_Slot_n0 (ls : List AV) (Rv : List AV → Prop) : callA E_disk_Disk_Slot_n0 Try.f28 (instL ls P_disk_Disk_Slot_n0 0) (instH ls Q_disk_Disk_Slot_n0 1) (outH O_disk_Disk_Slot_n0 OO_disk_Disk_Slot_n0 fun ls => Rv (tup_disk_Disk_Slot_n0 ls)) = (T_disk_Disk_Slot_n0 (getI (ls.getD 0 .junk))).fold False Rv := by kernel_rfl
noncomputable def S_disk_Disk_Slot_n0 : Go.Cx.Spec := heapS (patH P_disk_Disk_Slot_n0 Q_disk_Disk_Slot_n0 fun ls => opt (g_disk_Disk_Slot_n0 (getI (ls.getD 0 .junk))) fun x => .r (res_disk_Disk_Slot_n0 x))
set_option maxRecDepth 100000 in
theorem S_disk_Disk_Slot_n0_ok : Sound Try.prog 28 S_disk_Disk_Slot_n0 :=
  heap_flat (E := E_disk_Disk_Slot_n0) (TblOK.enK TYaG1221t_ok _ _ _ _ _) mixed Try.func28 (c := Try.f28.body.getD .skip) (by kernel_rfl) (by kernel_rfl) (by decide) (pats := P_disk_Disk_Slot_n0) (ops := Q_disk_Disk_Slot_n0) (OO := OO_disk_Disk_Slot_n0) (O := O_disk_Disk_Slot_n0) (tup := tup_disk_Disk_Slot_n0) (res := res_disk_Disk_Slot_n0) (g := fun ls => g_disk_Disk_Slot_n0 (getI (ls.getD 0 .junk))) (T := fun ls => T_disk_Disk_Slot_n0 (getI (ls.getD 0 .junk))) (fun _ => rfl) (fun ls => by kernel_rfl) c_disk_Disk_Slot_n0

noncomputable def TYaG1222t : FuncId → Option Go.Cx.Spec := addT TYaG1221t 28 (orH [1, 0] S_disk_Disk_Slot_n0 S_disk_Disk_Slot_p0500000)
theorem TYaG1222t_ok : TblOK Try.prog TYaG1222t := TYaG1221t_ok.add (Sound.orH [1, 0] (Writes.heapS _) (Writes.heapS _) S_disk_Disk_Slot_n0_ok S_disk_Disk_Slot_p0500000_ok)

/- comptoir/comptoirlaw22.DiskFull -/
noncomputable def E_comptoirlaw22_DiskFull : En := enK Try.prog (addT TYaG1222t 27 (frzAr (orS (tagsB [1, 0, 0]) S_disk_Disk_Append_n00 S_disk_Disk_Append_p00500000))) [] [(4, ⟨[2, 3, 4, 6, 7, 8, 9, 10, 11, 12, 13, 14, 15, 16, 17, 18, 19, 20, 21, 22, 23, 24, 25, 26, 27, 28, 29, 30, 31, 33, 34, 35, 36, 37, 38, 39, 40, 41, 42, 43, 44, 45, 46, 47, 48, 49, 50, 51, 52, 53, 54, 55, 56, 57, 58, 59, 60, 61, 62, 63, 64, 65, 66, 67, 68, 69, 70, 71, 72, 73, 74, 75, 76, 77, 78, 79, 80, 81, 82, 83, 84, 85, 86, 87, 88, 89, 90, 91, 92, 93], [], [], some 1000, [], []⟩)] [] [] 0
def P_comptoirlaw22_DiskFull : List Pat := [.leaf (.int .i64), .leaf (.int .i64)]
def O_comptoirlaw22_DiskFull : Pat := .leaf .bool
def tup_comptoirlaw22_DiskFull : List AV → Bool := fun ls => getB (ls.getD 0 .junk)
def res_comptoirlaw22_DiskFull : Bool → AV := fun x => .bool (x)
noncomputable def T_comptoirlaw22_DiskFull (x0 : Int) (x1 : Int) : Tr (((Int) ⊕ (Int × Bool × List AV × List AV × Int × Bool × Bool)) ⊕ (Bool)) := (opt (Go.Proofs.Ythocnaabefdokaa.g_comptoirlaw22_awake) fun (y0 : Bool) => (.c (!y0) (.r (.inl (.inl (Go.IntKind.wrap Go.IntKind.i64 ((1999997 : Int) + Go.IntKind.wrap Go.IntKind.i64 (Int.tmod (Go.IntKind.wrap Go.IntKind.u64 x0) (3 : Int))))))) (.c (Decidable.decide ((0 : Int) ≤ Go.IntKind.wrap Go.IntKind.i64 ((1999997 : Int) + Go.IntKind.wrap Go.IntKind.i64 (Int.tmod (Go.IntKind.wrap Go.IntKind.u64 x0) (3 : Int))))) (.c (Go.IntKind.wrap Go.IntKind.i64 ((1999997 : Int) + Go.IntKind.wrap Go.IntKind.i64 (Int.tmod (Go.IntKind.wrap Go.IntKind.u64 x0) (3 : Int))) == Go.IntKind.wrap Go.IntKind.i64 ((1999997 : Int) + Go.IntKind.wrap Go.IntKind.i64 (Int.tmod (Go.IntKind.wrap Go.IntKind.u64 x0) (3 : Int)))) (.c (Decidable.decide (List.length (List.replicate (Int.toNat (Go.IntKind.wrap Go.IntKind.i64 ((1999997 : Int) + Go.IntKind.wrap Go.IntKind.i64 (Int.tmod (Go.IntKind.wrap Go.IntKind.u64 x0) (3 : Int))))) (Go.Cx.AV.int Go.IntKind.u8 (0 : Int))) * (2 : Nat) < (70368744177664 : Nat))) (.c (Bool.true && List.length (List.replicate (Int.toNat (Go.IntKind.wrap Go.IntKind.i64 ((1999997 : Int) + Go.IntKind.wrap Go.IntKind.i64 (Int.tmod (Go.IntKind.wrap Go.IntKind.u64 x0) (3 : Int))))) (Go.Cx.AV.int Go.IntKind.u8 (0 : Int))) == List.length (List.replicate (Int.toNat (Go.IntKind.wrap Go.IntKind.i64 ((1999997 : Int) + Go.IntKind.wrap Go.IntKind.i64 (Int.tmod (Go.IntKind.wrap Go.IntKind.u64 x0) (3 : Int))))) (Go.Cx.AV.int Go.IntKind.u8 (0 : Int)))) (opt (Go.Proofs.Ythocnaabefdokaa.g_disk_Disk_Append_p00500000 (Go.IntKind.wrap Go.IntKind.i64 (Int.tmod (Go.IntKind.wrap Go.IntKind.u64 x1) (2 : Int))) (List.replicate (Int.toNat (Go.IntKind.wrap Go.IntKind.i64 ((1999997 : Int) + Go.IntKind.wrap Go.IntKind.i64 (Int.tmod (Go.IntKind.wrap Go.IntKind.u64 x0) (3 : Int))))) (Go.Cx.AV.int Go.IntKind.u8 (0 : Int))) [] [] (0 : Int) Bool.false Bool.false) fun (y1 : Int × List Go.Cx.AV × List Go.Cx.AV × Int × Bool × Bool) => (.r (.inl (.inr ((Go.IntKind.wrap Go.IntKind.i64 ((1999997 : Int) + Go.IntKind.wrap Go.IntKind.i64 (Int.tmod (Go.IntKind.wrap Go.IntKind.u64 x0) (3 : Int))), Prod.fst y1 != (0 : Int), Prod.fst (Prod.snd y1), Prod.fst (Prod.snd (Prod.snd y1)), Prod.fst (Prod.snd (Prod.snd (Prod.snd y1))), Prod.fst (Prod.snd (Prod.snd (Prod.snd (Prod.snd y1)))), Prod.snd (Prod.snd (Prod.snd (Prod.snd (Prod.snd y1)))))))))) .bad) .bad) .bad) .bad)))
noncomputable def M_comptoirlaw22_DiskFull (x0 : Int) (x1 : Int) : (Int) ⊕ (Int × Bool × List AV × List AV × Int × Bool × Bool) → Tr (((Int) ⊕ (Int × Bool × List AV × List AV × Int × Bool × Bool)) ⊕ (Bool))
  | .inl (i0) => (.r (.inr (Bool.false)))
  | .inr ((i1, b0, l0, l1, i2, b1, b2)) => (.c (b0) (.r (.inr (Bool.false))) (.c (Decidable.decide ((0 : Int) ≤ Go.IntKind.wrap Go.IntKind.i64 (Go.IntKind.wrap Go.IntKind.i64 ((2000000 : Int) - i1) + (1 : Int)))) (.c (Go.IntKind.wrap Go.IntKind.i64 (Go.IntKind.wrap Go.IntKind.i64 ((2000000 : Int) - i1) + (1 : Int)) == Go.IntKind.wrap Go.IntKind.i64 (Go.IntKind.wrap Go.IntKind.i64 ((2000000 : Int) - i1) + (1 : Int))) (.c (Decidable.decide (List.length (List.replicate (Int.toNat (Go.IntKind.wrap Go.IntKind.i64 (Go.IntKind.wrap Go.IntKind.i64 ((2000000 : Int) - i1) + (1 : Int)))) (Go.Cx.AV.int Go.IntKind.u8 (0 : Int))) * (2 : Nat) < (70368744177664 : Nat))) (.c (Bool.true && List.length (List.replicate (Int.toNat (Go.IntKind.wrap Go.IntKind.i64 (Go.IntKind.wrap Go.IntKind.i64 ((2000000 : Int) - i1) + (1 : Int)))) (Go.Cx.AV.int Go.IntKind.u8 (0 : Int))) == List.length (List.replicate (Int.toNat (Go.IntKind.wrap Go.IntKind.i64 (Go.IntKind.wrap Go.IntKind.i64 ((2000000 : Int) - i1) + (1 : Int)))) (Go.Cx.AV.int Go.IntKind.u8 (0 : Int)))) (opt (Go.Proofs.Ythocnaabefdokaa.g_disk_Disk_Append_p00500000 (Go.IntKind.wrap Go.IntKind.i64 (Int.tmod (Go.IntKind.wrap Go.IntKind.u64 x1) (2 : Int))) (List.replicate (Int.toNat (Go.IntKind.wrap Go.IntKind.i64 (Go.IntKind.wrap Go.IntKind.i64 ((2000000 : Int) - i1) + (1 : Int)))) (Go.Cx.AV.int Go.IntKind.u8 (0 : Int))) l0 l1 i2 b1 b2) fun (y0 : Int × List Go.Cx.AV × List Go.Cx.AV × Int × Bool × Bool) => (.c (Decidable.decide ((0 : Int) ≤ Go.IntKind.wrap Go.IntKind.i64 ((2000000 : Int) - i1))) (.c (Go.IntKind.wrap Go.IntKind.i64 ((2000000 : Int) - i1) == Go.IntKind.wrap Go.IntKind.i64 ((2000000 : Int) - i1)) (.c (Decidable.decide (List.length (List.replicate (Int.toNat (Go.IntKind.wrap Go.IntKind.i64 ((2000000 : Int) - i1))) (Go.Cx.AV.int Go.IntKind.u8 (0 : Int))) * (2 : Nat) < (70368744177664 : Nat))) (.c (Bool.true && List.length (List.replicate (Int.toNat (Go.IntKind.wrap Go.IntKind.i64 ((2000000 : Int) - i1))) (Go.Cx.AV.int Go.IntKind.u8 (0 : Int))) == List.length (List.replicate (Int.toNat (Go.IntKind.wrap Go.IntKind.i64 ((2000000 : Int) - i1))) (Go.Cx.AV.int Go.IntKind.u8 (0 : Int)))) (opt (Go.Proofs.Ythocnaabefdokaa.g_disk_Disk_Append_p00500000 (Go.IntKind.wrap Go.IntKind.i64 (Int.tmod (Go.IntKind.wrap Go.IntKind.u64 x1) (2 : Int))) (List.replicate (Int.toNat (Go.IntKind.wrap Go.IntKind.i64 ((2000000 : Int) - i1))) (Go.Cx.AV.int Go.IntKind.u8 (0 : Int))) (Prod.fst (Prod.snd y0)) (Prod.fst (Prod.snd (Prod.snd y0))) (Prod.fst (Prod.snd (Prod.snd (Prod.snd y0)))) (Prod.fst (Prod.snd (Prod.snd (Prod.snd (Prod.snd y0))))) (Prod.snd (Prod.snd (Prod.snd (Prod.snd (Prod.snd y0)))))) fun (y1 : Int × List Go.Cx.AV × List Go.Cx.AV × Int × Bool × Bool) => (.c (Prod.fst y0 == (4 : Int)) (.c (Prod.fst y1 == (0 : Int)) (opt (Go.Proofs.Ythocnaabefdokaa.g_disk_Disk_Slot_p0500000 (Go.IntKind.wrap Go.IntKind.i64 (Int.tmod (Go.IntKind.wrap Go.IntKind.u64 x1) (2 : Int))) (Prod.fst (Prod.snd y1)) (Prod.fst (Prod.snd (Prod.snd y1))) (Prod.fst (Prod.snd (Prod.snd (Prod.snd y1)))) (Prod.fst (Prod.snd (Prod.snd (Prod.snd (Prod.snd y1))))) (Prod.snd (Prod.snd (Prod.snd (Prod.snd (Prod.snd y1)))))) fun (y2 : List Go.Cx.AV × List Go.Cx.AV × List Go.Cx.AV × Int × Bool × Bool) => (.c ((↑(List.length (Prod.fst y2)) : Int) == (2000000 : Int)) (.r (.inr (Bool.true))) (.r (.inr (Bool.false))))) (.r (.inr (Bool.false)))) (.r (.inr (Bool.false))))) .bad) .bad) .bad) .bad)) .bad) .bad) .bad) .bad))
noncomputable def g_comptoirlaw22_DiskFull (x0 : Int) (x1 : Int) : Option (Bool) := run (M_comptoirlaw22_DiskFull x0 x1) (T_comptoirlaw22_DiskFull x0 x1)
noncomputable def b_comptoirlaw22_DiskFull := Try.f12.body.getD .skip
def st_comptoirlaw22_DiskFull_0 (x0 : Int) (x1 : Int) (i0 : Int) : St := ⟨frOf 0 94 [(0, Go.Cx.AV.int Go.IntKind.i64 i0), (1, Go.Cx.AV.int Go.IntKind.i64 (Go.IntKind.wrap Go.IntKind.i64 (Int.tmod (Go.IntKind.wrap Go.IntKind.u64 x1) (2 : Int)))), (5, Go.Cx.AV.ptr (0 : Nat) (0 : Nat)), (32, Go.Cx.AV.bool Bool.true)], [Go.Cx.Ob.fix (83 : Nat) [Go.Cx.AV.slice (1 : Nat) (Go.Cx.Sh.int Go.IntKind.u8) [] Go.Cx.SK.ro, Go.Cx.AV.slice (1 : Nat) (Go.Cx.Sh.int Go.IntKind.u8) [] Go.Cx.SK.ro, Go.Cx.AV.int Go.IntKind.i64 (0 : Int), Go.Cx.AV.bool Bool.false, Go.Cx.AV.bool Bool.false]]⟩
def st_comptoirlaw22_DiskFull_1 (x0 : Int) (x1 : Int) (i1 : Int) (b0 : Bool) (l0 : List AV) (l1 : List AV) (i2 : Int) (b1 : Bool) (b2 : Bool) : St := ⟨frOf 0 94 [(0, Go.Cx.AV.int Go.IntKind.i64 i1), (1, Go.Cx.AV.int Go.IntKind.i64 (Go.IntKind.wrap Go.IntKind.i64 (Int.tmod (Go.IntKind.wrap Go.IntKind.u64 x1) (2 : Int)))), (5, Go.Cx.AV.ptr (0 : Nat) (0 : Nat)), (32, Go.Cx.AV.bool b0)], [Go.Cx.Ob.fix (83 : Nat) [Go.Cx.AV.slice (1 : Nat) (Go.Cx.Sh.int Go.IntKind.u8) l0 Go.Cx.SK.ro, Go.Cx.AV.slice (1 : Nat) (Go.Cx.Sh.int Go.IntKind.u8) l1 Go.Cx.SK.ro, Go.Cx.AV.int Go.IntKind.i64 i2, Go.Cx.AV.bool b1, Go.Cx.AV.bool b2], Go.Cx.Ob.dead]⟩
noncomputable def L_comptoirlaw22_DiskFull (x0 : Int) (x1 : Int) (Rv : Bool → Prop) : (Int) ⊕ (Int × Bool × List AV × List AV × Int × Bool × Bool) → Prop
  | .inl (i0) => headC E_comptoirlaw22_DiskFull [.r, .r, .r, .l, .r] b_comptoirlaw22_DiskFull (bodyK E_comptoirlaw22_DiskFull Try.f12 (outP O_comptoirlaw22_DiskFull fun ls => Rv (tup_comptoirlaw22_DiskFull ls))) (st_comptoirlaw22_DiskFull_0 x0 x1 i0)
  | .inr ((i1, b0, l0, l1, i2, b1, b2)) => headC E_comptoirlaw22_DiskFull [.r, .r, .r, .l, .r] b_comptoirlaw22_DiskFull (bodyK E_comptoirlaw22_DiskFull Try.f12 (outP O_comptoirlaw22_DiskFull fun ls => Rv (tup_comptoirlaw22_DiskFull ls))) (st_comptoirlaw22_DiskFull_1 x0 x1 i1 b0 l0 l1 i2 b1 b2)
set_option maxRecDepth 100000 in
theorem l_comptoirlaw22_DiskFull_0 (x0 : Int) (x1 : Int) (Rv : Bool → Prop) (i0 : Int) : stepC E_comptoirlaw22_DiskFull [.r, .r, .r, .l, .r] b_comptoirlaw22_DiskFull (bodyK E_comptoirlaw22_DiskFull Try.f12 (outP O_comptoirlaw22_DiskFull fun ls => Rv (tup_comptoirlaw22_DiskFull ls))) (st_comptoirlaw22_DiskFull_0 x0 x1 i0) =
  (M_comptoirlaw22_DiskFull x0 x1 (.inl (i0))).fold False (Sum.elim (L_comptoirlaw22_DiskFull x0 x1 Rv) Rv) := by kernel_rfl
set_option maxRecDepth 100000 in
theorem l_comptoirlaw22_DiskFull_1 (x0 : Int) (x1 : Int) (Rv : Bool → Prop) (i1 : Int) (b0 : Bool) (l0 : List AV) (l1 : List AV) (i2 : Int) (b1 : Bool) (b2 : Bool) : stepC E_comptoirlaw22_DiskFull [.r, .r, .r, .l, .r] b_comptoirlaw22_DiskFull (bodyK E_comptoirlaw22_DiskFull Try.f12 (outP O_comptoirlaw22_DiskFull fun ls => Rv (tup_comptoirlaw22_DiskFull ls))) (st_comptoirlaw22_DiskFull_1 x0 x1 i1 b0 l0 l1 i2 b1 b2) =
  (M_comptoirlaw22_DiskFull x0 x1 (.inr ((i1, b0, l0, l1, i2, b1, b2)))).fold False (Sum.elim (L_comptoirlaw22_DiskFull x0 x1 Rv) Rv) := by kernel_rfl
set_option maxRecDepth 100000 in
theorem e_comptoirlaw22_DiskFull_0 (x0 : Int) (x1 : Int) (Rv : Bool → Prop) (i0 : Int) : L_comptoirlaw22_DiskFull x0 x1 Rv (.inl (i0)) = headC E_comptoirlaw22_DiskFull [.r, .r, .r, .l, .r] b_comptoirlaw22_DiskFull (bodyK E_comptoirlaw22_DiskFull Try.f12 (outP O_comptoirlaw22_DiskFull fun ls => Rv (tup_comptoirlaw22_DiskFull ls))) (st_comptoirlaw22_DiskFull_0 x0 x1 i0) := by kernel_rfl
set_option maxRecDepth 100000 in
theorem e_comptoirlaw22_DiskFull_1 (x0 : Int) (x1 : Int) (Rv : Bool → Prop) (i1 : Int) (b0 : Bool) (l0 : List AV) (l1 : List AV) (i2 : Int) (b1 : Bool) (b2 : Bool) : L_comptoirlaw22_DiskFull x0 x1 Rv (.inr ((i1, b0, l0, l1, i2, b1, b2))) = headC E_comptoirlaw22_DiskFull [.r, .r, .r, .l, .r] b_comptoirlaw22_DiskFull (bodyK E_comptoirlaw22_DiskFull Try.f12 (outP O_comptoirlaw22_DiskFull fun ls => Rv (tup_comptoirlaw22_DiskFull ls))) (st_comptoirlaw22_DiskFull_1 x0 x1 i1 b0 l0 l1 i2 b1 b2) := by kernel_rfl
section
attribute [local irreducible] Tr.fold M_comptoirlaw22_DiskFull L_comptoirlaw22_DiskFull T_comptoirlaw22_DiskFull E_comptoirlaw22_DiskFull b_comptoirlaw22_DiskFull bodyK headC headL stepC stepL wpX callA
set_option maxRecDepth 100000 in
theorem h_comptoirlaw22_DiskFull (x0 : Int) (x1 : Int) (Rv : Bool → Prop) : ∀ s, (M_comptoirlaw22_DiskFull x0 x1 s).fold False (Sum.elim (L_comptoirlaw22_DiskFull x0 x1 Rv) Rv) → L_comptoirlaw22_DiskFull x0 x1 Rv s := by
  rintro (v0 | ⟨v0, v1, v2, v3, v4, v5, v6⟩)
  · exact fun h => Eq.mpr (e_comptoirlaw22_DiskFull_0 x0 x1 Rv v0) (headC_of (Eq.mpr (l_comptoirlaw22_DiskFull_0 x0 x1 Rv v0) h))
  · exact fun h => Eq.mpr (e_comptoirlaw22_DiskFull_1 x0 x1 Rv v0 v1 v2 v3 v4 v5 v6) (headC_of (Eq.mpr (l_comptoirlaw22_DiskFull_1 x0 x1 Rv v0 v1 v2 v3 v4 v5 v6) h))
set_option maxRecDepth 100000 in
theorem c_comptoirlaw22_DiskFull (ls : List AV) (Rv : Bool → Prop) : callA E_comptoirlaw22_DiskFull Try.f12 (instL ls P_comptoirlaw22_DiskFull 0) [] (outP O_comptoirlaw22_DiskFull fun ls => Rv (tup_comptoirlaw22_DiskFull ls)) = (T_comptoirlaw22_DiskFull (getI (ls.getD 0 .junk)) (getI (ls.getD 1 .junk))).fold False (Sum.elim (L_comptoirlaw22_DiskFull (getI (ls.getD 0 .junk)) (getI (ls.getD 1 .junk)) Rv) Rv) := by kernel_rfl
end
theorem eok_comptoirlaw22_DiskFull : EnOK E_comptoirlaw22_DiskFull := TblOK.enK (TblOK.add TYaG1222t_ok (Sound.frzAr (Sound.or _ S_disk_Disk_Append_n00_ok S_disk_Disk_Append_p00500000_ok))) _ _ _ _ _


end Go.Proofs.Ythocnaabefdokaa
