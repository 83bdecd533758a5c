/- Printed: what the functions that a statement reaches come to. -/
import Derived.Test.YthapkffhmekmcaaDoorYeBn
namespace Go.Proofs.YthapkffhmekmcaaDoor
open Go.Cx Go.Cx.AV
set_option linter.unusedVariables false
/- comptoir/element.Of -/
noncomputable def E_element_Of : En := enK Tryd.prog T0t [] [] [] [] 0
def P_element_Of : List Pat := [.leaf (.int .i64)]
def O_element_Of : Pat := .tuple [.agg [.leaf (.int .i64), .leaf (.int .i64), .leaf (.int .i64), .leaf (.int .i64)], .leaf .bool]
def tup_element_Of : List AV → Int × Int × Int × Int × Bool := fun ls => (getI (ls.getD 0 .junk), getI (ls.getD 1 .junk), getI (ls.getD 2 .junk), getI (ls.getD 3 .junk), getB (ls.getD 4 .junk))
def res_element_Of : Int × Int × Int × Int × Bool → AV := fun x => .tuple [.agg [.int .i64 (x.1), .int .i64 (x.2.1), .int .i64 (x.2.2.1), .int .i64 (x.2.2.2.1)], .bool (x.2.2.2.2)]
noncomputable def T_element_Of (x0 : Int) : Tr (Int × Int × Int × Int × Bool) := (.c (x0 == (2 : Int)) (.r ((x0, (1 : Int), (2 : Int), (19 : Int), Bool.true))) (.c (x0 == (4 : Int)) (.r ((x0, (1 : Int), (0 : Int), (12 : Int), Bool.true))) (.c (x0 == (11 : Int)) (.r ((x0, (1 : Int), (0 : Int), (6 : Int), Bool.true))) (.c (x0 == (12 : Int)) (.r ((x0, (1 : Int), (0 : Int), (14 : Int), Bool.true))) (.c (x0 == (22 : Int)) (.c (x0 == (22 : Int)) (.r ((x0, (1 : Int), (0 : Int), (3 : Int), Bool.true))) (.c (x0 == (25 : Int)) (.r ((x0, (1 : Int), (0 : Int), (4 : Int), Bool.true))) (.c (x0 == (32 : Int)) (.r ((x0, (1 : Int), (2 : Int), (11 : Int), Bool.true))) (.c (x0 == (37 : Int)) (.r ((x0, (2 : Int), (0 : Int), (12 : Int), Bool.true))) (.c (x0 == (38 : Int)) (.r ((x0, (2 : Int), (0 : Int), (6 : Int), Bool.true))) (.c (x0 == (41 : Int)) (.r ((x0, (3 : Int), (0 : Int), (8 : Int), Bool.true))) (.c (x0 == (42 : Int)) (.r ((x0, (3 : Int), (0 : Int), (15 : Int), Bool.true))) (.c (x0 == (43 : Int)) (.r ((x0, (3 : Int), (2 : Int), (40 : Int), Bool.true))) (.c (x0 == (48 : Int)) (.r ((x0, (3 : Int), (3 : Int), (8 : Int), Bool.true))) (.c (x0 == (55 : Int)) (.r ((x0, (4 : Int), (3 : Int), (255 : Int), Bool.true))) (.c (x0 == (56 : Int)) (.r ((x0, (1 : Int), (0 : Int), (20 : Int), Bool.true))) (.c (x0 == (60 : Int)) (.c (x0 == (60 : Int)) (.r ((x0, (3 : Int), (3 : Int), (100 : Int), Bool.true))) (.c (x0 == (102 : Int)) (.c (x0 == (102 : Int)) (.r ((x0, (3 : Int), (2 : Int), (28 : Int), Bool.true))) (.c (x0 == (120 : Int)) (.r ((x0, (4 : Int), (4 : Int), (999 : Int), Bool.true))) (.r (((0 : Int), (0 : Int), (0 : Int), (0 : Int), Bool.false))))) (.c (x0 == (103 : Int)) (.r ((x0, (3 : Int), (2 : Int), (28 : Int), Bool.true))) (.c (x0 == (120 : Int)) (.r ((x0, (4 : Int), (4 : Int), (999 : Int), Bool.true))) (.r (((0 : Int), (0 : Int), (0 : Int), (0 : Int), Bool.false))))))) (.c (x0 == (61 : Int)) (.c (x0 == (61 : Int)) (.r ((x0, (3 : Int), (3 : Int), (100 : Int), Bool.true))) (.c (x0 == (102 : Int)) (.c (x0 == (102 : Int)) (.r ((x0, (3 : Int), (2 : Int), (28 : Int), Bool.true))) (.c (x0 == (120 : Int)) (.r ((x0, (4 : Int), (4 : Int), (999 : Int), Bool.true))) (.r (((0 : Int), (0 : Int), (0 : Int), (0 : Int), Bool.false))))) (.c (x0 == (103 : Int)) (.r ((x0, (3 : Int), (2 : Int), (28 : Int), Bool.true))) (.c (x0 == (120 : Int)) (.r ((x0, (4 : Int), (4 : Int), (999 : Int), Bool.true))) (.r (((0 : Int), (0 : Int), (0 : Int), (0 : Int), Bool.false))))))) (.c (x0 == (62 : Int)) (.c (x0 == (62 : Int)) (.r ((x0, (3 : Int), (3 : Int), (100 : Int), Bool.true))) (.c (x0 == (102 : Int)) (.c (x0 == (102 : Int)) (.r ((x0, (3 : Int), (2 : Int), (28 : Int), Bool.true))) (.c (x0 == (120 : Int)) (.r ((x0, (4 : Int), (4 : Int), (999 : Int), Bool.true))) (.r (((0 : Int), (0 : Int), (0 : Int), (0 : Int), Bool.false))))) (.c (x0 == (103 : Int)) (.r ((x0, (3 : Int), (2 : Int), (28 : Int), Bool.true))) (.c (x0 == (120 : Int)) (.r ((x0, (4 : Int), (4 : Int), (999 : Int), Bool.true))) (.r (((0 : Int), (0 : Int), (0 : Int), (0 : Int), Bool.false))))))) (.c (x0 == (63 : Int)) (.r ((x0, (3 : Int), (3 : Int), (100 : Int), Bool.true))) (.c (x0 == (102 : Int)) (.c (x0 == (102 : Int)) (.r ((x0, (3 : Int), (2 : Int), (28 : Int), Bool.true))) (.c (x0 == (120 : Int)) (.r ((x0, (4 : Int), (4 : Int), (999 : Int), Bool.true))) (.r (((0 : Int), (0 : Int), (0 : Int), (0 : Int), Bool.false))))) (.c (x0 == (103 : Int)) (.r ((x0, (3 : Int), (2 : Int), (28 : Int), Bool.true))) (.c (x0 == (120 : Int)) (.r ((x0, (4 : Int), (4 : Int), (999 : Int), Bool.true))) (.r (((0 : Int), (0 : Int), (0 : Int), (0 : Int), Bool.false))))))))))))))))))))) (.c (x0 == (39 : Int)) (.c (x0 == (39 : Int)) (.r ((x0, (1 : Int), (0 : Int), (3 : Int), Bool.true))) (.c (x0 == (25 : Int)) (.r ((x0, (1 : Int), (0 : Int), (4 : Int), Bool.true))) (.c (x0 == (32 : Int)) (.r ((x0, (1 : Int), (2 : Int), (11 : Int), Bool.true))) (.c (x0 == (37 : Int)) (.r ((x0, (2 : Int), (0 : Int), (12 : Int), Bool.true))) (.c (x0 == (38 : Int)) (.r ((x0, (2 : Int), (0 : Int), (6 : Int), Bool.true))) (.c (x0 == (41 : Int)) (.r ((x0, (3 : Int), (0 : Int), (8 : Int), Bool.true))) (.c (x0 == (42 : Int)) (.r ((x0, (3 : Int), (0 : Int), (15 : Int), Bool.true))) (.c (x0 == (43 : Int)) (.r ((x0, (3 : Int), (2 : Int), (40 : Int), Bool.true))) (.c (x0 == (48 : Int)) (.r ((x0, (3 : Int), (3 : Int), (8 : Int), Bool.true))) (.c (x0 == (55 : Int)) (.r ((x0, (4 : Int), (3 : Int), (255 : Int), Bool.true))) (.c (x0 == (56 : Int)) (.r ((x0, (1 : Int), (0 : Int), (20 : Int), Bool.true))) (.c (x0 == (60 : Int)) (.c (x0 == (60 : Int)) (.r ((x0, (3 : Int), (3 : Int), (100 : Int), Bool.true))) (.c (x0 == (102 : Int)) (.c (x0 == (102 : Int)) (.r ((x0, (3 : Int), (2 : Int), (28 : Int), Bool.true))) (.c (x0 == (120 : Int)) (.r ((x0, (4 : Int), (4 : Int), (999 : Int), Bool.true))) (.r (((0 : Int), (0 : Int), (0 : Int), (0 : Int), Bool.false))))) (.c (x0 == (103 : Int)) (.r ((x0, (3 : Int), (2 : Int), (28 : Int), Bool.true))) (.c (x0 == (120 : Int)) (.r ((x0, (4 : Int), (4 : Int), (999 : Int), Bool.true))) (.r (((0 : Int), (0 : Int), (0 : Int), (0 : Int), Bool.false))))))) (.c (x0 == (61 : Int)) (.c (x0 == (61 : Int)) (.r ((x0, (3 : Int), (3 : Int), (100 : Int), Bool.true))) (.c (x0 == (102 : Int)) (.c (x0 == (102 : Int)) (.r ((x0, (3 : Int), (2 : Int), (28 : Int), Bool.true))) (.c (x0 == (120 : Int)) (.r ((x0, (4 : Int), (4 : Int), (999 : Int), Bool.true))) (.r (((0 : Int), (0 : Int), (0 : Int), (0 : Int), Bool.false))))) (.c (x0 == (103 : Int)) (.r ((x0, (3 : Int), (2 : Int), (28 : Int), Bool.true))) (.c (x0 == (120 : Int)) (.r ((x0, (4 : Int), (4 : Int), (999 : Int), Bool.true))) (.r (((0 : Int), (0 : Int), (0 : Int), (0 : Int), Bool.false))))))) (.c (x0 == (62 : Int)) (.c (x0 == (62 : Int)) (.r ((x0, (3 : Int), (3 : Int), (100 : Int), Bool.true))) (.c (x0 == (102 : Int)) (.c (x0 == (102 : Int)) (.r ((x0, (3 : Int), (2 : Int), (28 : Int), Bool.true))) (.c (x0 == (120 : Int)) (.r ((x0, (4 : Int), (4 : Int), (999 : Int), Bool.true))) (.r (((0 : Int), (0 : Int), (0 : Int), (0 : Int), Bool.false))))) (.c (x0 == (103 : Int)) (.r ((x0, (3 : Int), (2 : Int), (28 : Int), Bool.true))) (.c (x0 == (120 : Int)) (.r ((x0, (4 : Int), (4 : Int), (999 : Int), Bool.true))) (.r (((0 : Int), (0 : Int), (0 : Int), (0 : Int), Bool.false))))))) (.c (x0 == (63 : Int)) (.r ((x0, (3 : Int), (3 : Int), (100 : Int), Bool.true))) (.c (x0 == (102 : Int)) (.c (x0 == (102 : Int)) (.r ((x0, (3 : Int), (2 : Int), (28 : Int), Bool.true))) (.c (x0 == (120 : Int)) (.r ((x0, (4 : Int), (4 : Int), (999 : Int), Bool.true))) (.r (((0 : Int), (0 : Int), (0 : Int), (0 : Int), Bool.false))))) (.c (x0 == (103 : Int)) (.r ((x0, (3 : Int), (2 : Int), (28 : Int), Bool.true))) (.c (x0 == (120 : Int)) (.r ((x0, (4 : Int), (4 : Int), (999 : Int), Bool.true))) (.r (((0 : Int), (0 : Int), (0 : Int), (0 : Int), Bool.false))))))))))))))))))))) (.c (x0 == (49 : Int)) (.r ((x0, (1 : Int), (0 : Int), (3 : Int), Bool.true))) (.c (x0 == (25 : Int)) (.r ((x0, (1 : Int), (0 : Int), (4 : Int), Bool.true))) (.c (x0 == (32 : Int)) (.r ((x0, (1 : Int), (2 : Int), (11 : Int), Bool.true))) (.c (x0 == (37 : Int)) (.r ((x0, (2 : Int), (0 : Int), (12 : Int), Bool.true))) (.c (x0 == (38 : Int)) (.r ((x0, (2 : Int), (0 : Int), (6 : Int), Bool.true))) (.c (x0 == (41 : Int)) (.r ((x0, (3 : Int), (0 : Int), (8 : Int), Bool.true))) (.c (x0 == (42 : Int)) (.r ((x0, (3 : Int), (0 : Int), (15 : Int), Bool.true))) (.c (x0 == (43 : Int)) (.r ((x0, (3 : Int), (2 : Int), (40 : Int), Bool.true))) (.c (x0 == (48 : Int)) (.r ((x0, (3 : Int), (3 : Int), (8 : Int), Bool.true))) (.c (x0 == (55 : Int)) (.r ((x0, (4 : Int), (3 : Int), (255 : Int), Bool.true))) (.c (x0 == (56 : Int)) (.r ((x0, (1 : Int), (0 : Int), (20 : Int), Bool.true))) (.c (x0 == (60 : Int)) (.c (x0 == (60 : Int)) (.r ((x0, (3 : Int), (3 : Int), (100 : Int), Bool.true))) (.c (x0 == (102 : Int)) (.c (x0 == (102 : Int)) (.r ((x0, (3 : Int), (2 : Int), (28 : Int), Bool.true))) (.c (x0 == (120 : Int)) (.r ((x0, (4 : Int), (4 : Int), (999 : Int), Bool.true))) (.r (((0 : Int), (0 : Int), (0 : Int), (0 : Int), Bool.false))))) (.c (x0 == (103 : Int)) (.r ((x0, (3 : Int), (2 : Int), (28 : Int), Bool.true))) (.c (x0 == (120 : Int)) (.r ((x0, (4 : Int), (4 : Int), (999 : Int), Bool.true))) (.r (((0 : Int), (0 : Int), (0 : Int), (0 : Int), Bool.false))))))) (.c (x0 == (61 : Int)) (.c (x0 == (61 : Int)) (.r ((x0, (3 : Int), (3 : Int), (100 : Int), Bool.true))) (.c (x0 == (102 : Int)) (.c (x0 == (102 : Int)) (.r ((x0, (3 : Int), (2 : Int), (28 : Int), Bool.true))) (.c (x0 == (120 : Int)) (.r ((x0, (4 : Int), (4 : Int), (999 : Int), Bool.true))) (.r (((0 : Int), (0 : Int), (0 : Int), (0 : Int), Bool.false))))) (.c (x0 == (103 : Int)) (.r ((x0, (3 : Int), (2 : Int), (28 : Int), Bool.true))) (.c (x0 == (120 : Int)) (.r ((x0, (4 : Int), (4 : Int), (999 : Int), Bool.true))) (.r (((0 : Int), (0 : Int), (0 : Int), (0 : Int), Bool.false))))))) (.c (x0 == (62 : Int)) (.c (x0 == (62 : Int)) (.r ((x0, (3 : Int), (3 : Int), (100 : Int), Bool.true))) (.c (x0 == (102 : Int)) (.c (x0 == (102 : Int)) (.r ((x0, (3 : Int), (2 : Int), (28 : Int), Bool.true))) (.c (x0 == (120 : Int)) (.r ((x0, (4 : Int), (4 : Int), (999 : Int), Bool.true))) (.r (((0 : Int), (0 : Int), (0 : Int), (0 : Int), Bool.false))))) (.c (x0 == (103 : Int)) (.r ((x0, (3 : Int), (2 : Int), (28 : Int), Bool.true))) (.c (x0 == (120 : Int)) (.r ((x0, (4 : Int), (4 : Int), (999 : Int), Bool.true))) (.r (((0 : Int), (0 : Int), (0 : Int), (0 : Int), Bool.false))))))) (.c (x0 == (63 : Int)) (.r ((x0, (3 : Int), (3 : Int), (100 : Int), Bool.true))) (.c (x0 == (102 : Int)) (.c (x0 == (102 : Int)) (.r ((x0, (3 : Int), (2 : Int), (28 : Int), Bool.true))) (.c (x0 == (120 : Int)) (.r ((x0, (4 : Int), (4 : Int), (999 : Int), Bool.true))) (.r (((0 : Int), (0 : Int), (0 : Int), (0 : Int), Bool.false))))) (.c (x0 == (103 : Int)) (.r ((x0, (3 : Int), (2 : Int), (28 : Int), Bool.true))) (.c (x0 == (120 : Int)) (.r ((x0, (4 : Int), (4 : Int), (999 : Int), Bool.true))) (.r (((0 : Int), (0 : Int), (0 : Int), (0 : Int), Bool.false)))))))))))))))))))))))))))
noncomputable def g_element_Of (x0 : Int) : Option (Int × Int × Int × Int × Bool) := (T_element_Of x0).val
set_option maxRecDepth 100000 in
theorem c_element_Of (ls : List AV) (Rv : Int × Int × Int × Int × Bool → Prop) : callA E_element_Of Tryd.f10 (instL ls P_element_Of 0) [] (outP O_element_Of fun ls => Rv (tup_element_Of ls)) = (T_element_Of (getI (ls.getD 0 .junk))).fold False Rv := by kernel_rfl
noncomputable def S_element_Of : Go.Cx.Spec := pureS (patF P_element_Of fun ls => opt (g_element_Of (getI (ls.getD 0 .junk))) fun x => .r (res_element_Of x))
set_option maxRecDepth 100000 in
theorem S_element_Of_ok : Sound Tryd.prog 10 S_element_Of :=
  pure_flat (E := E_element_Of) (TblOK.enK T0t_ok _ _ _ _ _) mixed rfl Tryd.func10 (c := Tryd.f10.body.getD .skip) (by kernel_rfl) (by kernel_rfl) (pats := P_element_Of) (O := O_element_Of) (tup := tup_element_Of) (res := res_element_Of) (g := fun ls => g_element_Of (getI (ls.getD 0 .junk))) (T := fun ls => T_element_Of (getI (ls.getD 0 .junk))) (fun _ => rfl) (fun ls => by kernel_rfl) c_element_Of

noncomputable def TYeG61t : FuncId → Option Go.Cx.Spec := addT T0t 10 S_element_Of
theorem TYeG61t_ok : TblOK Tryd.prog TYeG61t := T0t_ok.add S_element_Of_ok

/- comptoir/element.long -/
noncomputable def E_element_long : En := enK Tryd.prog TYeG61t [] [] [] [] 0
def P_element_long : List Pat := [.agg [.leaf (.int .i64), .leaf (.int .i64), .leaf (.int .i64), .leaf (.int .i64)], .leaf (.int .i64)]
def O_element_long : Pat := .leaf .bool
def tup_element_long : List AV → Bool := fun ls => getB (ls.getD 0 .junk)
def res_element_long : Bool → AV := fun x => .bool (x)
noncomputable def T_element_long (x0 : Int) (x1 : Int) (x2 : Int) (x3 : Int) (x4 : Int) : Tr (Bool) := (.c (x4 == x3) (.r (Bool.true)) (.c (Decidable.decide (x2 > (0 : Int))) (.c (Decidable.decide (x4 ≥ (1 : Int))) (.r (Decidable.decide (x4 ≤ x3))) (.r (Bool.false))) (.r (Bool.false))))
noncomputable def g_element_long (x0 : Int) (x1 : Int) (x2 : Int) (x3 : Int) (x4 : Int) : Option (Bool) := (T_element_long x0 x1 x2 x3 x4).val
set_option maxRecDepth 100000 in
theorem c_element_long (ls : List AV) (Rv : Bool → Prop) : callA E_element_long Tryd.f29 (instL ls P_element_long 0) [] (outP O_element_long fun ls => Rv (tup_element_long ls)) = (T_element_long (getI (ls.getD 0 .junk)) (getI (ls.getD 1 .junk)) (getI (ls.getD 2 .junk)) (getI (ls.getD 3 .junk)) (getI (ls.getD 4 .junk))).fold False Rv := by kernel_rfl
noncomputable def S_element_long : Go.Cx.Spec := pureS (patF P_element_long fun ls => opt (g_element_long (getI (ls.getD 0 .junk)) (getI (ls.getD 1 .junk)) (getI (ls.getD 2 .junk)) (getI (ls.getD 3 .junk)) (getI (ls.getD 4 .junk))) fun x => .r (res_element_long x))
set_option maxRecDepth 100000 in
theorem S_element_long_ok : Sound Tryd.prog 29 S_element_long :=
  pure_flat (E := E_element_long) (TblOK.enK TYeG61t_ok _ _ _ _ _) mixed rfl Tryd.func29 (c := Tryd.f29.body.getD .skip) (by kernel_rfl) (by kernel_rfl) (pats := P_element_long) (O := O_element_long) (tup := tup_element_long) (res := res_element_long) (g := fun ls => g_element_long (getI (ls.getD 0 .junk)) (getI (ls.getD 1 .junk)) (getI (ls.getD 2 .junk)) (getI (ls.getD 3 .junk)) (getI (ls.getD 4 .junk))) (T := fun ls => T_element_long (getI (ls.getD 0 .junk)) (getI (ls.getD 1 .junk)) (getI (ls.getD 2 .junk)) (getI (ls.getD 3 .junk)) (getI (ls.getD 4 .junk))) (fun _ => rfl) (fun ls => by kernel_rfl) c_element_long

noncomputable def TYeG62t : FuncId → Option Go.Cx.Spec := addT TYeG61t 29 S_element_long
theorem TYeG62t_ok : TblOK Tryd.prog TYeG62t := TYeG61t_ok.add S_element_long_ok

/- comptoir/element.test -/
noncomputable def E_element_test : En := enK Tryd.prog TYeG62t [] [] [] [] 0
def P_element_test : List Pat := [.leaf (.int .i64)]
def O_element_test : Pat := .leaf .any
def tup_element_test : List AV → AV := fun ls => id (ls.getD 0 .junk)
def res_element_test : AV → AV := fun x => (x)
noncomputable def T_element_test (x0 : Int) : Tr (AV) := (.c (x0 == (1 : Int)) (.r (Go.Cx.AV.func (40 : Nat) [] [])) (.c (x0 == (2 : Int)) (.r (Go.Cx.AV.func (41 : Nat) [] [])) (.c (x0 == (3 : Int)) (.r (Go.Cx.AV.func (42 : Nat) [] [])) (.r (Go.Cx.AV.func (43 : Nat) [] [])))))
noncomputable def g_element_test (x0 : Int) : Option (AV) := (T_element_test x0).val
set_option maxRecDepth 100000 in
theorem c_element_test (ls : List AV) (Rv : AV → Prop) : callA E_element_test Tryd.f33 (instL ls P_element_test 0) [] (outP O_element_test fun ls => Rv (tup_element_test ls)) = (T_element_test (getI (ls.getD 0 .junk))).fold False Rv := by kernel_rfl
noncomputable def S_element_test : Go.Cx.Spec := pureS (patF P_element_test fun ls => (T_element_test (getI (ls.getD 0 .junk))).map res_element_test)
set_option maxRecDepth 100000 in
theorem S_element_test_ok : Sound Tryd.prog 33 S_element_test :=
  pure_fork (E := E_element_test) (TblOK.enK TYeG62t_ok _ _ _ _ _) mixed rfl Tryd.func33 (c := Tryd.f33.body.getD .skip) (by kernel_rfl) (by kernel_rfl) (pats := P_element_test) (O := O_element_test) (tup := tup_element_test) (res := res_element_test) (T := fun ls => T_element_test (getI (ls.getD 0 .junk))) (fun ls => by kernel_rfl) c_element_test

noncomputable def TYeG63t : FuncId → Option Go.Cx.Spec := addT TYeG62t 33 S_element_test
theorem TYeG63t_ok : TblOK Tryd.prog TYeG63t := TYeG62t_ok.add S_element_test_ok

/- (comptoir/digits.signs).has -/
noncomputable def E_digits_signs_has : En := enK Tryd.prog TYeG63t [] [] [] [] 0
def P_digits_signs_has : List Pat := [.leaf .str, .leaf (.int .u8)]
def O_digits_signs_has : Pat := .leaf .bool
def tup_digits_signs_has : List AV → Bool := fun ls => getB (ls.getD 0 .junk)
def res_digits_signs_has : Bool → AV := fun x => .bool (x)
noncomputable def T_digits_signs_has (x0 : List UInt8) (x1 : Int) : Tr (Bool) := (.r (Decidable.decide (Go.Lib.indexByte x0 (Nat.toUInt8 (Int.toNat x1)) ≥ (0 : Int))))
noncomputable def g_digits_signs_has (x0 : List UInt8) (x1 : Int) : Option (Bool) := (T_digits_signs_has x0 x1).val
set_option maxRecDepth 100000 in
theorem c_digits_signs_has (ls : List AV) (Rv : Bool → Prop) : callA E_digits_signs_has Tryd.f52 (instL ls P_digits_signs_has 0) [] (outP O_digits_signs_has fun ls => Rv (tup_digits_signs_has ls)) = (T_digits_signs_has (getS (ls.getD 0 .junk)) (getI (ls.getD 1 .junk))).fold False Rv := by kernel_rfl
noncomputable def S_digits_signs_has : Go.Cx.Spec := pureS (patF P_digits_signs_has fun ls => opt (g_digits_signs_has (getS (ls.getD 0 .junk)) (getI (ls.getD 1 .junk))) fun x => .r (res_digits_signs_has x))
set_option maxRecDepth 100000 in
theorem S_digits_signs_has_ok : Sound Tryd.prog 52 S_digits_signs_has :=
  pure_flat (E := E_digits_signs_has) (TblOK.enK TYeG63t_ok _ _ _ _ _) mixed rfl Tryd.func52 (c := Tryd.f52.body.getD .skip) (by kernel_rfl) (by kernel_rfl) (pats := P_digits_signs_has) (O := O_digits_signs_has) (tup := tup_digits_signs_has) (res := res_digits_signs_has) (g := fun ls => g_digits_signs_has (getS (ls.getD 0 .junk)) (getI (ls.getD 1 .junk))) (T := fun ls => T_digits_signs_has (getS (ls.getD 0 .junk)) (getI (ls.getD 1 .junk))) (fun _ => rfl) (fun ls => by kernel_rfl) c_digits_signs_has

noncomputable def TYeG64t : FuncId → Option Go.Cx.Spec := addT TYeG63t 52 S_digits_signs_has
theorem TYeG64t_ok : TblOK Tryd.prog TYeG64t := TYeG63t_ok.add S_digits_signs_has_ok

/- comptoir/digits.all -/
noncomputable def E_digits_all_0fhas_ : En := enK Tryd.prog TYeG64t [] [(2, ⟨[2, 3, 4, 5, 6, 9, 10, 11, 12, 13, 14, 15, 16, 17], [], [], none, [], [], [], [], false⟩)] [] [] 0
def P_digits_all_0fhas_ : List Pat := [.leaf .str, .func 52 [.leaf .str] []]
def O_digits_all_0fhas_ : Pat := .leaf .bool
def tup_digits_all_0fhas_ : List AV → Bool := fun ls => getB (ls.getD 0 .junk)
def res_digits_all_0fhas_ : Bool → AV := fun x => .bool (x)
noncomputable def T_digits_all_0fhas_ (x0 : List UInt8) (x1 : List UInt8) : Tr ((Int) ⊕ (Bool)) := (.r (.inl ((0 : Int))))
noncomputable def M_digits_all_0fhas_ (x0 : List UInt8) (x1 : List UInt8) : Int → Tr ((Int) ⊕ (Bool))
  | i0 => (.c (Decidable.decide (i0 < (↑(List.length x0) : Int))) (.c (Decidable.decide ((0 : Int) ≤ i0)) (.c (Decidable.decide (i0 < (↑(List.length x0) : Int))) (.c (!Decidable.decide (Go.Lib.indexByte x1 (Nat.toUInt8 (UInt8.toNat (List.getD x0 (Int.toNat i0) (0 : UInt8)))) ≥ (0 : Int))) (.r (.inr (Bool.false))) (.r (.inl (Go.IntKind.wrap Go.IntKind.i64 (i0 + (1 : Int)))))) .bad) .bad) (.r (.inr (Bool.true))))
noncomputable def g_digits_all_0fhas_ (x0 : List UInt8) (x1 : List UInt8) : Option (Bool) := run (M_digits_all_0fhas_ x0 x1) (T_digits_all_0fhas_ x0 x1)
noncomputable def b_digits_all_0fhas_ := Tryd.f51.body.getD .skip
noncomputable def st_digits_all_0fhas__0 (x0 : List UInt8) (x1 : List UInt8) (i0 : Int) : St := ⟨[Go.Cx.AV.str x0, Go.Cx.AV.func (52 : Nat) [Go.Cx.AV.str x1] [], Go.Cx.AV.junk, Go.Cx.AV.junk, Go.Cx.AV.junk, Go.Cx.AV.junk, Go.Cx.AV.junk, Go.Cx.AV.int Go.IntKind.i64 (↑(List.length x0) : Int), Go.Cx.AV.int Go.IntKind.i64 i0, Go.Cx.AV.junk, Go.Cx.AV.junk, Go.Cx.AV.junk, Go.Cx.AV.junk, Go.Cx.AV.junk, Go.Cx.AV.junk, Go.Cx.AV.junk, Go.Cx.AV.junk, Go.Cx.AV.junk], []⟩
noncomputable def L_digits_all_0fhas_ (x0 : List UInt8) (x1 : List UInt8) (Rv : Bool → Prop) : Int → Prop
  | i0 => headL E_digits_all_0fhas_ [.r, .l, .r, .d] b_digits_all_0fhas_ 0 (bodyK E_digits_all_0fhas_ Tryd.f51 (outP O_digits_all_0fhas_ fun ls => Rv (tup_digits_all_0fhas_ ls))) (st_digits_all_0fhas__0 x0 x1 i0)
set_option maxRecDepth 100000 in
theorem l_digits_all_0fhas__0 (x0 : List UInt8) (x1 : List UInt8) (Rv : Bool → Prop) (i0 : Int) : stepL E_digits_all_0fhas_ [.r, .l, .r, .d] b_digits_all_0fhas_ 0 (bodyK E_digits_all_0fhas_ Tryd.f51 (outP O_digits_all_0fhas_ fun ls => Rv (tup_digits_all_0fhas_ ls))) (st_digits_all_0fhas__0 x0 x1 i0) =
  (M_digits_all_0fhas_ x0 x1 (i0)).fold False (Sum.elim (L_digits_all_0fhas_ x0 x1 Rv) Rv) := by kernel_rfl
set_option maxRecDepth 100000 in
theorem e_digits_all_0fhas__0 (x0 : List UInt8) (x1 : List UInt8) (Rv : Bool → Prop) (i0 : Int) : L_digits_all_0fhas_ x0 x1 Rv (i0) = headL E_digits_all_0fhas_ [.r, .l, .r, .d] b_digits_all_0fhas_ 0 (bodyK E_digits_all_0fhas_ Tryd.f51 (outP O_digits_all_0fhas_ fun ls => Rv (tup_digits_all_0fhas_ ls))) (st_digits_all_0fhas__0 x0 x1 i0) := by kernel_rfl
section
attribute [local irreducible] Tr.fold M_digits_all_0fhas_ L_digits_all_0fhas_ T_digits_all_0fhas_ E_digits_all_0fhas_ b_digits_all_0fhas_ bodyK headC headL stepC stepL wpX callA
set_option maxRecDepth 100000 in
theorem h_digits_all_0fhas_ (x0 : List UInt8) (x1 : List UInt8) (Rv : Bool → Prop) : ∀ s, (M_digits_all_0fhas_ x0 x1 s).fold False (Sum.elim (L_digits_all_0fhas_ x0 x1 Rv) Rv) → L_digits_all_0fhas_ x0 x1 Rv s := by
  rintro (v0)
  · exact fun h => Eq.mpr (e_digits_all_0fhas__0 x0 x1 Rv v0) (headL_of (Eq.mpr (l_digits_all_0fhas__0 x0 x1 Rv v0) h))
set_option maxRecDepth 100000 in
theorem c_digits_all_0fhas_ (ls : List AV) (Rv : Bool → Prop) : callA E_digits_all_0fhas_ Tryd.f51 (instL ls P_digits_all_0fhas_ 0) [] (outP O_digits_all_0fhas_ fun ls => Rv (tup_digits_all_0fhas_ ls)) = (T_digits_all_0fhas_ (getS (ls.getD 0 .junk)) (getS (ls.getD 1 .junk))).fold False (Sum.elim (L_digits_all_0fhas_ (getS (ls.getD 0 .junk)) (getS (ls.getD 1 .junk)) Rv) Rv) := by kernel_rfl
end
noncomputable def S_digits_all_0fhas_ : Go.Cx.Spec := pureS (patF P_digits_all_0fhas_ fun ls => opt (g_digits_all_0fhas_ (getS (ls.getD 0 .junk)) (getS (ls.getD 1 .junk))) fun x => .r (res_digits_all_0fhas_ x))
set_option maxRecDepth 100000 in
theorem S_digits_all_0fhas__ok : Sound Tryd.prog 51 S_digits_all_0fhas_ :=
  pure_mach (E := E_digits_all_0fhas_) (TblOK.enK TYeG64t_ok _ _ _ _ _) mixed rfl Tryd.func51 (c := Tryd.f51.body.getD .skip) (by kernel_rfl) (by kernel_rfl) (pats := P_digits_all_0fhas_) (O := O_digits_all_0fhas_) (tup := tup_digits_all_0fhas_) (res := res_digits_all_0fhas_) (g := fun ls => g_digits_all_0fhas_ (getS (ls.getD 0 .junk)) (getS (ls.getD 1 .junk))) (T := fun ls => T_digits_all_0fhas_ (getS (ls.getD 0 .junk)) (getS (ls.getD 1 .junk))) (step := fun ls => M_digits_all_0fhas_ (getS (ls.getD 0 .junk)) (getS (ls.getD 1 .junk))) (L := fun ls => L_digits_all_0fhas_ (getS (ls.getD 0 .junk)) (getS (ls.getD 1 .junk))) (fun _ => rfl) (fun ls => by kernel_rfl) c_digits_all_0fhas_ (fun ls Rv => h_digits_all_0fhas_ (getS (ls.getD 0 .junk)) (getS (ls.getD 1 .junk)) Rv)

noncomputable def TYeG65t : FuncId → Option Go.Cx.Spec := addT TYeG64t 51 S_digits_all_0fhas_
theorem TYeG65t_ok : TblOK Tryd.prog TYeG65t := TYeG64t_ok.add S_digits_all_0fhas__ok

/- comptoir/digits.Right -/
noncomputable def E_digits_Right : En := enK Tryd.prog TYeG65t [] [] [] [] 0
def P_digits_Right : List Pat := [.leaf .str, .leaf (.int .i64), .leaf (.int .i64)]
def O_digits_Right : Pat := .leaf .bool
def tup_digits_Right : List AV → Bool := fun ls => getB (ls.getD 0 .junk)
def res_digits_Right : Bool → AV := fun x => .bool (x)
noncomputable def T_digits_Right (x0 : List UInt8) (x1 : Int) (x2 : Int) : Tr (Bool) := (.c (Decidable.decide ((↑(List.length x0) : Int) ≥ x1)) (.c (Decidable.decide ((↑(List.length x0) : Int) ≤ x2)) (opt (Go.Proofs.YthapkffhmekmcaaDoor.g_digits_all_0fhas_ x0 [(48 : UInt8), (49 : UInt8), (50 : UInt8), (51 : UInt8), (52 : UInt8), (53 : UInt8), (54 : UInt8), (55 : UInt8), (56 : UInt8), (57 : UInt8)]) fun (y0 : Bool) => (.r (y0))) (.r (Bool.false))) (.r (Bool.false)))
noncomputable def g_digits_Right (x0 : List UInt8) (x1 : Int) (x2 : Int) : Option (Bool) := (T_digits_Right x0 x1 x2).val
set_option maxRecDepth 100000 in
theorem c_digits_Right (ls : List AV) (Rv : Bool → Prop) : callA E_digits_Right Tryd.f39 (instL ls P_digits_Right 0) [] (outP O_digits_Right fun ls => Rv (tup_digits_Right ls)) = (T_digits_Right (getS (ls.getD 0 .junk)) (getI (ls.getD 1 .junk)) (getI (ls.getD 2 .junk))).fold False Rv := by kernel_rfl
noncomputable def S_digits_Right : Go.Cx.Spec := pureS (patF P_digits_Right fun ls => opt (g_digits_Right (getS (ls.getD 0 .junk)) (getI (ls.getD 1 .junk)) (getI (ls.getD 2 .junk))) fun x => .r (res_digits_Right x))
set_option maxRecDepth 100000 in
theorem S_digits_Right_ok : Sound Tryd.prog 39 S_digits_Right :=
  pure_flat (E := E_digits_Right) (TblOK.enK TYeG65t_ok _ _ _ _ _) mixed rfl Tryd.func39 (c := Tryd.f39.body.getD .skip) (by kernel_rfl) (by kernel_rfl) (pats := P_digits_Right) (O := O_digits_Right) (tup := tup_digits_Right) (res := res_digits_Right) (g := fun ls => g_digits_Right (getS (ls.getD 0 .junk)) (getI (ls.getD 1 .junk)) (getI (ls.getD 2 .junk))) (T := fun ls => T_digits_Right (getS (ls.getD 0 .junk)) (getI (ls.getD 1 .junk)) (getI (ls.getD 2 .junk))) (fun _ => rfl) (fun ls => by kernel_rfl) c_digits_Right

noncomputable def TYeG66t : FuncId → Option Go.Cx.Spec := addT TYeG65t 39 S_digits_Right
theorem TYeG66t_ok : TblOK Tryd.prog TYeG66t := TYeG65t_ok.add S_digits_Right_ok

/- (comptoir/element.data).numbers -/
noncomputable def E_element_data_numbers : En := enK Tryd.prog TYeG66t [] [] [] [] 0
def P_element_data_numbers : List Pat := [.leaf .str, .leaf (.int .i64)]
def O_element_data_numbers : Pat := .leaf .bool
def tup_element_data_numbers : List AV → Bool := fun ls => getB (ls.getD 0 .junk)
def res_element_data_numbers : Bool → AV := fun x => .bool (x)
noncomputable def T_element_data_numbers (x0 : List UInt8) (x1 : Int) : Tr (Bool) := (opt (Go.Proofs.YthapkffhmekmcaaDoor.g_digits_Right x0 (0 : Int) x1) fun (y0 : Bool) => (.r (y0)))
noncomputable def g_element_data_numbers (x0 : List UInt8) (x1 : Int) : Option (Bool) := (T_element_data_numbers x0 x1).val
set_option maxRecDepth 100000 in
theorem c_element_data_numbers (ls : List AV) (Rv : Bool → Prop) : callA E_element_data_numbers Tryd.f40 (instL ls P_element_data_numbers 0) [] (outP O_element_data_numbers fun ls => Rv (tup_element_data_numbers ls)) = (T_element_data_numbers (getS (ls.getD 0 .junk)) (getI (ls.getD 1 .junk))).fold False Rv := by kernel_rfl
noncomputable def S_element_data_numbers : Go.Cx.Spec := pureS (patF P_element_data_numbers fun ls => opt (g_element_data_numbers (getS (ls.getD 0 .junk)) (getI (ls.getD 1 .junk))) fun x => .r (res_element_data_numbers x))
set_option maxRecDepth 100000 in
theorem S_element_data_numbers_ok : Sound Tryd.prog 40 S_element_data_numbers :=
  pure_flat (E := E_element_data_numbers) (TblOK.enK TYeG66t_ok _ _ _ _ _) mixed rfl Tryd.func40 (c := Tryd.f40.body.getD .skip) (by kernel_rfl) (by kernel_rfl) (pats := P_element_data_numbers) (O := O_element_data_numbers) (tup := tup_element_data_numbers) (res := res_element_data_numbers) (g := fun ls => g_element_data_numbers (getS (ls.getD 0 .junk)) (getI (ls.getD 1 .junk))) (T := fun ls => T_element_data_numbers (getS (ls.getD 0 .junk)) (getI (ls.getD 1 .junk))) (fun _ => rfl) (fun ls => by kernel_rfl) c_element_data_numbers

noncomputable def TYeG67t : FuncId → Option Go.Cx.Spec := addT TYeG66t 40 S_element_data_numbers
theorem TYeG67t_ok : TblOK Tryd.prog TYeG67t := TYeG66t_ok.add S_element_data_numbers_ok

/- (comptoir/text.span).has -/
noncomputable def E_text_span_has : En := enK Tryd.prog TYeG67t [] [] [] [] 0
def P_text_span_has : List Pat := [.agg [.leaf (.int .u8), .leaf (.int .u8)], .leaf (.int .u8)]
def O_text_span_has : Pat := .leaf .bool
def tup_text_span_has : List AV → Bool := fun ls => getB (ls.getD 0 .junk)
def res_text_span_has : Bool → AV := fun x => .bool (x)
noncomputable def T_text_span_has (x0 : Int) (x1 : Int) (x2 : Int) : Tr (Bool) := (.c (Decidable.decide (x2 ≥ x0)) (.r (Decidable.decide (x2 ≤ x1))) (.r (Bool.false)))
noncomputable def g_text_span_has (x0 : Int) (x1 : Int) (x2 : Int) : Option (Bool) := (T_text_span_has x0 x1 x2).val
set_option maxRecDepth 100000 in
theorem c_text_span_has (ls : List AV) (Rv : Bool → Prop) : callA E_text_span_has Tryd.f66 (instL ls P_text_span_has 0) [] (outP O_text_span_has fun ls => Rv (tup_text_span_has ls)) = (T_text_span_has (getI (ls.getD 0 .junk)) (getI (ls.getD 1 .junk)) (getI (ls.getD 2 .junk))).fold False Rv := by kernel_rfl
noncomputable def S_text_span_has : Go.Cx.Spec := pureS (patF P_text_span_has fun ls => opt (g_text_span_has (getI (ls.getD 0 .junk)) (getI (ls.getD 1 .junk)) (getI (ls.getD 2 .junk))) fun x => .r (res_text_span_has x))
set_option maxRecDepth 100000 in
theorem S_text_span_has_ok : Sound Tryd.prog 66 S_text_span_has :=
  pure_flat (E := E_text_span_has) (TblOK.enK TYeG67t_ok _ _ _ _ _) mixed rfl Tryd.func66 (c := Tryd.f66.body.getD .skip) (by kernel_rfl) (by kernel_rfl) (pats := P_text_span_has) (O := O_text_span_has) (tup := tup_text_span_has) (res := res_text_span_has) (g := fun ls => g_text_span_has (getI (ls.getD 0 .junk)) (getI (ls.getD 1 .junk)) (getI (ls.getD 2 .junk))) (T := fun ls => T_text_span_has (getI (ls.getD 0 .junk)) (getI (ls.getD 1 .junk)) (getI (ls.getD 2 .junk))) (fun _ => rfl) (fun ls => by kernel_rfl) c_text_span_has

noncomputable def TYeG68t : FuncId → Option Go.Cx.Spec := addT TYeG67t 66 S_text_span_has
theorem TYeG68t_ok : TblOK Tryd.prog TYeG68t := TYeG67t_ok.add S_text_span_has_ok

/- comptoir/text.all -/
noncomputable def E_text_all_0l3 : En := enK Tryd.prog TYeG68t [] [(2, ⟨[2, 3, 4, 5, 6, 7, 8, 9, 12, 13, 14, 15, 16, 17, 18, 19, 20, 21, 22, 23, 24, 25, 26, 27, 28, 29, 30, 31], [], [], none, [], [], [], [], false⟩), (6, ⟨[2, 3, 4, 7, 8, 9, 12, 13, 17, 18, 19, 20, 21, 22, 23, 24, 25, 26, 27, 28, 29, 30, 31], [], [], none, [], [], [], [], false⟩)] [] [] 0
def P_text_all_0l3 : List Pat := [.leaf .str, .sl [.func 66 [.agg [.leaf (.int .u8), .leaf (.int .u8)]] [], .func 66 [.agg [.leaf (.int .u8), .leaf (.int .u8)]] [], .func 66 [.agg [.leaf (.int .u8), .leaf (.int .u8)]] []]]
def O_text_all_0l3 : Pat := .leaf .bool
def tup_text_all_0l3 : List AV → Bool := fun ls => getB (ls.getD 0 .junk)
def res_text_all_0l3 : Bool → AV := fun x => .bool (x)
noncomputable def T_text_all_0l3 (x0 : List UInt8) (x1 : Int) (x2 : Int) (x3 : Int) (x4 : Int) (x5 : Int) (x6 : Int) : Tr (((Int) ⊕ (Int) ⊕ (Bool × Int) ⊕ (Bool × Int) ⊕ (Bool × Int)) ⊕ (Bool)) := (.r (.inl (.inl ((0 : Int)))))
noncomputable def M_text_all_0l3 (x0 : List UInt8) (x1 : Int) (x2 : Int) (x3 : Int) (x4 : Int) (x5 : Int) (x6 : Int) : (Int) ⊕ (Int) ⊕ (Bool × Int) ⊕ (Bool × Int) ⊕ (Bool × Int) → Tr (((Int) ⊕ (Int) ⊕ (Bool × Int) ⊕ (Bool × Int) ⊕ (Bool × Int)) ⊕ (Bool))
  | .inl (i0) => (.c (Decidable.decide (i0 < (↑(List.length x0) : Int))) (.r (.inl (.inr (.inl (i0))))) (.r (.inr (Bool.true))))
  | .inr (.inl (i1)) => (.c (Decidable.decide ((0 : Int) ≤ i1)) (.c (Decidable.decide (i1 < (↑(List.length x0) : Int))) (opt (Go.Proofs.YthapkffhmekmcaaDoor.g_text_span_has x1 x2 (↑(UInt8.toNat (List.getD x0 (Int.toNat i1) (0 : UInt8))) : Int)) fun (y0 : Bool) => (.r (.inl (.inr (.inr (.inl ((y0, i1)))))))) .bad) .bad)
  | .inr (.inr (.inl ((b0, i2)))) => (.c (b0) (.r (.inl (.inr (.inr (.inr (.inl ((Bool.true, i2)))))))) (.c (Decidable.decide ((0 : Int) ≤ i2)) (.c (Decidable.decide (i2 < (↑(List.length x0) : Int))) (opt (Go.Proofs.YthapkffhmekmcaaDoor.g_text_span_has x3 x4 (↑(UInt8.toNat (List.getD x0 (Int.toNat i2) (0 : UInt8))) : Int)) fun (y0 : Bool) => (.r (.inl (.inr (.inr (.inr (.inl ((y0, i2))))))))) .bad) .bad))
  | .inr (.inr (.inr (.inl ((b1, i3))))) => (.c (b1) (.r (.inl (.inr (.inr (.inr (.inr ((Bool.true, i3)))))))) (.c (Decidable.decide ((0 : Int) ≤ i3)) (.c (Decidable.decide (i3 < (↑(List.length x0) : Int))) (opt (Go.Proofs.YthapkffhmekmcaaDoor.g_text_span_has x5 x6 (↑(UInt8.toNat (List.getD x0 (Int.toNat i3) (0 : UInt8))) : Int)) fun (y0 : Bool) => (.r (.inl (.inr (.inr (.inr (.inr ((y0, i3))))))))) .bad) .bad))
  | .inr (.inr (.inr (.inr ((b2, i4))))) => (.c (!b2) (.r (.inr (Bool.false))) (.r (.inl (.inl (Go.IntKind.wrap Go.IntKind.i64 (i4 + (1 : Int)))))))
noncomputable def g_text_all_0l3 (x0 : List UInt8) (x1 : Int) (x2 : Int) (x3 : Int) (x4 : Int) (x5 : Int) (x6 : Int) : Option (Bool) := run (M_text_all_0l3 x0 x1 x2 x3 x4 x5 x6) (T_text_all_0l3 x0 x1 x2 x3 x4 x5 x6)
noncomputable def b_text_all_0l3 := Tryd.f65.body.getD .skip
noncomputable def st_text_all_0l3_0 (x0 : List UInt8) (x1 : Int) (x2 : Int) (x3 : Int) (x4 : Int) (x5 : Int) (x6 : Int) (i0 : Int) : St := ⟨[Go.Cx.AV.str x0, Go.Cx.AV.slice (1 : Nat) Go.Cx.Sh.any [Go.Cx.AV.func (66 : Nat) [Go.Cx.AV.agg [Go.Cx.AV.int Go.IntKind.u8 x1, Go.Cx.AV.int Go.IntKind.u8 x2]] [], Go.Cx.AV.func (66 : Nat) [Go.Cx.AV.agg [Go.Cx.AV.int Go.IntKind.u8 x3, Go.Cx.AV.int Go.IntKind.u8 x4]] [], Go.Cx.AV.func (66 : Nat) [Go.Cx.AV.agg [Go.Cx.AV.int Go.IntKind.u8 x5, Go.Cx.AV.int Go.IntKind.u8 x6]] []] Go.Cx.SK.ro, Go.Cx.AV.junk, Go.Cx.AV.junk, Go.Cx.AV.junk, Go.Cx.AV.junk, Go.Cx.AV.junk, Go.Cx.AV.junk, Go.Cx.AV.junk, Go.Cx.AV.junk, Go.Cx.AV.int Go.IntKind.i64 (↑(List.length x0) : Int), Go.Cx.AV.int Go.IntKind.i64 i0, Go.Cx.AV.junk, Go.Cx.AV.junk, Go.Cx.AV.junk, Go.Cx.AV.junk, Go.Cx.AV.junk, Go.Cx.AV.junk, Go.Cx.AV.junk, Go.Cx.AV.junk, Go.Cx.AV.junk, Go.Cx.AV.junk, Go.Cx.AV.junk, Go.Cx.AV.junk, Go.Cx.AV.junk, Go.Cx.AV.junk, Go.Cx.AV.junk, Go.Cx.AV.junk, Go.Cx.AV.junk, Go.Cx.AV.junk, Go.Cx.AV.junk, Go.Cx.AV.junk], []⟩
noncomputable def st_text_all_0l3_1 (x0 : List UInt8) (x1 : Int) (x2 : Int) (x3 : Int) (x4 : Int) (x5 : Int) (x6 : Int) (i1 : Int) : St := ⟨[Go.Cx.AV.str x0, Go.Cx.AV.slice (1 : Nat) Go.Cx.Sh.any [Go.Cx.AV.func (66 : Nat) [Go.Cx.AV.agg [Go.Cx.AV.int Go.IntKind.u8 x1, Go.Cx.AV.int Go.IntKind.u8 x2]] [], Go.Cx.AV.func (66 : Nat) [Go.Cx.AV.agg [Go.Cx.AV.int Go.IntKind.u8 x3, Go.Cx.AV.int Go.IntKind.u8 x4]] [], Go.Cx.AV.func (66 : Nat) [Go.Cx.AV.agg [Go.Cx.AV.int Go.IntKind.u8 x5, Go.Cx.AV.int Go.IntKind.u8 x6]] []] Go.Cx.SK.ro, Go.Cx.AV.junk, Go.Cx.AV.junk, Go.Cx.AV.junk, Go.Cx.AV.int Go.IntKind.i64 i1, Go.Cx.AV.bool Bool.false, Go.Cx.AV.junk, Go.Cx.AV.junk, Go.Cx.AV.junk, Go.Cx.AV.int Go.IntKind.i64 (↑(List.length x0) : Int), Go.Cx.AV.int Go.IntKind.i64 i1, Go.Cx.AV.junk, Go.Cx.AV.junk, Go.Cx.AV.slice (1 : Nat) Go.Cx.Sh.any [Go.Cx.AV.func (66 : Nat) [Go.Cx.AV.agg [Go.Cx.AV.int Go.IntKind.u8 x1, Go.Cx.AV.int Go.IntKind.u8 x2]] [], Go.Cx.AV.func (66 : Nat) [Go.Cx.AV.agg [Go.Cx.AV.int Go.IntKind.u8 x3, Go.Cx.AV.int Go.IntKind.u8 x4]] [], Go.Cx.AV.func (66 : Nat) [Go.Cx.AV.agg [Go.Cx.AV.int Go.IntKind.u8 x5, Go.Cx.AV.int Go.IntKind.u8 x6]] []] Go.Cx.SK.ro, Go.Cx.AV.int Go.IntKind.i64 (3 : Int), Go.Cx.AV.int Go.IntKind.i64 (0 : Int), Go.Cx.AV.junk, Go.Cx.AV.junk, Go.Cx.AV.junk, Go.Cx.AV.junk, Go.Cx.AV.junk, Go.Cx.AV.junk, Go.Cx.AV.junk, Go.Cx.AV.junk, Go.Cx.AV.junk, Go.Cx.AV.junk, Go.Cx.AV.junk, Go.Cx.AV.junk, Go.Cx.AV.junk, Go.Cx.AV.junk, Go.Cx.AV.junk], []⟩
noncomputable def st_text_all_0l3_2 (x0 : List UInt8) (x1 : Int) (x2 : Int) (x3 : Int) (x4 : Int) (x5 : Int) (x6 : Int) (b0 : Bool) (i2 : Int) : St := ⟨[Go.Cx.AV.str x0, Go.Cx.AV.slice (1 : Nat) Go.Cx.Sh.any [Go.Cx.AV.func (66 : Nat) [Go.Cx.AV.agg [Go.Cx.AV.int Go.IntKind.u8 x1, Go.Cx.AV.int Go.IntKind.u8 x2]] [], Go.Cx.AV.func (66 : Nat) [Go.Cx.AV.agg [Go.Cx.AV.int Go.IntKind.u8 x3, Go.Cx.AV.int Go.IntKind.u8 x4]] [], Go.Cx.AV.func (66 : Nat) [Go.Cx.AV.agg [Go.Cx.AV.int Go.IntKind.u8 x5, Go.Cx.AV.int Go.IntKind.u8 x6]] []] Go.Cx.SK.ro, Go.Cx.AV.junk, Go.Cx.AV.junk, Go.Cx.AV.junk, Go.Cx.AV.int Go.IntKind.i64 i2, Go.Cx.AV.bool b0, Go.Cx.AV.junk, Go.Cx.AV.junk, Go.Cx.AV.junk, Go.Cx.AV.int Go.IntKind.i64 (↑(List.length x0) : Int), Go.Cx.AV.int Go.IntKind.i64 i2, Go.Cx.AV.junk, Go.Cx.AV.junk, Go.Cx.AV.slice (1 : Nat) Go.Cx.Sh.any [Go.Cx.AV.func (66 : Nat) [Go.Cx.AV.agg [Go.Cx.AV.int Go.IntKind.u8 x1, Go.Cx.AV.int Go.IntKind.u8 x2]] [], Go.Cx.AV.func (66 : Nat) [Go.Cx.AV.agg [Go.Cx.AV.int Go.IntKind.u8 x3, Go.Cx.AV.int Go.IntKind.u8 x4]] [], Go.Cx.AV.func (66 : Nat) [Go.Cx.AV.agg [Go.Cx.AV.int Go.IntKind.u8 x5, Go.Cx.AV.int Go.IntKind.u8 x6]] []] Go.Cx.SK.ro, Go.Cx.AV.int Go.IntKind.i64 (3 : Int), Go.Cx.AV.int Go.IntKind.i64 (1 : Int), Go.Cx.AV.junk, Go.Cx.AV.junk, Go.Cx.AV.junk, Go.Cx.AV.junk, Go.Cx.AV.junk, Go.Cx.AV.junk, Go.Cx.AV.junk, Go.Cx.AV.junk, Go.Cx.AV.junk, Go.Cx.AV.junk, Go.Cx.AV.junk, Go.Cx.AV.junk, Go.Cx.AV.junk, Go.Cx.AV.junk, Go.Cx.AV.junk], []⟩
noncomputable def st_text_all_0l3_3 (x0 : List UInt8) (x1 : Int) (x2 : Int) (x3 : Int) (x4 : Int) (x5 : Int) (x6 : Int) (b1 : Bool) (i3 : Int) : St := ⟨[Go.Cx.AV.str x0, Go.Cx.AV.slice (1 : Nat) Go.Cx.Sh.any [Go.Cx.AV.func (66 : Nat) [Go.Cx.AV.agg [Go.Cx.AV.int Go.IntKind.u8 x1, Go.Cx.AV.int Go.IntKind.u8 x2]] [], Go.Cx.AV.func (66 : Nat) [Go.Cx.AV.agg [Go.Cx.AV.int Go.IntKind.u8 x3, Go.Cx.AV.int Go.IntKind.u8 x4]] [], Go.Cx.AV.func (66 : Nat) [Go.Cx.AV.agg [Go.Cx.AV.int Go.IntKind.u8 x5, Go.Cx.AV.int Go.IntKind.u8 x6]] []] Go.Cx.SK.ro, Go.Cx.AV.junk, Go.Cx.AV.junk, Go.Cx.AV.junk, Go.Cx.AV.int Go.IntKind.i64 i3, Go.Cx.AV.bool b1, Go.Cx.AV.junk, Go.Cx.AV.junk, Go.Cx.AV.junk, Go.Cx.AV.int Go.IntKind.i64 (↑(List.length x0) : Int), Go.Cx.AV.int Go.IntKind.i64 i3, Go.Cx.AV.junk, Go.Cx.AV.junk, Go.Cx.AV.slice (1 : Nat) Go.Cx.Sh.any [Go.Cx.AV.func (66 : Nat) [Go.Cx.AV.agg [Go.Cx.AV.int Go.IntKind.u8 x1, Go.Cx.AV.int Go.IntKind.u8 x2]] [], Go.Cx.AV.func (66 : Nat) [Go.Cx.AV.agg [Go.Cx.AV.int Go.IntKind.u8 x3, Go.Cx.AV.int Go.IntKind.u8 x4]] [], Go.Cx.AV.func (66 : Nat) [Go.Cx.AV.agg [Go.Cx.AV.int Go.IntKind.u8 x5, Go.Cx.AV.int Go.IntKind.u8 x6]] []] Go.Cx.SK.ro, Go.Cx.AV.int Go.IntKind.i64 (3 : Int), Go.Cx.AV.int Go.IntKind.i64 (2 : Int), Go.Cx.AV.junk, Go.Cx.AV.junk, Go.Cx.AV.junk, Go.Cx.AV.junk, Go.Cx.AV.junk, Go.Cx.AV.junk, Go.Cx.AV.junk, Go.Cx.AV.junk, Go.Cx.AV.junk, Go.Cx.AV.junk, Go.Cx.AV.junk, Go.Cx.AV.junk, Go.Cx.AV.junk, Go.Cx.AV.junk, Go.Cx.AV.junk], []⟩
noncomputable def st_text_all_0l3_4 (x0 : List UInt8) (x1 : Int) (x2 : Int) (x3 : Int) (x4 : Int) (x5 : Int) (x6 : Int) (b2 : Bool) (i4 : Int) : St := ⟨[Go.Cx.AV.str x0, Go.Cx.AV.slice (1 : Nat) Go.Cx.Sh.any [Go.Cx.AV.func (66 : Nat) [Go.Cx.AV.agg [Go.Cx.AV.int Go.IntKind.u8 x1, Go.Cx.AV.int Go.IntKind.u8 x2]] [], Go.Cx.AV.func (66 : Nat) [Go.Cx.AV.agg [Go.Cx.AV.int Go.IntKind.u8 x3, Go.Cx.AV.int Go.IntKind.u8 x4]] [], Go.Cx.AV.func (66 : Nat) [Go.Cx.AV.agg [Go.Cx.AV.int Go.IntKind.u8 x5, Go.Cx.AV.int Go.IntKind.u8 x6]] []] Go.Cx.SK.ro, Go.Cx.AV.junk, Go.Cx.AV.junk, Go.Cx.AV.junk, Go.Cx.AV.int Go.IntKind.i64 i4, Go.Cx.AV.bool b2, Go.Cx.AV.junk, Go.Cx.AV.junk, Go.Cx.AV.junk, Go.Cx.AV.int Go.IntKind.i64 (↑(List.length x0) : Int), Go.Cx.AV.int Go.IntKind.i64 i4, Go.Cx.AV.junk, Go.Cx.AV.junk, Go.Cx.AV.slice (1 : Nat) Go.Cx.Sh.any [Go.Cx.AV.func (66 : Nat) [Go.Cx.AV.agg [Go.Cx.AV.int Go.IntKind.u8 x1, Go.Cx.AV.int Go.IntKind.u8 x2]] [], Go.Cx.AV.func (66 : Nat) [Go.Cx.AV.agg [Go.Cx.AV.int Go.IntKind.u8 x3, Go.Cx.AV.int Go.IntKind.u8 x4]] [], Go.Cx.AV.func (66 : Nat) [Go.Cx.AV.agg [Go.Cx.AV.int Go.IntKind.u8 x5, Go.Cx.AV.int Go.IntKind.u8 x6]] []] Go.Cx.SK.ro, Go.Cx.AV.int Go.IntKind.i64 (3 : Int), Go.Cx.AV.int Go.IntKind.i64 (3 : Int), Go.Cx.AV.junk, Go.Cx.AV.junk, Go.Cx.AV.junk, Go.Cx.AV.junk, Go.Cx.AV.junk, Go.Cx.AV.junk, Go.Cx.AV.junk, Go.Cx.AV.junk, Go.Cx.AV.junk, Go.Cx.AV.junk, Go.Cx.AV.junk, Go.Cx.AV.junk, Go.Cx.AV.junk, Go.Cx.AV.junk, Go.Cx.AV.junk], []⟩
noncomputable def L_text_all_0l3 (x0 : List UInt8) (x1 : Int) (x2 : Int) (x3 : Int) (x4 : Int) (x5 : Int) (x6 : Int) (Rv : Bool → Prop) : (Int) ⊕ (Int) ⊕ (Bool × Int) ⊕ (Bool × Int) ⊕ (Bool × Int) → Prop
  | .inl (i0) => headL E_text_all_0l3 [.r, .l, .r, .d] b_text_all_0l3 0 (bodyK E_text_all_0l3 Tryd.f65 (outP O_text_all_0l3 fun ls => Rv (tup_text_all_0l3 ls))) (st_text_all_0l3_0 x0 x1 x2 x3 x4 x5 x6 i0)
  | .inr (.inl (i1)) => headL E_text_all_0l3 [.r, .l, .r, .d, .o 0, .r, .r, .l, .d, .r, .r, .l, .r, .d] b_text_all_0l3 0 (bodyK E_text_all_0l3 Tryd.f65 (outP O_text_all_0l3 fun ls => Rv (tup_text_all_0l3 ls))) (st_text_all_0l3_1 x0 x1 x2 x3 x4 x5 x6 i1)
  | .inr (.inr (.inl ((b0, i2)))) => headL E_text_all_0l3 [.r, .l, .r, .d, .o 0, .r, .r, .l, .d, .r, .r, .l, .r, .d] b_text_all_0l3 0 (bodyK E_text_all_0l3 Tryd.f65 (outP O_text_all_0l3 fun ls => Rv (tup_text_all_0l3 ls))) (st_text_all_0l3_2 x0 x1 x2 x3 x4 x5 x6 b0 i2)
  | .inr (.inr (.inr (.inl ((b1, i3))))) => headL E_text_all_0l3 [.r, .l, .r, .d, .o 0, .r, .r, .l, .d, .r, .r, .l, .r, .d] b_text_all_0l3 0 (bodyK E_text_all_0l3 Tryd.f65 (outP O_text_all_0l3 fun ls => Rv (tup_text_all_0l3 ls))) (st_text_all_0l3_3 x0 x1 x2 x3 x4 x5 x6 b1 i3)
  | .inr (.inr (.inr (.inr ((b2, i4))))) => headL E_text_all_0l3 [.r, .l, .r, .d, .o 0, .r, .r, .l, .d, .r, .r, .l, .r, .d] b_text_all_0l3 0 (bodyK E_text_all_0l3 Tryd.f65 (outP O_text_all_0l3 fun ls => Rv (tup_text_all_0l3 ls))) (st_text_all_0l3_4 x0 x1 x2 x3 x4 x5 x6 b2 i4)
set_option maxRecDepth 100000 in
theorem l_text_all_0l3_0 (x0 : List UInt8) (x1 : Int) (x2 : Int) (x3 : Int) (x4 : Int) (x5 : Int) (x6 : Int) (Rv : Bool → Prop) (i0 : Int) : stepL E_text_all_0l3 [.r, .l, .r, .d] b_text_all_0l3 0 (bodyK E_text_all_0l3 Tryd.f65 (outP O_text_all_0l3 fun ls => Rv (tup_text_all_0l3 ls))) (st_text_all_0l3_0 x0 x1 x2 x3 x4 x5 x6 i0) =
  (M_text_all_0l3 x0 x1 x2 x3 x4 x5 x6 (.inl (i0))).fold False (Sum.elim (L_text_all_0l3 x0 x1 x2 x3 x4 x5 x6 Rv) Rv) := by kernel_rfl
set_option maxRecDepth 100000 in
theorem l_text_all_0l3_1 (x0 : List UInt8) (x1 : Int) (x2 : Int) (x3 : Int) (x4 : Int) (x5 : Int) (x6 : Int) (Rv : Bool → Prop) (i1 : Int) : stepL E_text_all_0l3 [.r, .l, .r, .d, .o 0, .r, .r, .l, .d, .r, .r, .l, .r, .d] b_text_all_0l3 0 (bodyK E_text_all_0l3 Tryd.f65 (outP O_text_all_0l3 fun ls => Rv (tup_text_all_0l3 ls))) (st_text_all_0l3_1 x0 x1 x2 x3 x4 x5 x6 i1) =
  (M_text_all_0l3 x0 x1 x2 x3 x4 x5 x6 (.inr (.inl (i1)))).fold False (Sum.elim (L_text_all_0l3 x0 x1 x2 x3 x4 x5 x6 Rv) Rv) := by kernel_rfl
set_option maxRecDepth 100000 in
theorem l_text_all_0l3_2 (x0 : List UInt8) (x1 : Int) (x2 : Int) (x3 : Int) (x4 : Int) (x5 : Int) (x6 : Int) (Rv : Bool → Prop) (b0 : Bool) (i2 : Int) : stepL E_text_all_0l3 [.r, .l, .r, .d, .o 0, .r, .r, .l, .d, .r, .r, .l, .r, .d] b_text_all_0l3 0 (bodyK E_text_all_0l3 Tryd.f65 (outP O_text_all_0l3 fun ls => Rv (tup_text_all_0l3 ls))) (st_text_all_0l3_2 x0 x1 x2 x3 x4 x5 x6 b0 i2) =
  (M_text_all_0l3 x0 x1 x2 x3 x4 x5 x6 (.inr (.inr (.inl ((b0, i2)))))).fold False (Sum.elim (L_text_all_0l3 x0 x1 x2 x3 x4 x5 x6 Rv) Rv) := by kernel_rfl
set_option maxRecDepth 100000 in
theorem l_text_all_0l3_3 (x0 : List UInt8) (x1 : Int) (x2 : Int) (x3 : Int) (x4 : Int) (x5 : Int) (x6 : Int) (Rv : Bool → Prop) (b1 : Bool) (i3 : Int) : stepL E_text_all_0l3 [.r, .l, .r, .d, .o 0, .r, .r, .l, .d, .r, .r, .l, .r, .d] b_text_all_0l3 0 (bodyK E_text_all_0l3 Tryd.f65 (outP O_text_all_0l3 fun ls => Rv (tup_text_all_0l3 ls))) (st_text_all_0l3_3 x0 x1 x2 x3 x4 x5 x6 b1 i3) =
  (M_text_all_0l3 x0 x1 x2 x3 x4 x5 x6 (.inr (.inr (.inr (.inl ((b1, i3))))))).fold False (Sum.elim (L_text_all_0l3 x0 x1 x2 x3 x4 x5 x6 Rv) Rv) := by kernel_rfl
set_option maxRecDepth 100000 in
theorem l_text_all_0l3_4 (x0 : List UInt8) (x1 : Int) (x2 : Int) (x3 : Int) (x4 : Int) (x5 : Int) (x6 : Int) (Rv : Bool → Prop) (b2 : Bool) (i4 : Int) : stepL E_text_all_0l3 [.r, .l, .r, .d, .o 0, .r, .r, .l, .d, .r, .r, .l, .r, .d] b_text_all_0l3 0 (bodyK E_text_all_0l3 Tryd.f65 (outP O_text_all_0l3 fun ls => Rv (tup_text_all_0l3 ls))) (st_text_all_0l3_4 x0 x1 x2 x3 x4 x5 x6 b2 i4) =
  (M_text_all_0l3 x0 x1 x2 x3 x4 x5 x6 (.inr (.inr (.inr (.inr ((b2, i4))))))).fold False (Sum.elim (L_text_all_0l3 x0 x1 x2 x3 x4 x5 x6 Rv) Rv) := by kernel_rfl
set_option maxRecDepth 100000 in
theorem e_text_all_0l3_0 (x0 : List UInt8) (x1 : Int) (x2 : Int) (x3 : Int) (x4 : Int) (x5 : Int) (x6 : Int) (Rv : Bool → Prop) (i0 : Int) : L_text_all_0l3 x0 x1 x2 x3 x4 x5 x6 Rv (.inl (i0)) = headL E_text_all_0l3 [.r, .l, .r, .d] b_text_all_0l3 0 (bodyK E_text_all_0l3 Tryd.f65 (outP O_text_all_0l3 fun ls => Rv (tup_text_all_0l3 ls))) (st_text_all_0l3_0 x0 x1 x2 x3 x4 x5 x6 i0) := by kernel_rfl
set_option maxRecDepth 100000 in
theorem e_text_all_0l3_1 (x0 : List UInt8) (x1 : Int) (x2 : Int) (x3 : Int) (x4 : Int) (x5 : Int) (x6 : Int) (Rv : Bool → Prop) (i1 : Int) : L_text_all_0l3 x0 x1 x2 x3 x4 x5 x6 Rv (.inr (.inl (i1))) = headL E_text_all_0l3 [.r, .l, .r, .d, .o 0, .r, .r, .l, .d, .r, .r, .l, .r, .d] b_text_all_0l3 0 (bodyK E_text_all_0l3 Tryd.f65 (outP O_text_all_0l3 fun ls => Rv (tup_text_all_0l3 ls))) (st_text_all_0l3_1 x0 x1 x2 x3 x4 x5 x6 i1) := by kernel_rfl
set_option maxRecDepth 100000 in
theorem e_text_all_0l3_2 (x0 : List UInt8) (x1 : Int) (x2 : Int) (x3 : Int) (x4 : Int) (x5 : Int) (x6 : Int) (Rv : Bool → Prop) (b0 : Bool) (i2 : Int) : L_text_all_0l3 x0 x1 x2 x3 x4 x5 x6 Rv (.inr (.inr (.inl ((b0, i2))))) = headL E_text_all_0l3 [.r, .l, .r, .d, .o 0, .r, .r, .l, .d, .r, .r, .l, .r, .d] b_text_all_0l3 0 (bodyK E_text_all_0l3 Tryd.f65 (outP O_text_all_0l3 fun ls => Rv (tup_text_all_0l3 ls))) (st_text_all_0l3_2 x0 x1 x2 x3 x4 x5 x6 b0 i2) := by kernel_rfl
set_option maxRecDepth 100000 in
theorem e_text_all_0l3_3 (x0 : List UInt8) (x1 : Int) (x2 : Int) (x3 : Int) (x4 : Int) (x5 : Int) (x6 : Int) (Rv : Bool → Prop) (b1 : Bool) (i3 : Int) : L_text_all_0l3 x0 x1 x2 x3 x4 x5 x6 Rv (.inr (.inr (.inr (.inl ((b1, i3)))))) = headL E_text_all_0l3 [.r, .l, .r, .d, .o 0, .r, .r, .l, .d, .r, .r, .l, .r, .d] b_text_all_0l3 0 (bodyK E_text_all_0l3 Tryd.f65 (outP O_text_all_0l3 fun ls => Rv (tup_text_all_0l3 ls))) (st_text_all_0l3_3 x0 x1 x2 x3 x4 x5 x6 b1 i3) := by kernel_rfl
set_option maxRecDepth 100000 in
theorem e_text_all_0l3_4 (x0 : List UInt8) (x1 : Int) (x2 : Int) (x3 : Int) (x4 : Int) (x5 : Int) (x6 : Int) (Rv : Bool → Prop) (b2 : Bool) (i4 : Int) : L_text_all_0l3 x0 x1 x2 x3 x4 x5 x6 Rv (.inr (.inr (.inr (.inr ((b2, i4)))))) = headL E_text_all_0l3 [.r, .l, .r, .d, .o 0, .r, .r, .l, .d, .r, .r, .l, .r, .d] b_text_all_0l3 0 (bodyK E_text_all_0l3 Tryd.f65 (outP O_text_all_0l3 fun ls => Rv (tup_text_all_0l3 ls))) (st_text_all_0l3_4 x0 x1 x2 x3 x4 x5 x6 b2 i4) := by kernel_rfl
section
attribute [local irreducible] Tr.fold M_text_all_0l3 L_text_all_0l3 T_text_all_0l3 E_text_all_0l3 b_text_all_0l3 bodyK headC headL stepC stepL wpX callA
set_option maxRecDepth 100000 in
theorem h_text_all_0l3 (x0 : List UInt8) (x1 : Int) (x2 : Int) (x3 : Int) (x4 : Int) (x5 : Int) (x6 : Int) (Rv : Bool → Prop) : ∀ s, (M_text_all_0l3 x0 x1 x2 x3 x4 x5 x6 s).fold False (Sum.elim (L_text_all_0l3 x0 x1 x2 x3 x4 x5 x6 Rv) Rv) → L_text_all_0l3 x0 x1 x2 x3 x4 x5 x6 Rv s := by
  rintro (v0 | v0 | ⟨v0, v1⟩ | ⟨v0, v1⟩ | ⟨v0, v1⟩)
  · exact fun h => Eq.mpr (e_text_all_0l3_0 x0 x1 x2 x3 x4 x5 x6 Rv v0) (headL_of (Eq.mpr (l_text_all_0l3_0 x0 x1 x2 x3 x4 x5 x6 Rv v0) h))
  · exact fun h => Eq.mpr (e_text_all_0l3_1 x0 x1 x2 x3 x4 x5 x6 Rv v0) (headL_of (Eq.mpr (l_text_all_0l3_1 x0 x1 x2 x3 x4 x5 x6 Rv v0) h))
  · exact fun h => Eq.mpr (e_text_all_0l3_2 x0 x1 x2 x3 x4 x5 x6 Rv v0 v1) (headL_of (Eq.mpr (l_text_all_0l3_2 x0 x1 x2 x3 x4 x5 x6 Rv v0 v1) h))
  · exact fun h => Eq.mpr (e_text_all_0l3_3 x0 x1 x2 x3 x4 x5 x6 Rv v0 v1) (headL_of (Eq.mpr (l_text_all_0l3_3 x0 x1 x2 x3 x4 x5 x6 Rv v0 v1) h))
  · exact fun h => Eq.mpr (e_text_all_0l3_4 x0 x1 x2 x3 x4 x5 x6 Rv v0 v1) (headL_of (Eq.mpr (l_text_all_0l3_4 x0 x1 x2 x3 x4 x5 x6 Rv v0 v1) h))
set_option maxRecDepth 100000 in
theorem c_text_all_0l3 (ls : List AV) (Rv : Bool → Prop) : callA E_text_all_0l3 Tryd.f65 (instL ls P_text_all_0l3 0) [] (outP O_text_all_0l3 fun ls => Rv (tup_text_all_0l3 ls)) = (T_text_all_0l3 (getS (ls.getD 0 .junk)) (getI (ls.getD 1 .junk)) (getI (ls.getD 2 .junk)) (getI (ls.getD 3 .junk)) (getI (ls.getD 4 .junk)) (getI (ls.getD 5 .junk)) (getI (ls.getD 6 .junk))).fold False (Sum.elim (L_text_all_0l3 (getS (ls.getD 0 .junk)) (getI (ls.getD 1 .junk)) (getI (ls.getD 2 .junk)) (getI (ls.getD 3 .junk)) (getI (ls.getD 4 .junk)) (getI (ls.getD 5 .junk)) (getI (ls.getD 6 .junk)) Rv) Rv) := by kernel_rfl
end
noncomputable def S_text_all_0l3 : Go.Cx.Spec := pureS (patF P_text_all_0l3 fun ls => opt (g_text_all_0l3 (getS (ls.getD 0 .junk)) (getI (ls.getD 1 .junk)) (getI (ls.getD 2 .junk)) (getI (ls.getD 3 .junk)) (getI (ls.getD 4 .junk)) (getI (ls.getD 5 .junk)) (getI (ls.getD 6 .junk))) fun x => .r (res_text_all_0l3 x))
set_option maxRecDepth 100000 in
theorem S_text_all_0l3_ok : Sound Tryd.prog 65 S_text_all_0l3 :=
  pure_mach (E := E_text_all_0l3) (TblOK.enK TYeG68t_ok _ _ _ _ _) mixed rfl Tryd.func65 (c := Tryd.f65.body.getD .skip) (by kernel_rfl) (by kernel_rfl) (pats := P_text_all_0l3) (O := O_text_all_0l3) (tup := tup_text_all_0l3) (res := res_text_all_0l3) (g := fun ls => g_text_all_0l3 (getS (ls.getD 0 .junk)) (getI (ls.getD 1 .junk)) (getI (ls.getD 2 .junk)) (getI (ls.getD 3 .junk)) (getI (ls.getD 4 .junk)) (getI (ls.getD 5 .junk)) (getI (ls.getD 6 .junk))) (T := fun ls => T_text_all_0l3 (getS (ls.getD 0 .junk)) (getI (ls.getD 1 .junk)) (getI (ls.getD 2 .junk)) (getI (ls.getD 3 .junk)) (getI (ls.getD 4 .junk)) (getI (ls.getD 5 .junk)) (getI (ls.getD 6 .junk))) (step := fun ls => M_text_all_0l3 (getS (ls.getD 0 .junk)) (getI (ls.getD 1 .junk)) (getI (ls.getD 2 .junk)) (getI (ls.getD 3 .junk)) (getI (ls.getD 4 .junk)) (getI (ls.getD 5 .junk)) (getI (ls.getD 6 .junk))) (L := fun ls => L_text_all_0l3 (getS (ls.getD 0 .junk)) (getI (ls.getD 1 .junk)) (getI (ls.getD 2 .junk)) (getI (ls.getD 3 .junk)) (getI (ls.getD 4 .junk)) (getI (ls.getD 5 .junk)) (getI (ls.getD 6 .junk))) (fun _ => rfl) (fun ls => by kernel_rfl) c_text_all_0l3 (fun ls Rv => h_text_all_0l3 (getS (ls.getD 0 .junk)) (getI (ls.getD 1 .junk)) (getI (ls.getD 2 .junk)) (getI (ls.getD 3 .junk)) (getI (ls.getD 4 .junk)) (getI (ls.getD 5 .junk)) (getI (ls.getD 6 .junk)) Rv)

noncomputable def TYeG69t : FuncId → Option Go.Cx.Spec := addT TYeG68t 65 S_text_all_0l3
theorem TYeG69t_ok : TblOK Tryd.prog TYeG69t := TYeG68t_ok.add S_text_all_0l3_ok

/- comptoir/text.Aln -/
noncomputable def E_text_Aln : En := enK Tryd.prog TYeG69t [] [] [] [] 0
def P_text_Aln : List Pat := [.leaf .str, .leaf (.int .i64), .leaf (.int .i64)]
def O_text_Aln : Pat := .leaf .bool
def tup_text_Aln : List AV → Bool := fun ls => getB (ls.getD 0 .junk)
def res_text_Aln : Bool → AV := fun x => .bool (x)
noncomputable def T_text_Aln (x0 : List UInt8) (x1 : Int) (x2 : Int) : Tr (Bool) := (.c (Decidable.decide ((↑(List.length x0) : Int) ≥ x1)) (.c (Decidable.decide ((↑(List.length x0) : Int) ≤ x2)) (opt (Go.Proofs.YthapkffhmekmcaaDoor.g_text_all_0l3 x0 (48 : Int) (57 : Int) (65 : Int) (90 : Int) (97 : Int) (122 : Int)) fun (y0 : Bool) => (.r (y0))) (.r (Bool.false))) (.r (Bool.false)))
noncomputable def g_text_Aln (x0 : List UInt8) (x1 : Int) (x2 : Int) : Option (Bool) := (T_text_Aln x0 x1 x2).val
set_option maxRecDepth 100000 in
theorem c_text_Aln (ls : List AV) (Rv : Bool → Prop) : callA E_text_Aln Tryd.f53 (instL ls P_text_Aln 0) [] (outP O_text_Aln fun ls => Rv (tup_text_Aln ls)) = (T_text_Aln (getS (ls.getD 0 .junk)) (getI (ls.getD 1 .junk)) (getI (ls.getD 2 .junk))).fold False Rv := by kernel_rfl
noncomputable def S_text_Aln : Go.Cx.Spec := pureS (patF P_text_Aln fun ls => opt (g_text_Aln (getS (ls.getD 0 .junk)) (getI (ls.getD 1 .junk)) (getI (ls.getD 2 .junk))) fun x => .r (res_text_Aln x))
set_option maxRecDepth 100000 in
theorem S_text_Aln_ok : Sound Tryd.prog 53 S_text_Aln :=
  pure_flat (E := E_text_Aln) (TblOK.enK TYeG69t_ok _ _ _ _ _) mixed rfl Tryd.func53 (c := Tryd.f53.body.getD .skip) (by kernel_rfl) (by kernel_rfl) (pats := P_text_Aln) (O := O_text_Aln) (tup := tup_text_Aln) (res := res_text_Aln) (g := fun ls => g_text_Aln (getS (ls.getD 0 .junk)) (getI (ls.getD 1 .junk)) (getI (ls.getD 2 .junk))) (T := fun ls => T_text_Aln (getS (ls.getD 0 .junk)) (getI (ls.getD 1 .junk)) (getI (ls.getD 2 .junk))) (fun _ => rfl) (fun ls => by kernel_rfl) c_text_Aln

noncomputable def TYeG610t : FuncId → Option Go.Cx.Spec := addT TYeG69t 53 S_text_Aln
theorem TYeG610t_ok : TblOK Tryd.prog TYeG610t := TYeG69t_ok.add S_text_Aln_ok

/- (comptoir/element.data).letters -/
noncomputable def E_element_data_letters : En := enK Tryd.prog TYeG610t [] [] [] [] 0
def P_element_data_letters : List Pat := [.leaf .str, .leaf (.int .i64)]
def O_element_data_letters : Pat := .leaf .bool
def tup_element_data_letters : List AV → Bool := fun ls => getB (ls.getD 0 .junk)
def res_element_data_letters : Bool → AV := fun x => .bool (x)
noncomputable def T_element_data_letters (x0 : List UInt8) (x1 : Int) : Tr (Bool) := (opt (Go.Proofs.YthapkffhmekmcaaDoor.g_text_Aln x0 (0 : Int) x1) fun (y0 : Bool) => (.r (y0)))
noncomputable def g_element_data_letters (x0 : List UInt8) (x1 : Int) : Option (Bool) := (T_element_data_letters x0 x1).val
set_option maxRecDepth 100000 in
theorem c_element_data_letters (ls : List AV) (Rv : Bool → Prop) : callA E_element_data_letters Tryd.f41 (instL ls P_element_data_letters 0) [] (outP O_element_data_letters fun ls => Rv (tup_element_data_letters ls)) = (T_element_data_letters (getS (ls.getD 0 .junk)) (getI (ls.getD 1 .junk))).fold False Rv := by kernel_rfl
noncomputable def S_element_data_letters : Go.Cx.Spec := pureS (patF P_element_data_letters fun ls => opt (g_element_data_letters (getS (ls.getD 0 .junk)) (getI (ls.getD 1 .junk))) fun x => .r (res_element_data_letters x))
set_option maxRecDepth 100000 in
theorem S_element_data_letters_ok : Sound Tryd.prog 41 S_element_data_letters :=
  pure_flat (E := E_element_data_letters) (TblOK.enK TYeG610t_ok _ _ _ _ _) mixed rfl Tryd.func41 (c := Tryd.f41.body.getD .skip) (by kernel_rfl) (by kernel_rfl) (pats := P_element_data_letters) (O := O_element_data_letters) (tup := tup_element_data_letters) (res := res_element_data_letters) (g := fun ls => g_element_data_letters (getS (ls.getD 0 .junk)) (getI (ls.getD 1 .junk))) (T := fun ls => T_element_data_letters (getS (ls.getD 0 .junk)) (getI (ls.getD 1 .junk))) (fun _ => rfl) (fun ls => by kernel_rfl) c_element_data_letters

noncomputable def TYeG611t : FuncId → Option Go.Cx.Spec := addT TYeG610t 41 S_element_data_letters
theorem TYeG611t_ok : TblOK Tryd.prog TYeG611t := TYeG610t_ok.add S_element_data_letters_ok

/- comptoir/text.all -/
noncomputable def E_text_all_0l1 : En := enK Tryd.prog TYeG611t [] [(2, ⟨[2, 3, 4, 5, 6, 7, 8, 9, 12, 13, 14, 15, 16, 17, 18, 19, 20, 21, 22, 23, 24, 25, 26, 27, 28, 29, 30, 31], [], [], none, [], [], [], [], false⟩), (6, ⟨[2, 3, 4, 7, 8, 9, 12, 13, 17, 18, 19, 20, 21, 22, 23, 24, 25, 26, 27, 28, 29, 30, 31], [], [], none, [], [], [], [], false⟩)] [] [] 0
def P_text_all_0l1 : List Pat := [.leaf .str, .sl [.func 66 [.agg [.leaf (.int .u8), .leaf (.int .u8)]] []]]
def O_text_all_0l1 : Pat := .leaf .bool
def tup_text_all_0l1 : List AV → Bool := fun ls => getB (ls.getD 0 .junk)
def res_text_all_0l1 : Bool → AV := fun x => .bool (x)
noncomputable def T_text_all_0l1 (x0 : List UInt8) (x1 : Int) (x2 : Int) : Tr (((Int) ⊕ (Int) ⊕ (Bool × Int)) ⊕ (Bool)) := (.r (.inl (.inl ((0 : Int)))))
noncomputable def M_text_all_0l1 (x0 : List UInt8) (x1 : Int) (x2 : Int) : (Int) ⊕ (Int) ⊕ (Bool × Int) → Tr (((Int) ⊕ (Int) ⊕ (Bool × Int)) ⊕ (Bool))
  | .inl (i0) => (.c (Decidable.decide (i0 < (↑(List.length x0) : Int))) (.r (.inl (.inr (.inl (i0))))) (.r (.inr (Bool.true))))
  | .inr (.inl (i1)) => (.c (Decidable.decide ((0 : Int) ≤ i1)) (.c (Decidable.decide (i1 < (↑(List.length x0) : Int))) (opt (Go.Proofs.YthapkffhmekmcaaDoor.g_text_span_has x1 x2 (↑(UInt8.toNat (List.getD x0 (Int.toNat i1) (0 : UInt8))) : Int)) fun (y0 : Bool) => (.r (.inl (.inr (.inr ((y0, i1))))))) .bad) .bad)
  | .inr (.inr ((b0, i2))) => (.c (!b0) (.r (.inr (Bool.false))) (.r (.inl (.inl (Go.IntKind.wrap Go.IntKind.i64 (i2 + (1 : Int)))))))
noncomputable def g_text_all_0l1 (x0 : List UInt8) (x1 : Int) (x2 : Int) : Option (Bool) := run (M_text_all_0l1 x0 x1 x2) (T_text_all_0l1 x0 x1 x2)
noncomputable def b_text_all_0l1 := Tryd.f65.body.getD .skip
noncomputable def st_text_all_0l1_0 (x0 : List UInt8) (x1 : Int) (x2 : Int) (i0 : Int) : St := ⟨[Go.Cx.AV.str x0, Go.Cx.AV.slice (1 : Nat) Go.Cx.Sh.any [Go.Cx.AV.func (66 : Nat) [Go.Cx.AV.agg [Go.Cx.AV.int Go.IntKind.u8 x1, Go.Cx.AV.int Go.IntKind.u8 x2]] []] Go.Cx.SK.ro, Go.Cx.AV.junk, Go.Cx.AV.junk, Go.Cx.AV.junk, Go.Cx.AV.junk, Go.Cx.AV.junk, Go.Cx.AV.junk, Go.Cx.AV.junk, Go.Cx.AV.junk, Go.Cx.AV.int Go.IntKind.i64 (↑(List.length x0) : Int), Go.Cx.AV.int Go.IntKind.i64 i0, Go.Cx.AV.junk, Go.Cx.AV.junk, Go.Cx.AV.junk, Go.Cx.AV.junk, Go.Cx.AV.junk, Go.Cx.AV.junk, Go.Cx.AV.junk, Go.Cx.AV.junk, Go.Cx.AV.junk, Go.Cx.AV.junk, Go.Cx.AV.junk, Go.Cx.AV.junk, Go.Cx.AV.junk, Go.Cx.AV.junk, Go.Cx.AV.junk, Go.Cx.AV.junk, Go.Cx.AV.junk, Go.Cx.AV.junk, Go.Cx.AV.junk, Go.Cx.AV.junk], []⟩
noncomputable def st_text_all_0l1_1 (x0 : List UInt8) (x1 : Int) (x2 : Int) (i1 : Int) : St := ⟨[Go.Cx.AV.str x0, Go.Cx.AV.slice (1 : Nat) Go.Cx.Sh.any [Go.Cx.AV.func (66 : Nat) [Go.Cx.AV.agg [Go.Cx.AV.int Go.IntKind.u8 x1, Go.Cx.AV.int Go.IntKind.u8 x2]] []] Go.Cx.SK.ro, Go.Cx.AV.junk, Go.Cx.AV.junk, Go.Cx.AV.junk, Go.Cx.AV.int Go.IntKind.i64 i1, Go.Cx.AV.bool Bool.false, Go.Cx.AV.junk, Go.Cx.AV.junk, Go.Cx.AV.junk, Go.Cx.AV.int Go.IntKind.i64 (↑(List.length x0) : Int), Go.Cx.AV.int Go.IntKind.i64 i1, Go.Cx.AV.junk, Go.Cx.AV.junk, Go.Cx.AV.slice (1 : Nat) Go.Cx.Sh.any [Go.Cx.AV.func (66 : Nat) [Go.Cx.AV.agg [Go.Cx.AV.int Go.IntKind.u8 x1, Go.Cx.AV.int Go.IntKind.u8 x2]] []] Go.Cx.SK.ro, Go.Cx.AV.int Go.IntKind.i64 (1 : Int), Go.Cx.AV.int Go.IntKind.i64 (0 : Int), Go.Cx.AV.junk, Go.Cx.AV.junk, Go.Cx.AV.junk, Go.Cx.AV.junk, Go.Cx.AV.junk, Go.Cx.AV.junk, Go.Cx.AV.junk, Go.Cx.AV.junk, Go.Cx.AV.junk, Go.Cx.AV.junk, Go.Cx.AV.junk, Go.Cx.AV.junk, Go.Cx.AV.junk, Go.Cx.AV.junk, Go.Cx.AV.junk], []⟩
noncomputable def st_text_all_0l1_2 (x0 : List UInt8) (x1 : Int) (x2 : Int) (b0 : Bool) (i2 : Int) : St := ⟨[Go.Cx.AV.str x0, Go.Cx.AV.slice (1 : Nat) Go.Cx.Sh.any [Go.Cx.AV.func (66 : Nat) [Go.Cx.AV.agg [Go.Cx.AV.int Go.IntKind.u8 x1, Go.Cx.AV.int Go.IntKind.u8 x2]] []] Go.Cx.SK.ro, Go.Cx.AV.junk, Go.Cx.AV.junk, Go.Cx.AV.junk, Go.Cx.AV.int Go.IntKind.i64 i2, Go.Cx.AV.bool b0, Go.Cx.AV.junk, Go.Cx.AV.junk, Go.Cx.AV.junk, Go.Cx.AV.int Go.IntKind.i64 (↑(List.length x0) : Int), Go.Cx.AV.int Go.IntKind.i64 i2, Go.Cx.AV.junk, Go.Cx.AV.junk, Go.Cx.AV.slice (1 : Nat) Go.Cx.Sh.any [Go.Cx.AV.func (66 : Nat) [Go.Cx.AV.agg [Go.Cx.AV.int Go.IntKind.u8 x1, Go.Cx.AV.int Go.IntKind.u8 x2]] []] Go.Cx.SK.ro, Go.Cx.AV.int Go.IntKind.i64 (1 : Int), Go.Cx.AV.int Go.IntKind.i64 (1 : Int), Go.Cx.AV.junk, Go.Cx.AV.junk, Go.Cx.AV.junk, Go.Cx.AV.junk, Go.Cx.AV.junk, Go.Cx.AV.junk, Go.Cx.AV.junk, Go.Cx.AV.junk, Go.Cx.AV.junk, Go.Cx.AV.junk, Go.Cx.AV.junk, Go.Cx.AV.junk, Go.Cx.AV.junk, Go.Cx.AV.junk, Go.Cx.AV.junk], []⟩
noncomputable def L_text_all_0l1 (x0 : List UInt8) (x1 : Int) (x2 : Int) (Rv : Bool → Prop) : (Int) ⊕ (Int) ⊕ (Bool × Int) → Prop
  | .inl (i0) => headL E_text_all_0l1 [.r, .l, .r, .d] b_text_all_0l1 0 (bodyK E_text_all_0l1 Tryd.f65 (outP O_text_all_0l1 fun ls => Rv (tup_text_all_0l1 ls))) (st_text_all_0l1_0 x0 x1 x2 i0)
  | .inr (.inl (i1)) => headL E_text_all_0l1 [.r, .l, .r, .d, .o 0, .r, .r, .l, .d, .r, .r, .l, .r, .d] b_text_all_0l1 0 (bodyK E_text_all_0l1 Tryd.f65 (outP O_text_all_0l1 fun ls => Rv (tup_text_all_0l1 ls))) (st_text_all_0l1_1 x0 x1 x2 i1)
  | .inr (.inr ((b0, i2))) => headL E_text_all_0l1 [.r, .l, .r, .d, .o 0, .r, .r, .l, .d, .r, .r, .l, .r, .d] b_text_all_0l1 0 (bodyK E_text_all_0l1 Tryd.f65 (outP O_text_all_0l1 fun ls => Rv (tup_text_all_0l1 ls))) (st_text_all_0l1_2 x0 x1 x2 b0 i2)
set_option maxRecDepth 100000 in
theorem l_text_all_0l1_0 (x0 : List UInt8) (x1 : Int) (x2 : Int) (Rv : Bool → Prop) (i0 : Int) : stepL E_text_all_0l1 [.r, .l, .r, .d] b_text_all_0l1 0 (bodyK E_text_all_0l1 Tryd.f65 (outP O_text_all_0l1 fun ls => Rv (tup_text_all_0l1 ls))) (st_text_all_0l1_0 x0 x1 x2 i0) =
  (M_text_all_0l1 x0 x1 x2 (.inl (i0))).fold False (Sum.elim (L_text_all_0l1 x0 x1 x2 Rv) Rv) := by kernel_rfl
set_option maxRecDepth 100000 in
theorem l_text_all_0l1_1 (x0 : List UInt8) (x1 : Int) (x2 : Int) (Rv : Bool → Prop) (i1 : Int) : stepL E_text_all_0l1 [.r, .l, .r, .d, .o 0, .r, .r, .l, .d, .r, .r, .l, .r, .d] b_text_all_0l1 0 (bodyK E_text_all_0l1 Tryd.f65 (outP O_text_all_0l1 fun ls => Rv (tup_text_all_0l1 ls))) (st_text_all_0l1_1 x0 x1 x2 i1) =
  (M_text_all_0l1 x0 x1 x2 (.inr (.inl (i1)))).fold False (Sum.elim (L_text_all_0l1 x0 x1 x2 Rv) Rv) := by kernel_rfl
set_option maxRecDepth 100000 in
theorem l_text_all_0l1_2 (x0 : List UInt8) (x1 : Int) (x2 : Int) (Rv : Bool → Prop) (b0 : Bool) (i2 : Int) : stepL E_text_all_0l1 [.r, .l, .r, .d, .o 0, .r, .r, .l, .d, .r, .r, .l, .r, .d] b_text_all_0l1 0 (bodyK E_text_all_0l1 Tryd.f65 (outP O_text_all_0l1 fun ls => Rv (tup_text_all_0l1 ls))) (st_text_all_0l1_2 x0 x1 x2 b0 i2) =
  (M_text_all_0l1 x0 x1 x2 (.inr (.inr ((b0, i2))))).fold False (Sum.elim (L_text_all_0l1 x0 x1 x2 Rv) Rv) := by kernel_rfl
set_option maxRecDepth 100000 in
theorem e_text_all_0l1_0 (x0 : List UInt8) (x1 : Int) (x2 : Int) (Rv : Bool → Prop) (i0 : Int) : L_text_all_0l1 x0 x1 x2 Rv (.inl (i0)) = headL E_text_all_0l1 [.r, .l, .r, .d] b_text_all_0l1 0 (bodyK E_text_all_0l1 Tryd.f65 (outP O_text_all_0l1 fun ls => Rv (tup_text_all_0l1 ls))) (st_text_all_0l1_0 x0 x1 x2 i0) := by kernel_rfl
set_option maxRecDepth 100000 in
theorem e_text_all_0l1_1 (x0 : List UInt8) (x1 : Int) (x2 : Int) (Rv : Bool → Prop) (i1 : Int) : L_text_all_0l1 x0 x1 x2 Rv (.inr (.inl (i1))) = headL E_text_all_0l1 [.r, .l, .r, .d, .o 0, .r, .r, .l, .d, .r, .r, .l, .r, .d] b_text_all_0l1 0 (bodyK E_text_all_0l1 Tryd.f65 (outP O_text_all_0l1 fun ls => Rv (tup_text_all_0l1 ls))) (st_text_all_0l1_1 x0 x1 x2 i1) := by kernel_rfl
set_option maxRecDepth 100000 in
theorem e_text_all_0l1_2 (x0 : List UInt8) (x1 : Int) (x2 : Int) (Rv : Bool → Prop) (b0 : Bool) (i2 : Int) : L_text_all_0l1 x0 x1 x2 Rv (.inr (.inr ((b0, i2)))) = headL E_text_all_0l1 [.r, .l, .r, .d, .o 0, .r, .r, .l, .d, .r, .r, .l, .r, .d] b_text_all_0l1 0 (bodyK E_text_all_0l1 Tryd.f65 (outP O_text_all_0l1 fun ls => Rv (tup_text_all_0l1 ls))) (st_text_all_0l1_2 x0 x1 x2 b0 i2) := by kernel_rfl
section
attribute [local irreducible] Tr.fold M_text_all_0l1 L_text_all_0l1 T_text_all_0l1 E_text_all_0l1 b_text_all_0l1 bodyK headC headL stepC stepL wpX callA
set_option maxRecDepth 100000 in
theorem h_text_all_0l1 (x0 : List UInt8) (x1 : Int) (x2 : Int) (Rv : Bool → Prop) : ∀ s, (M_text_all_0l1 x0 x1 x2 s).fold False (Sum.elim (L_text_all_0l1 x0 x1 x2 Rv) Rv) → L_text_all_0l1 x0 x1 x2 Rv s := by
  rintro (v0 | v0 | ⟨v0, v1⟩)
  · exact fun h => Eq.mpr (e_text_all_0l1_0 x0 x1 x2 Rv v0) (headL_of (Eq.mpr (l_text_all_0l1_0 x0 x1 x2 Rv v0) h))
  · exact fun h => Eq.mpr (e_text_all_0l1_1 x0 x1 x2 Rv v0) (headL_of (Eq.mpr (l_text_all_0l1_1 x0 x1 x2 Rv v0) h))
  · exact fun h => Eq.mpr (e_text_all_0l1_2 x0 x1 x2 Rv v0 v1) (headL_of (Eq.mpr (l_text_all_0l1_2 x0 x1 x2 Rv v0 v1) h))
set_option maxRecDepth 100000 in
theorem c_text_all_0l1 (ls : List AV) (Rv : Bool → Prop) : callA E_text_all_0l1 Tryd.f65 (instL ls P_text_all_0l1 0) [] (outP O_text_all_0l1 fun ls => Rv (tup_text_all_0l1 ls)) = (T_text_all_0l1 (getS (ls.getD 0 .junk)) (getI (ls.getD 1 .junk)) (getI (ls.getD 2 .junk))).fold False (Sum.elim (L_text_all_0l1 (getS (ls.getD 0 .junk)) (getI (ls.getD 1 .junk)) (getI (ls.getD 2 .junk)) Rv) Rv) := by kernel_rfl
end
noncomputable def S_text_all_0l1 : Go.Cx.Spec := pureS (patF P_text_all_0l1 fun ls => opt (g_text_all_0l1 (getS (ls.getD 0 .junk)) (getI (ls.getD 1 .junk)) (getI (ls.getD 2 .junk))) fun x => .r (res_text_all_0l1 x))
set_option maxRecDepth 100000 in
theorem S_text_all_0l1_ok : Sound Tryd.prog 65 S_text_all_0l1 :=
  pure_mach (E := E_text_all_0l1) (TblOK.enK TYeG611t_ok _ _ _ _ _) mixed rfl Tryd.func65 (c := Tryd.f65.body.getD .skip) (by kernel_rfl) (by kernel_rfl) (pats := P_text_all_0l1) (O := O_text_all_0l1) (tup := tup_text_all_0l1) (res := res_text_all_0l1) (g := fun ls => g_text_all_0l1 (getS (ls.getD 0 .junk)) (getI (ls.getD 1 .junk)) (getI (ls.getD 2 .junk))) (T := fun ls => T_text_all_0l1 (getS (ls.getD 0 .junk)) (getI (ls.getD 1 .junk)) (getI (ls.getD 2 .junk))) (step := fun ls => M_text_all_0l1 (getS (ls.getD 0 .junk)) (getI (ls.getD 1 .junk)) (getI (ls.getD 2 .junk))) (L := fun ls => L_text_all_0l1 (getS (ls.getD 0 .junk)) (getI (ls.getD 1 .junk)) (getI (ls.getD 2 .junk))) (fun _ => rfl) (fun ls => by kernel_rfl) c_text_all_0l1 (fun ls Rv => h_text_all_0l1 (getS (ls.getD 0 .junk)) (getI (ls.getD 1 .junk)) (getI (ls.getD 2 .junk)) Rv)

noncomputable def TYeG612t : FuncId → Option Go.Cx.Spec := addT TYeG611t 65 (orS (tagsB [0, 1010066]) S_text_all_0l1 S_text_all_0l3)
theorem TYeG612t_ok : TblOK Tryd.prog TYeG612t := TYeG611t_ok.add (Sound.or _ S_text_all_0l1_ok S_text_all_0l3_ok)

/- comptoir/text.Ans -/
noncomputable def E_text_Ans : En := enK Tryd.prog TYeG612t [] [] [] [] 0
def P_text_Ans : List Pat := [.leaf .str, .leaf (.int .i64)]
def O_text_Ans : Pat := .leaf .bool
def tup_text_Ans : List AV → Bool := fun ls => getB (ls.getD 0 .junk)
def res_text_Ans : Bool → AV := fun x => .bool (x)
noncomputable def T_text_Ans (x0 : List UInt8) (x1 : Int) : Tr (Bool) := (.c (Decidable.decide ((↑(List.length x0) : Int) ≥ (1 : Int))) (.c (Decidable.decide ((↑(List.length x0) : Int) ≤ x1)) (opt (Go.Proofs.YthapkffhmekmcaaDoor.g_text_all_0l1 x0 (32 : Int) (126 : Int)) fun (y0 : Bool) => (.r (y0))) (.r (Bool.false))) (.r (Bool.false)))
noncomputable def g_text_Ans (x0 : List UInt8) (x1 : Int) : Option (Bool) := (T_text_Ans x0 x1).val
set_option maxRecDepth 100000 in
theorem c_text_Ans (ls : List AV) (Rv : Bool → Prop) : callA E_text_Ans Tryd.f54 (instL ls P_text_Ans 0) [] (outP O_text_Ans fun ls => Rv (tup_text_Ans ls)) = (T_text_Ans (getS (ls.getD 0 .junk)) (getI (ls.getD 1 .junk))).fold False Rv := by kernel_rfl
noncomputable def S_text_Ans : Go.Cx.Spec := pureS (patF P_text_Ans fun ls => opt (g_text_Ans (getS (ls.getD 0 .junk)) (getI (ls.getD 1 .junk))) fun x => .r (res_text_Ans x))
set_option maxRecDepth 100000 in
theorem S_text_Ans_ok : Sound Tryd.prog 54 S_text_Ans :=
  pure_flat (E := E_text_Ans) (TblOK.enK TYeG612t_ok _ _ _ _ _) mixed rfl Tryd.func54 (c := Tryd.f54.body.getD .skip) (by kernel_rfl) (by kernel_rfl) (pats := P_text_Ans) (O := O_text_Ans) (tup := tup_text_Ans) (res := res_text_Ans) (g := fun ls => g_text_Ans (getS (ls.getD 0 .junk)) (getI (ls.getD 1 .junk))) (T := fun ls => T_text_Ans (getS (ls.getD 0 .junk)) (getI (ls.getD 1 .junk))) (fun _ => rfl) (fun ls => by kernel_rfl) c_text_Ans

noncomputable def TYeG613t : FuncId → Option Go.Cx.Spec := addT TYeG612t 54 S_text_Ans
theorem TYeG613t_ok : TblOK Tryd.prog TYeG613t := TYeG612t_ok.add S_text_Ans_ok

/- (comptoir/element.data).signs -/
noncomputable def E_element_data_signs : En := enK Tryd.prog TYeG613t [] [] [] [] 0
def P_element_data_signs : List Pat := [.leaf .str, .leaf (.int .i64)]
def O_element_data_signs : Pat := .leaf .bool
def tup_element_data_signs : List AV → Bool := fun ls => getB (ls.getD 0 .junk)
def res_element_data_signs : Bool → AV := fun x => .bool (x)
noncomputable def T_element_data_signs (x0 : List UInt8) (x1 : Int) : Tr (Bool) := (opt (Go.Proofs.YthapkffhmekmcaaDoor.g_text_Ans x0 x1) fun (y0 : Bool) => (.r (y0)))
noncomputable def g_element_data_signs (x0 : List UInt8) (x1 : Int) : Option (Bool) := (T_element_data_signs x0 x1).val
set_option maxRecDepth 100000 in
theorem c_element_data_signs (ls : List AV) (Rv : Bool → Prop) : callA E_element_data_signs Tryd.f42 (instL ls P_element_data_signs 0) [] (outP O_element_data_signs fun ls => Rv (tup_element_data_signs ls)) = (T_element_data_signs (getS (ls.getD 0 .junk)) (getI (ls.getD 1 .junk))).fold False Rv := by kernel_rfl
noncomputable def S_element_data_signs : Go.Cx.Spec := pureS (patF P_element_data_signs fun ls => opt (g_element_data_signs (getS (ls.getD 0 .junk)) (getI (ls.getD 1 .junk))) fun x => .r (res_element_data_signs x))
set_option maxRecDepth 100000 in
theorem S_element_data_signs_ok : Sound Tryd.prog 42 S_element_data_signs :=
  pure_flat (E := E_element_data_signs) (TblOK.enK TYeG613t_ok _ _ _ _ _) mixed rfl Tryd.func42 (c := Tryd.f42.body.getD .skip) (by kernel_rfl) (by kernel_rfl) (pats := P_element_data_signs) (O := O_element_data_signs) (tup := tup_element_data_signs) (res := res_element_data_signs) (g := fun ls => g_element_data_signs (getS (ls.getD 0 .junk)) (getI (ls.getD 1 .junk))) (T := fun ls => T_element_data_signs (getS (ls.getD 0 .junk)) (getI (ls.getD 1 .junk))) (fun _ => rfl) (fun ls => by kernel_rfl) c_element_data_signs

noncomputable def TYeG614t : FuncId → Option Go.Cx.Spec := addT TYeG613t 42 S_element_data_signs
theorem TYeG614t_ok : TblOK Tryd.prog TYeG614t := TYeG613t_ok.add S_element_data_signs_ok

/- (comptoir/element.data).any -/
noncomputable def E_element_data_any : En := enK Tryd.prog TYeG614t [] [] [] [] 0
def P_element_data_any : List Pat := [.leaf .str, .leaf (.int .i64)]
def O_element_data_any : Pat := .leaf .bool
def tup_element_data_any : List AV → Bool := fun ls => getB (ls.getD 0 .junk)
def res_element_data_any : Bool → AV := fun x => .bool (x)
noncomputable def T_element_data_any (x0 : List UInt8) (x1 : Int) : Tr (Bool) := (.r (Bool.true))
noncomputable def g_element_data_any (x0 : List UInt8) (x1 : Int) : Option (Bool) := (T_element_data_any x0 x1).val
set_option maxRecDepth 100000 in
theorem c_element_data_any (ls : List AV) (Rv : Bool → Prop) : callA E_element_data_any Tryd.f43 (instL ls P_element_data_any 0) [] (outP O_element_data_any fun ls => Rv (tup_element_data_any ls)) = (T_element_data_any (getS (ls.getD 0 .junk)) (getI (ls.getD 1 .junk))).fold False Rv := by kernel_rfl
noncomputable def S_element_data_any : Go.Cx.Spec := pureS (patF P_element_data_any fun ls => opt (g_element_data_any (getS (ls.getD 0 .junk)) (getI (ls.getD 1 .junk))) fun x => .r (res_element_data_any x))
set_option maxRecDepth 100000 in
theorem S_element_data_any_ok : Sound Tryd.prog 43 S_element_data_any :=
  pure_flat (E := E_element_data_any) (TblOK.enK TYeG614t_ok _ _ _ _ _) mixed rfl Tryd.func43 (c := Tryd.f43.body.getD .skip) (by kernel_rfl) (by kernel_rfl) (pats := P_element_data_any) (O := O_element_data_any) (tup := tup_element_data_any) (res := res_element_data_any) (g := fun ls => g_element_data_any (getS (ls.getD 0 .junk)) (getI (ls.getD 1 .junk))) (T := fun ls => T_element_data_any (getS (ls.getD 0 .junk)) (getI (ls.getD 1 .junk))) (fun _ => rfl) (fun ls => by kernel_rfl) c_element_data_any

noncomputable def TYeG615t : FuncId → Option Go.Cx.Spec := addT TYeG614t 43 S_element_data_any
theorem TYeG615t_ok : TblOK Tryd.prog TYeG615t := TYeG614t_ok.add S_element_data_any_ok

/- comptoir/element.right -/
noncomputable def E_element_right : En := enK Tryd.prog TYeG615t [] [] [] [] 0
def P_element_right : List Pat := [.agg [.leaf (.int .i64), .leaf (.int .i64), .leaf (.int .i64), .leaf (.int .i64)], .leaf (.slice 1 (.int .u8))]
def O_element_right : Pat := .leaf (.int .i64)
def tup_element_right : List AV → Int := fun ls => getI (ls.getD 0 .junk)
def res_element_right : Int → AV := fun x => .int .i64 (x)
noncomputable def T_element_right (x0 : Int) (x1 : Int) (x2 : Int) (x3 : Int) (x4 : List AV) : Tr (Int) := (.c (x1 == (1 : Int)) (opt (Go.Proofs.YthapkffhmekmcaaDoor.g_element_data_numbers (Go.Cx.bytesOf x4) x3) fun (y0 : Bool) => (.c (!y0) (.r ((14 : Int))) (.r ((0 : Int))))) (.c (x1 == (2 : Int)) (opt (Go.Proofs.YthapkffhmekmcaaDoor.g_element_data_letters (Go.Cx.bytesOf x4) x3) fun (y0 : Bool) => (.c (!y0) (.r ((14 : Int))) (.r ((0 : Int))))) (.c (x1 == (3 : Int)) (opt (Go.Proofs.YthapkffhmekmcaaDoor.g_element_data_signs (Go.Cx.bytesOf x4) x3) fun (y0 : Bool) => (.c (!y0) (.r ((14 : Int))) (.r ((0 : Int))))) (.r ((0 : Int))))))
noncomputable def g_element_right (x0 : Int) (x1 : Int) (x2 : Int) (x3 : Int) (x4 : List AV) : Option (Int) := (T_element_right x0 x1 x2 x3 x4).val
set_option maxRecDepth 100000 in
theorem c_element_right (ls : List AV) (Rv : Int → Prop) : callA E_element_right Tryd.f25 (instL ls P_element_right 0) [] (outP O_element_right fun ls => Rv (tup_element_right ls)) = (T_element_right (getI (ls.getD 0 .junk)) (getI (ls.getD 1 .junk)) (getI (ls.getD 2 .junk)) (getI (ls.getD 3 .junk)) (getXs (ls.getD 4 .junk))).fold False Rv := by kernel_rfl
noncomputable def S_element_right : Go.Cx.Spec := pureS (patF P_element_right fun ls => opt (g_element_right (getI (ls.getD 0 .junk)) (getI (ls.getD 1 .junk)) (getI (ls.getD 2 .junk)) (getI (ls.getD 3 .junk)) (getXs (ls.getD 4 .junk))) fun x => .r (res_element_right x))
set_option maxRecDepth 100000 in
theorem S_element_right_ok : Sound Tryd.prog 25 S_element_right :=
  pure_flat (E := E_element_right) (TblOK.enK TYeG615t_ok _ _ _ _ _) mixed rfl Tryd.func25 (c := Tryd.f25.body.getD .skip) (by kernel_rfl) (by kernel_rfl) (pats := P_element_right) (O := O_element_right) (tup := tup_element_right) (res := res_element_right) (g := fun ls => g_element_right (getI (ls.getD 0 .junk)) (getI (ls.getD 1 .junk)) (getI (ls.getD 2 .junk)) (getI (ls.getD 3 .junk)) (getXs (ls.getD 4 .junk))) (T := fun ls => T_element_right (getI (ls.getD 0 .junk)) (getI (ls.getD 1 .junk)) (getI (ls.getD 2 .junk)) (getI (ls.getD 3 .junk)) (getXs (ls.getD 4 .junk))) (fun _ => rfl) (fun ls => by kernel_rfl) c_element_right

noncomputable def TYeG616t : FuncId → Option Go.Cx.Spec := addT TYeG615t 25 S_element_right
theorem TYeG616t_ok : TblOK Tryd.prog TYeG616t := TYeG615t_ok.add S_element_right_ok

/- comptoir/element.Check -/
noncomputable def E_element_Check : En := enK Tryd.prog TYeG616t [] [] [] [] 0
def P_element_Check : List Pat := [.agg [.leaf (.int .i64), .leaf (.slice 1 (.int .u8))]]
def O_element_Check : Pat := .leaf (.int .i64)
def tup_element_Check : List AV → Int := fun ls => getI (ls.getD 0 .junk)
def res_element_Check : Int → AV := fun x => .int .i64 (x)
noncomputable def T_element_Check (x0 : Int) (x1 : List AV) : Tr (Int) := (opt (Go.Proofs.YthapkffhmekmcaaDoor.g_element_Of x0) fun (y0 : Int × Int × Int × Int × Bool) => (.c (!Prod.snd (Prod.snd (Prod.snd (Prod.snd y0)))) (.r ((16 : Int))) (opt (Go.Proofs.YthapkffhmekmcaaDoor.g_element_long (Prod.fst y0) (Prod.fst (Prod.snd y0)) (Prod.fst (Prod.snd (Prod.snd y0))) (Prod.fst (Prod.snd (Prod.snd (Prod.snd y0)))) (↑(List.length x1) : Int)) fun (y1 : Bool) => (.c (!y1) (.r ((17 : Int))) (opt (Go.Proofs.YthapkffhmekmcaaDoor.g_element_right (Prod.fst y0) (Prod.fst (Prod.snd y0)) (Prod.fst (Prod.snd (Prod.snd y0))) (Prod.fst (Prod.snd (Prod.snd (Prod.snd y0)))) x1) fun (y2 : Int) => (.r (y2)))))))
noncomputable def g_element_Check (x0 : Int) (x1 : List AV) : Option (Int) := (T_element_Check x0 x1).val
set_option maxRecDepth 100000 in
theorem c_element_Check (ls : List AV) (Rv : Int → Prop) : callA E_element_Check Tryd.f19 (instL ls P_element_Check 0) [] (outP O_element_Check fun ls => Rv (tup_element_Check ls)) = (T_element_Check (getI (ls.getD 0 .junk)) (getXs (ls.getD 1 .junk))).fold False Rv := by kernel_rfl
noncomputable def S_element_Check : Go.Cx.Spec := pureS (patF P_element_Check fun ls => opt (g_element_Check (getI (ls.getD 0 .junk)) (getXs (ls.getD 1 .junk))) fun x => .r (res_element_Check x))
set_option maxRecDepth 100000 in
theorem S_element_Check_ok : Sound Tryd.prog 19 S_element_Check :=
  pure_flat (E := E_element_Check) (TblOK.enK TYeG616t_ok _ _ _ _ _) mixed rfl Tryd.func19 (c := Tryd.f19.body.getD .skip) (by kernel_rfl) (by kernel_rfl) (pats := P_element_Check) (O := O_element_Check) (tup := tup_element_Check) (res := res_element_Check) (g := fun ls => g_element_Check (getI (ls.getD 0 .junk)) (getXs (ls.getD 1 .junk))) (T := fun ls => T_element_Check (getI (ls.getD 0 .junk)) (getXs (ls.getD 1 .junk))) (fun _ => rfl) (fun ls => by kernel_rfl) c_element_Check

noncomputable def TYeG617t : FuncId → Option Go.Cx.Spec := addT TYeG616t 19 S_element_Check
theorem TYeG617t_ok : TblOK Tryd.prog TYeG617t := TYeG616t_ok.add S_element_Check_ok

/- comptoir/digits.Text -/
noncomputable def E_digits_Text : En := enK Tryd.prog TYeG617t [] [] [] [] 0
def P_digits_Text : List Pat := [.leaf (.int .u64), .leaf (.int .i64)]
def O_digits_Text : Pat := .tuple [.leaf .str, .leaf (.int .i64)]
def tup_digits_Text : List AV → List UInt8 × Int := fun ls => (getS (ls.getD 0 .junk), getI (ls.getD 1 .junk))
def res_digits_Text : List UInt8 × Int → AV := fun x => .tuple [.str (x.1), .int .i64 (x.2)]
noncomputable def T_digits_Text (x0 : Int) (x1 : Int) : Tr (List UInt8 × Int) := (.c (Decidable.decide (x1 < (1 : Int))) (.r (([], (1 : Int)))) (.c (Decidable.decide (x1 > (20 : Int))) (.r (([], (1 : Int)))) (.c (Decidable.decide ((0 : Int) ≤ x0)) (.c (Decidable.decide (x0 < (18446744073709551616 : Int))) (.c (Decidable.decide ((↑(List.length (Go.Lib.decDigits (Int.toNat x0))) : Int) > x1)) (.r (([], (4 : Int)))) (.c (Decidable.decide ((0 : Int) ≤ Go.IntKind.wrap Go.IntKind.i64 (x1 - (↑(List.length (Go.Lib.decDigits (Int.toNat x0))) : Int)))) (.c (Decidable.decide (Go.IntKind.wrap Go.IntKind.i64 (x1 - (↑(List.length (Go.Lib.decDigits (Int.toNat x0))) : Int)) ≤ (1000000000 : Int))) (.c (Decidable.decide (List.length (Go.Lib.repeatL [(48 : UInt8)] (Int.toNat (Go.IntKind.wrap Go.IntKind.i64 (x1 - (↑(List.length (Go.Lib.decDigits (Int.toNat x0))) : Int))))) + List.length (Go.Lib.decDigits (Int.toNat x0)) < (70368744177664 : Nat))) (.r ((Go.Lib.repeatL [(48 : UInt8)] (Int.toNat (Go.IntKind.wrap Go.IntKind.i64 (x1 - (↑(List.length (Go.Lib.decDigits (Int.toNat x0))) : Int)))) ++ Go.Lib.decDigits (Int.toNat x0), (0 : Int)))) .bad) .bad) .bad)) .bad) .bad)))
noncomputable def g_digits_Text (x0 : Int) (x1 : Int) : Option (List UInt8 × Int) := (T_digits_Text x0 x1).val
set_option maxRecDepth 100000 in
theorem c_digits_Text (ls : List AV) (Rv : List UInt8 × Int → Prop) : callA E_digits_Text Tryd.f28 (instL ls P_digits_Text 0) [] (outP O_digits_Text fun ls => Rv (tup_digits_Text ls)) = (T_digits_Text (getI (ls.getD 0 .junk)) (getI (ls.getD 1 .junk))).fold False Rv := by kernel_rfl
noncomputable def S_digits_Text : Go.Cx.Spec := pureS (patF P_digits_Text fun ls => opt (g_digits_Text (getI (ls.getD 0 .junk)) (getI (ls.getD 1 .junk))) fun x => .r (res_digits_Text x))
set_option maxRecDepth 100000 in
theorem S_digits_Text_ok : Sound Tryd.prog 28 S_digits_Text :=
  pure_flat (E := E_digits_Text) (TblOK.enK TYeG617t_ok _ _ _ _ _) mixed rfl Tryd.func28 (c := Tryd.f28.body.getD .skip) (by kernel_rfl) (by kernel_rfl) (pats := P_digits_Text) (O := O_digits_Text) (tup := tup_digits_Text) (res := res_digits_Text) (g := fun ls => g_digits_Text (getI (ls.getD 0 .junk)) (getI (ls.getD 1 .junk))) (T := fun ls => T_digits_Text (getI (ls.getD 0 .junk)) (getI (ls.getD 1 .junk))) (fun _ => rfl) (fun ls => by kernel_rfl) c_digits_Text

noncomputable def TYeG618t : FuncId → Option Go.Cx.Spec := addT TYeG617t 28 S_digits_Text
theorem TYeG618t_ok : TblOK Tryd.prog TYeG618t := TYeG617t_ok.add S_digits_Text_ok

/- comptoir/element.Write -/
noncomputable def E_element_Write : En := enK Tryd.prog TYeG618t [33] [] [] [] 0
def P_element_Write : List Pat := [.agg [.leaf (.int .i64), .leaf (.slice 1 (.int .u8))]]
def O_element_Write : Pat := .tuple [.leaf (.slice 1 (.int .u8)), .leaf (.int .i64)]
def tup_element_Write : List AV → List AV × Int := fun ls => (getXs (ls.getD 0 .junk), getI (ls.getD 1 .junk))
def res_element_Write : List AV × Int → AV := fun x => .tuple [.slice 1 (.int .u8) (x.1) .ro, .int .i64 (x.2)]
noncomputable def T_element_Write (x0 : Int) (x1 : List AV) : Tr (List AV × Int) := (opt (Go.Proofs.YthapkffhmekmcaaDoor.g_element_Check x0 x1) fun (y0 : Int) => (.c (y0 != (0 : Int)) (.r (([], y0))) (opt (Go.Proofs.YthapkffhmekmcaaDoor.g_element_Of x0) fun (y1 : Int × Int × Int × Int × Bool) => (.c (Decidable.decide (Prod.fst (Prod.snd (Prod.snd y1)) > (0 : Int))) (opt (Go.Proofs.YthapkffhmekmcaaDoor.g_digits_Text (Go.IntKind.wrap Go.IntKind.u64 (↑(List.length x1) : Int)) (Prod.fst (Prod.snd (Prod.snd y1)))) fun (y2 : List UInt8 × Int) => (.c (List.length (List.map Go.Cx.byte (Prod.fst y2)) == List.length (List.map Go.Cx.byte (Prod.fst y2))) (.c (Decidable.decide (List.length (List.map Go.Cx.byte (Prod.fst y2) ++ x1) * (2 : Nat) < (70368744177664 : Nat))) (.c (List.length (List.map Go.Cx.byte (Prod.fst y2) ++ x1) == List.length (List.map Go.Cx.byte (Prod.fst y2) ++ x1)) (.r ((List.map Go.Cx.byte (Prod.fst y2) ++ x1, (0 : Int)))) .bad) .bad) .bad)) (.c (Decidable.decide (List.length x1 * (2 : Nat) < (70368744177664 : Nat))) (.c (List.length x1 == List.length x1) (.r ((x1, (0 : Int)))) .bad) .bad)))))
noncomputable def g_element_Write (x0 : Int) (x1 : List AV) : Option (List AV × Int) := (T_element_Write x0 x1).val
set_option maxRecDepth 100000 in
theorem c_element_Write (ls : List AV) (Rv : List AV × Int → Prop) : callA E_element_Write Tryd.f14 (instL ls P_element_Write 0) [] (outP O_element_Write fun ls => Rv (tup_element_Write ls)) = (T_element_Write (getI (ls.getD 0 .junk)) (getXs (ls.getD 1 .junk))).fold False Rv := by kernel_rfl
noncomputable def S_element_Write : Go.Cx.Spec := pureS (patF P_element_Write fun ls => opt (g_element_Write (getI (ls.getD 0 .junk)) (getXs (ls.getD 1 .junk))) fun x => .r (res_element_Write x))
set_option maxRecDepth 100000 in
theorem S_element_Write_ok : Sound Tryd.prog 14 S_element_Write :=
  pure_flat (E := E_element_Write) (TblOK.enK TYeG618t_ok _ _ _ _ _) mixed rfl Tryd.func14 (c := Tryd.f14.body.getD .skip) (by kernel_rfl) (by kernel_rfl) (pats := P_element_Write) (O := O_element_Write) (tup := tup_element_Write) (res := res_element_Write) (g := fun ls => g_element_Write (getI (ls.getD 0 .junk)) (getXs (ls.getD 1 .junk))) (T := fun ls => T_element_Write (getI (ls.getD 0 .junk)) (getXs (ls.getD 1 .junk))) (fun _ => rfl) (fun ls => by kernel_rfl) c_element_Write

noncomputable def TYeG619t : FuncId → Option Go.Cx.Spec := addT TYeG618t 14 S_element_Write
theorem TYeG619t_ok : TblOK Tryd.prog TYeG619t := TYeG618t_ok.add S_element_Write_ok

/- comptoir/digits.Number -/
noncomputable def E_digits_Number : En := enK Tryd.prog TYeG619t [] [(5, ⟨[1, 2, 3, 5, 6, 7, 8, 9, 12, 13, 14, 15, 16, 17, 18, 19, 20, 21, 22, 23], [], [], none, [], [], [], [], false⟩)] [] [] 0
def P_digits_Number : List Pat := [.leaf .str]
def O_digits_Number : Pat := .tuple [.leaf (.int .u64), .leaf (.int .i64)]
def tup_digits_Number : List AV → Int × Int := fun ls => (getI (ls.getD 0 .junk), getI (ls.getD 1 .junk))
def res_digits_Number : Int × Int → AV := fun x => .tuple [.int .u64 (x.1), .int .i64 (x.2)]
noncomputable def T_digits_Number (x0 : List UInt8) : Tr ((Int × Int) ⊕ (Int × Int)) := (opt (Go.Proofs.YthapkffhmekmcaaDoor.g_digits_Right x0 (1 : Int) (18 : Int)) fun (y0 : Bool) => (.c (!y0) (.r (.inr (((0 : Int), (5 : Int))))) (.r (.inl (((0 : Int), (0 : Int)))))))
noncomputable def M_digits_Number (x0 : List UInt8) : Int × Int → Tr ((Int × Int) ⊕ (Int × Int))
  | (i0, i1) => (.c (Decidable.decide (i1 < (↑(List.length x0) : Int))) (.c (Decidable.decide ((0 : Int) ≤ i1)) (.c (Decidable.decide (i1 < (↑(List.length x0) : Int))) (.r (.inl ((Go.IntKind.wrap Go.IntKind.u64 (Go.IntKind.wrap Go.IntKind.u64 (i0 * (10 : Int)) + Go.IntKind.wrap Go.IntKind.u64 (Go.IntKind.wrap Go.IntKind.u8 ((↑(UInt8.toNat (List.getD x0 (Int.toNat i1) (0 : UInt8))) : Int) - (48 : Int)))), Go.IntKind.wrap Go.IntKind.i64 (i1 + (1 : Int)))))) .bad) .bad) (.r (.inr ((i0, (0 : Int))))))
noncomputable def g_digits_Number (x0 : List UInt8) : Option (Int × Int) := run (M_digits_Number x0) (T_digits_Number x0)
noncomputable def b_digits_Number := Tryd.f32.body.getD .skip
noncomputable def st_digits_Number_0 (x0 : List UInt8) (i0 : Int) (i1 : Int) : St := ⟨[Go.Cx.AV.str x0, Go.Cx.AV.junk, Go.Cx.AV.junk, Go.Cx.AV.junk, Go.Cx.AV.int Go.IntKind.u64 i0, Go.Cx.AV.junk, Go.Cx.AV.junk, Go.Cx.AV.junk, Go.Cx.AV.junk, Go.Cx.AV.junk, Go.Cx.AV.int Go.IntKind.i64 (↑(List.length x0) : Int), Go.Cx.AV.int Go.IntKind.i64 i1, Go.Cx.AV.junk, Go.Cx.AV.junk, Go.Cx.AV.junk, Go.Cx.AV.junk, Go.Cx.AV.junk, Go.Cx.AV.junk, Go.Cx.AV.junk, Go.Cx.AV.junk, Go.Cx.AV.junk, Go.Cx.AV.junk, Go.Cx.AV.junk, Go.Cx.AV.junk], []⟩
noncomputable def L_digits_Number (x0 : List UInt8) (Rv : Int × Int → Prop) : Int × Int → Prop
  | (i0, i1) => headL E_digits_Number [.r, .r, .r, .l, .r, .d] b_digits_Number 0 (bodyK E_digits_Number Tryd.f32 (outP O_digits_Number fun ls => Rv (tup_digits_Number ls))) (st_digits_Number_0 x0 i0 i1)
set_option maxRecDepth 100000 in
theorem l_digits_Number_0 (x0 : List UInt8) (Rv : Int × Int → Prop) (i0 : Int) (i1 : Int) : stepL E_digits_Number [.r, .r, .r, .l, .r, .d] b_digits_Number 0 (bodyK E_digits_Number Tryd.f32 (outP O_digits_Number fun ls => Rv (tup_digits_Number ls))) (st_digits_Number_0 x0 i0 i1) =
  (M_digits_Number x0 ((i0, i1))).fold False (Sum.elim (L_digits_Number x0 Rv) Rv) := by kernel_rfl
set_option maxRecDepth 100000 in
theorem e_digits_Number_0 (x0 : List UInt8) (Rv : Int × Int → Prop) (i0 : Int) (i1 : Int) : L_digits_Number x0 Rv ((i0, i1)) = headL E_digits_Number [.r, .r, .r, .l, .r, .d] b_digits_Number 0 (bodyK E_digits_Number Tryd.f32 (outP O_digits_Number fun ls => Rv (tup_digits_Number ls))) (st_digits_Number_0 x0 i0 i1) := by kernel_rfl
section
attribute [local irreducible] Tr.fold M_digits_Number L_digits_Number T_digits_Number E_digits_Number b_digits_Number bodyK headC headL stepC stepL wpX callA
set_option maxRecDepth 100000 in
theorem h_digits_Number (x0 : List UInt8) (Rv : Int × Int → Prop) : ∀ s, (M_digits_Number x0 s).fold False (Sum.elim (L_digits_Number x0 Rv) Rv) → L_digits_Number x0 Rv s := by
  rintro (⟨v0, v1⟩)
  · exact fun h => Eq.mpr (e_digits_Number_0 x0 Rv v0 v1) (headL_of (Eq.mpr (l_digits_Number_0 x0 Rv v0 v1) h))
set_option maxRecDepth 100000 in
theorem c_digits_Number (ls : List AV) (Rv : Int × Int → Prop) : callA E_digits_Number Tryd.f32 (instL ls P_digits_Number 0) [] (outP O_digits_Number fun ls => Rv (tup_digits_Number ls)) = (T_digits_Number (getS (ls.getD 0 .junk))).fold False (Sum.elim (L_digits_Number (getS (ls.getD 0 .junk)) Rv) Rv) := by kernel_rfl
end
noncomputable def S_digits_Number : Go.Cx.Spec := pureS (patF P_digits_Number fun ls => opt (g_digits_Number (getS (ls.getD 0 .junk))) fun x => .r (res_digits_Number x))
set_option maxRecDepth 100000 in
theorem S_digits_Number_ok : Sound Tryd.prog 32 S_digits_Number :=
  pure_mach (E := E_digits_Number) (TblOK.enK TYeG619t_ok _ _ _ _ _) mixed rfl Tryd.func32 (c := Tryd.f32.body.getD .skip) (by kernel_rfl) (by kernel_rfl) (pats := P_digits_Number) (O := O_digits_Number) (tup := tup_digits_Number) (res := res_digits_Number) (g := fun ls => g_digits_Number (getS (ls.getD 0 .junk))) (T := fun ls => T_digits_Number (getS (ls.getD 0 .junk))) (step := fun ls => M_digits_Number (getS (ls.getD 0 .junk))) (L := fun ls => L_digits_Number (getS (ls.getD 0 .junk))) (fun _ => rfl) (fun ls => by kernel_rfl) c_digits_Number (fun ls Rv => h_digits_Number (getS (ls.getD 0 .junk)) Rv)

noncomputable def TYeG620t : FuncId → Option Go.Cx.Spec := addT TYeG619t 32 S_digits_Number
theorem TYeG620t_ok : TblOK Tryd.prog TYeG620t := TYeG619t_ok.add S_digits_Number_ok

/- comptoir/element.size -/
noncomputable def E_element_size : En := enK Tryd.prog TYeG620t [] [] [] [] 0
def P_element_size : List Pat := [.agg [.leaf (.int .i64), .leaf (.int .i64), .leaf (.int .i64), .leaf (.int .i64)], .leaf (.slice 1 (.int .u8))]
def O_element_size : Pat := .tuple [.leaf (.int .i64), .leaf (.int .i64)]
def tup_element_size : List AV → Int × Int := fun ls => (getI (ls.getD 0 .junk), getI (ls.getD 1 .junk))
def res_element_size : Int × Int → AV := fun x => .tuple [.int .i64 (x.1), .int .i64 (x.2)]
noncomputable def T_element_size (x0 : Int) (x1 : Int) (x2 : Int) (x3 : Int) (x4 : List AV) : Tr (Int × Int) := (.c (x2 == (0 : Int)) (.r ((x3, (0 : Int)))) (.c (Decidable.decide ((↑(List.length x4) : Int) < x2)) (.r (((0 : Int), (3 : Int)))) (.c (Decidable.decide ((0 : Int) ≤ x2)) (.c (Decidable.decide (x2 ≤ (↑(List.length x4) : Int))) (.c (Decidable.decide ((0 : Int) ≤ x2)) (opt (Go.Proofs.YthapkffhmekmcaaDoor.g_digits_Number (Go.Cx.bytesOf (List.drop (0 : Nat) (List.take (Int.toNat x2) x4)))) fun (y0 : Int × Int) => (.c (Prod.snd y0 != (0 : Int)) (.r (((0 : Int), Prod.snd y0))) (opt (Go.Proofs.YthapkffhmekmcaaDoor.g_element_long x0 x1 x2 x3 (Go.IntKind.wrap Go.IntKind.i64 (Prod.fst y0))) fun (y1 : Bool) => (.c (!y1) (.r (((0 : Int), (17 : Int)))) (.r ((Go.IntKind.wrap Go.IntKind.i64 (Prod.fst y0), (0 : Int)))))))) .bad) .bad) .bad)))
noncomputable def g_element_size (x0 : Int) (x1 : Int) (x2 : Int) (x3 : Int) (x4 : List AV) : Option (Int × Int) := (T_element_size x0 x1 x2 x3 x4).val
set_option maxRecDepth 100000 in
theorem c_element_size (ls : List AV) (Rv : Int × Int → Prop) : callA E_element_size Tryd.f24 (instL ls P_element_size 0) [] (outP O_element_size fun ls => Rv (tup_element_size ls)) = (T_element_size (getI (ls.getD 0 .junk)) (getI (ls.getD 1 .junk)) (getI (ls.getD 2 .junk)) (getI (ls.getD 3 .junk)) (getXs (ls.getD 4 .junk))).fold False Rv := by kernel_rfl
noncomputable def S_element_size : Go.Cx.Spec := pureS (patF P_element_size fun ls => opt (g_element_size (getI (ls.getD 0 .junk)) (getI (ls.getD 1 .junk)) (getI (ls.getD 2 .junk)) (getI (ls.getD 3 .junk)) (getXs (ls.getD 4 .junk))) fun x => .r (res_element_size x))
set_option maxRecDepth 100000 in
theorem S_element_size_ok : Sound Tryd.prog 24 S_element_size :=
  pure_flat (E := E_element_size) (TblOK.enK TYeG620t_ok _ _ _ _ _) mixed rfl Tryd.func24 (c := Tryd.f24.body.getD .skip) (by kernel_rfl) (by kernel_rfl) (pats := P_element_size) (O := O_element_size) (tup := tup_element_size) (res := res_element_size) (g := fun ls => g_element_size (getI (ls.getD 0 .junk)) (getI (ls.getD 1 .junk)) (getI (ls.getD 2 .junk)) (getI (ls.getD 3 .junk)) (getXs (ls.getD 4 .junk))) (T := fun ls => T_element_size (getI (ls.getD 0 .junk)) (getI (ls.getD 1 .junk)) (getI (ls.getD 2 .junk)) (getI (ls.getD 3 .junk)) (getXs (ls.getD 4 .junk))) (fun _ => rfl) (fun ls => by kernel_rfl) c_element_size

noncomputable def TYeG621t : FuncId → Option Go.Cx.Spec := addT TYeG620t 24 S_element_size
theorem TYeG621t_ok : TblOK Tryd.prog TYeG621t := TYeG620t_ok.add S_element_size_ok

/- comptoir/element.Read -/
noncomputable def E_element_Read : En := enK Tryd.prog TYeG621t [] [] [] [] 0
def P_element_Read : List Pat := [.leaf (.int .i64), .leaf (.slice 1 (.int .u8))]
def O_element_Read : Pat := .tuple [.leaf (.slice 1 (.int .u8)), .leaf (.int .i64), .leaf (.int .i64)]
def tup_element_Read : List AV → List AV × Int × Int := fun ls => (getXs (ls.getD 0 .junk), getI (ls.getD 1 .junk), getI (ls.getD 2 .junk))
def res_element_Read : List AV × Int × Int → AV := fun x => .tuple [.slice 1 (.int .u8) (x.1) .ro, .int .i64 (x.2.1), .int .i64 (x.2.2)]
noncomputable def T_element_Read (x0 : Int) (x1 : List AV) : Tr (List AV × Int × Int) := (opt (Go.Proofs.YthapkffhmekmcaaDoor.g_element_Of x0) fun (y0 : Int × Int × Int × Int × Bool) => (.c (!Prod.snd (Prod.snd (Prod.snd (Prod.snd y0)))) (.r (([], (0 : Int), (16 : Int)))) (opt (Go.Proofs.YthapkffhmekmcaaDoor.g_element_size (Prod.fst y0) (Prod.fst (Prod.snd y0)) (Prod.fst (Prod.snd (Prod.snd y0))) (Prod.fst (Prod.snd (Prod.snd (Prod.snd y0)))) x1) fun (y1 : Int × Int) => (.c (Prod.snd y1 != (0 : Int)) (.r (([], (0 : Int), Prod.snd y1))) (.c (Decidable.decide ((↑(List.length x1) : Int) < Go.IntKind.wrap Go.IntKind.i64 (Prod.fst (Prod.snd (Prod.snd y0)) + Prod.fst y1))) (.r (([], (0 : Int), (3 : Int)))) (.c (Decidable.decide ((0 : Int) ≤ Go.IntKind.wrap Go.IntKind.i64 (Prod.fst (Prod.snd (Prod.snd y0)) + Prod.fst y1))) (.c (Decidable.decide (Go.IntKind.wrap Go.IntKind.i64 (Prod.fst (Prod.snd (Prod.snd y0)) + Prod.fst y1) ≤ (↑(List.length x1) : Int))) (.c (Decidable.decide ((0 : Int) ≤ Prod.fst (Prod.snd (Prod.snd y0)))) (.c (Decidable.decide (Prod.fst (Prod.snd (Prod.snd y0)) ≤ Go.IntKind.wrap Go.IntKind.i64 (Prod.fst (Prod.snd (Prod.snd y0)) + Prod.fst y1))) (opt (Go.Proofs.YthapkffhmekmcaaDoor.g_element_right (Prod.fst y0) (Prod.fst (Prod.snd y0)) (Prod.fst (Prod.snd (Prod.snd y0))) (Prod.fst (Prod.snd (Prod.snd (Prod.snd y0)))) (List.drop (Int.toNat (Prod.fst (Prod.snd (Prod.snd y0)))) (List.take (Int.toNat (Go.IntKind.wrap Go.IntKind.i64 (Prod.fst (Prod.snd (Prod.snd y0)) + Prod.fst y1))) x1))) fun (y2 : Int) => (.c (y2 != (0 : Int)) (.r (([], (0 : Int), y2))) (.c (Decidable.decide ((0 : Int) ≤ Go.IntKind.wrap Go.IntKind.i64 (Prod.fst (Prod.snd (Prod.snd y0)) + Prod.fst y1))) (.c (Decidable.decide (Go.IntKind.wrap Go.IntKind.i64 (Prod.fst (Prod.snd (Prod.snd y0)) + Prod.fst y1) ≤ (↑(List.length x1) : Int))) (.c (Decidable.decide ((0 : Int) ≤ Prod.fst (Prod.snd (Prod.snd y0)))) (.c (Decidable.decide (Prod.fst (Prod.snd (Prod.snd y0)) ≤ Go.IntKind.wrap Go.IntKind.i64 (Prod.fst (Prod.snd (Prod.snd y0)) + Prod.fst y1))) (.c (Decidable.decide (List.length (List.drop (Int.toNat (Prod.fst (Prod.snd (Prod.snd y0)))) (List.take (Int.toNat (Go.IntKind.wrap Go.IntKind.i64 (Prod.fst (Prod.snd (Prod.snd y0)) + Prod.fst y1))) x1)) * (2 : Nat) < (70368744177664 : Nat))) (.c (List.length (List.drop (Int.toNat (Prod.fst (Prod.snd (Prod.snd y0)))) (List.take (Int.toNat (Go.IntKind.wrap Go.IntKind.i64 (Prod.fst (Prod.snd (Prod.snd y0)) + Prod.fst y1))) x1)) == List.length (List.drop (Int.toNat (Prod.fst (Prod.snd (Prod.snd y0)))) (List.take (Int.toNat (Go.IntKind.wrap Go.IntKind.i64 (Prod.fst (Prod.snd (Prod.snd y0)) + Prod.fst y1))) x1))) (.r ((List.drop (Int.toNat (Prod.fst (Prod.snd (Prod.snd y0)))) (List.take (Int.toNat (Go.IntKind.wrap Go.IntKind.i64 (Prod.fst (Prod.snd (Prod.snd y0)) + Prod.fst y1))) x1), Go.IntKind.wrap Go.IntKind.i64 (Prod.fst (Prod.snd (Prod.snd y0)) + Prod.fst y1), (0 : Int)))) .bad) .bad) .bad) .bad) .bad) .bad))) .bad) .bad) .bad) .bad))))))
noncomputable def g_element_Read (x0 : Int) (x1 : List AV) : Option (List AV × Int × Int) := (T_element_Read x0 x1).val
set_option maxRecDepth 100000 in
theorem c_element_Read (ls : List AV) (Rv : List AV × Int × Int → Prop) : callA E_element_Read Tryd.f12 (instL ls P_element_Read 0) [] (outP O_element_Read fun ls => Rv (tup_element_Read ls)) = (T_element_Read (getI (ls.getD 0 .junk)) (getXs (ls.getD 1 .junk))).fold False Rv := by kernel_rfl
noncomputable def S_element_Read : Go.Cx.Spec := pureS (patF P_element_Read fun ls => opt (g_element_Read (getI (ls.getD 0 .junk)) (getXs (ls.getD 1 .junk))) fun x => .r (res_element_Read x))
set_option maxRecDepth 100000 in
theorem S_element_Read_ok : Sound Tryd.prog 12 S_element_Read :=
  pure_flat (E := E_element_Read) (TblOK.enK TYeG621t_ok _ _ _ _ _) mixed rfl Tryd.func12 (c := Tryd.f12.body.getD .skip) (by kernel_rfl) (by kernel_rfl) (pats := P_element_Read) (O := O_element_Read) (tup := tup_element_Read) (res := res_element_Read) (g := fun ls => g_element_Read (getI (ls.getD 0 .junk)) (getXs (ls.getD 1 .junk))) (T := fun ls => T_element_Read (getI (ls.getD 0 .junk)) (getXs (ls.getD 1 .junk))) (fun _ => rfl) (fun ls => by kernel_rfl) c_element_Read

noncomputable def TYeG622t : FuncId → Option Go.Cx.Spec := addT TYeG621t 12 S_element_Read
theorem TYeG622t_ok : TblOK Tryd.prog TYeG622t := TYeG621t_ok.add S_element_Read_ok

/- comptoir/element.Spare -/
noncomputable def E_element_Spare : En := enK Tryd.prog TYeG622t [] [] [] [] 0
def P_element_Spare : List Pat := [.leaf (.int .i64)]
def O_element_Spare : Pat := .leaf .bool
def tup_element_Spare : List AV → Bool := fun ls => getB (ls.getD 0 .junk)
def res_element_Spare : Bool → AV := fun x => .bool (x)
noncomputable def T_element_Spare (x0 : Int) : Tr (Bool) := (.c (x0 == (43 : Int)) (.c (x0 == (43 : Int)) (.r (Bool.true)) (.r (Bool.false))) (.c (x0 == (60 : Int)) (.c (x0 == (60 : Int)) (.r (Bool.true)) (.r (Bool.false))) (.c (x0 == (61 : Int)) (.c (x0 == (61 : Int)) (.r (Bool.true)) (.r (Bool.false))) (.c (x0 == (62 : Int)) (.c (x0 == (62 : Int)) (.r (Bool.true)) (.r (Bool.false))) (.c (x0 == (63 : Int)) (.c (x0 == (63 : Int)) (.r (Bool.true)) (.r (Bool.false))) (.c (x0 == (102 : Int)) (.c (x0 == (102 : Int)) (.r (Bool.true)) (.r (Bool.false))) (.c (x0 == (103 : Int)) (.c (x0 == (103 : Int)) (.r (Bool.true)) (.r (Bool.false))) (.c (x0 == (120 : Int)) (.r (Bool.true)) (.r (Bool.false))))))))))
noncomputable def g_element_Spare (x0 : Int) : Option (Bool) := (T_element_Spare x0).val
set_option maxRecDepth 100000 in
theorem c_element_Spare (ls : List AV) (Rv : Bool → Prop) : callA E_element_Spare Tryd.f16 (instL ls P_element_Spare 0) [] (outP O_element_Spare fun ls => Rv (tup_element_Spare ls)) = (T_element_Spare (getI (ls.getD 0 .junk))).fold False Rv := by kernel_rfl
noncomputable def S_element_Spare : Go.Cx.Spec := pureS (patF P_element_Spare fun ls => opt (g_element_Spare (getI (ls.getD 0 .junk))) fun x => .r (res_element_Spare x))
set_option maxRecDepth 100000 in
theorem S_element_Spare_ok : Sound Tryd.prog 16 S_element_Spare :=
  pure_flat (E := E_element_Spare) (TblOK.enK TYeG622t_ok _ _ _ _ _) mixed rfl Tryd.func16 (c := Tryd.f16.body.getD .skip) (by kernel_rfl) (by kernel_rfl) (pats := P_element_Spare) (O := O_element_Spare) (tup := tup_element_Spare) (res := res_element_Spare) (g := fun ls => g_element_Spare (getI (ls.getD 0 .junk))) (T := fun ls => T_element_Spare (getI (ls.getD 0 .junk))) (fun _ => rfl) (fun ls => by kernel_rfl) c_element_Spare

noncomputable def TYeG623t : FuncId → Option Go.Cx.Spec := addT TYeG622t 16 S_element_Spare
theorem TYeG623t_ok : TblOK Tryd.prog TYeG623t := TYeG622t_ok.add S_element_Spare_ok

/- comptoir/comptoirlaw16.awake -/
noncomputable def E_comptoirlaw16_awake : En := enK Tryd.prog TYeG623t [7, 14] [] [] [] 0
def P_comptoirlaw16_awake : List Pat := []
def O_comptoirlaw16_awake : Pat := .leaf .bool
def tup_comptoirlaw16_awake : List AV → Bool := fun ls => getB (ls.getD 0 .junk)
def res_comptoirlaw16_awake : Bool → AV := fun x => .bool (x)
noncomputable def T_comptoirlaw16_awake : Tr (Bool) := (opt (Go.Proofs.YthapkffhmekmcaaDoor.g_element_Write (2 : Int) [Go.Cx.AV.int Go.IntKind.u8 (49 : Int), Go.Cx.AV.int Go.IntKind.u8 (50 : Int)]) fun (y0 : List Go.Cx.AV × Int) => (opt (Go.Proofs.YthapkffhmekmcaaDoor.g_element_Read (2 : Int) [Go.Cx.AV.int Go.IntKind.u8 (48 : Int), Go.Cx.AV.int Go.IntKind.u8 (50 : Int), Go.Cx.AV.int Go.IntKind.u8 (49 : Int), Go.Cx.AV.int Go.IntKind.u8 (50 : Int), Go.Cx.AV.int Go.IntKind.u8 (122 : Int)]) fun (y1 : List Go.Cx.AV × Int × Int) => (.c (Prod.snd y0 == (0 : Int)) (.c (Go.Cx.bytesOf (Prod.fst y0) == [(48 : UInt8), (50 : UInt8), (49 : UInt8), (50 : UInt8)]) (.c (Prod.snd (Prod.snd y1) == (0 : Int)) (.c (Go.Cx.bytesOf (Prod.fst y1) == [(49 : UInt8), (50 : UInt8)]) (.c (Prod.fst (Prod.snd y1) == (4 : Int)) (.r (Bool.true)) (.r (Bool.false))) (.r (Bool.false))) (.r (Bool.false))) (.r (Bool.false))) (.r (Bool.false)))))
noncomputable def g_comptoirlaw16_awake : Option (Bool) := (T_comptoirlaw16_awake).val
set_option maxRecDepth 100000 in
theorem c_comptoirlaw16_awake (ls : List AV) (Rv : Bool → Prop) : callA E_comptoirlaw16_awake Tryd.f9 (instL ls P_comptoirlaw16_awake 0) [] (outP O_comptoirlaw16_awake fun ls => Rv (tup_comptoirlaw16_awake ls)) = (T_comptoirlaw16_awake).fold False Rv := by kernel_rfl
noncomputable def S_comptoirlaw16_awake : Go.Cx.Spec := pureS (patF P_comptoirlaw16_awake fun ls => opt (g_comptoirlaw16_awake) fun x => .r (res_comptoirlaw16_awake x))
set_option maxRecDepth 100000 in
theorem S_comptoirlaw16_awake_ok : Sound Tryd.prog 9 S_comptoirlaw16_awake :=
  pure_flat (E := E_comptoirlaw16_awake) (TblOK.enK TYeG623t_ok _ _ _ _ _) mixed rfl Tryd.func9 (c := Tryd.f9.body.getD .skip) (by kernel_rfl) (by kernel_rfl) (pats := P_comptoirlaw16_awake) (O := O_comptoirlaw16_awake) (tup := tup_comptoirlaw16_awake) (res := res_comptoirlaw16_awake) (g := fun ls => g_comptoirlaw16_awake) (T := fun ls => T_comptoirlaw16_awake) (fun _ => rfl) (fun ls => by kernel_rfl) c_comptoirlaw16_awake

noncomputable def TYeG624t : FuncId → Option Go.Cx.Spec := addT TYeG623t 9 S_comptoirlaw16_awake
theorem TYeG624t_ok : TblOK Tryd.prog TYeG624t := TYeG623t_ok.add S_comptoirlaw16_awake_ok

/- comptoir/comptoirlaw16.ElementKinds$1 -/
noncomputable def E_comptoirlaw16_ElementKinds_1_00p : En := enK Tryd.prog TYeG624t [] [(3, ⟨[1, 3, 4, 5, 7, 8, 9, 10, 11, 14, 15, 16, 17, 18, 19, 20, 21, 22, 23, 24, 25, 26], [], [], none, [6], [], [], [], false⟩)] [] [] 0
def P_comptoirlaw16_ElementKinds_1_00p : List Pat := [.leaf (.int .i64), .leaf (.int .i64), .rptr [.leaf (.int .u8)]]
def O_comptoirlaw16_ElementKinds_1_00p : Pat := .leaf .bool
def tup_comptoirlaw16_ElementKinds_1_00p : List AV → Bool := fun ls => getB (ls.getD 0 .junk)
def res_comptoirlaw16_ElementKinds_1_00p : Bool → AV := fun x => .bool (x)
noncomputable def T_comptoirlaw16_ElementKinds_1_00p (x0 : Int) (x1 : Int) (x2 : Int) : Tr ((Int × Int × List AV) ⊕ (Bool)) := (.c (Decidable.decide ((0 : Int) ≤ x1)) (.c (x1 == x1) (.c (Decidable.decide (List.length (List.replicate (Int.toNat x1) (Go.Cx.AV.int Go.IntKind.u8 (0 : Int))) * (2 : Nat) < (70368744177664 : Nat))) (.c (List.length (List.replicate (Int.toNat x1) (Go.Cx.AV.int Go.IntKind.u8 (0 : Int))) == List.length (List.replicate (Int.toNat x1) (Go.Cx.AV.int Go.IntKind.u8 (0 : Int)))) (.r (.inl (((↑(List.length (List.replicate (Int.toNat x1) (Go.Cx.AV.int Go.IntKind.u8 (0 : Int)))) : Int), (0 : Int), List.replicate (Int.toNat x1) (Go.Cx.AV.int Go.IntKind.u8 (0 : Int)))))) .bad) .bad) .bad) .bad)
noncomputable def M_comptoirlaw16_ElementKinds_1_00p (x0 : Int) (x1 : Int) (x2 : Int) : Int × Int × List AV → Tr ((Int × Int × List AV) ⊕ (Bool))
  | (i0, i1, l0) => (.c (Decidable.decide (i1 < i0)) (.c (Decidable.decide ((0 : Int) ≤ i1)) (.c (Decidable.decide (i1 < (↑(List.length l0) : Int))) (.c (List.length l0 == List.length l0) (.c (Decidable.decide (Int.toNat i1 < List.length l0)) (.c (List.length l0 == List.length (List.set l0 (Int.toNat i1) (Go.Cx.AV.int Go.IntKind.u8 x2))) (.r (.inl ((i0, Go.IntKind.wrap Go.IntKind.i64 (i1 + (1 : Int)), List.set l0 (Int.toNat i1) (Go.Cx.AV.int Go.IntKind.u8 x2))))) .bad) .bad) .bad) .bad) .bad) (.c (bif bif List.length l0 == List.length l0 then Bool.true else Bool.false then Bool.true else Bool.false) (opt (Go.Proofs.YthapkffhmekmcaaDoor.g_element_Check x0 l0) fun (y0 : Int) => (.r (.inr (y0 == (0 : Int))))) .bad))
noncomputable def g_comptoirlaw16_ElementKinds_1_00p (x0 : Int) (x1 : Int) (x2 : Int) : Option (Bool) := run (M_comptoirlaw16_ElementKinds_1_00p x0 x1 x2) (T_comptoirlaw16_ElementKinds_1_00p x0 x1 x2)
noncomputable def b_comptoirlaw16_ElementKinds_1_00p := Tryd.f21.body.getD .skip
noncomputable def st_comptoirlaw16_ElementKinds_1_00p_0 (x0 : Int) (x1 : Int) (x2 : Int) (i0 : Int) (i1 : Int) (l0 : List AV) : St := ⟨[Go.Cx.AV.int Go.IntKind.i64 x0, Go.Cx.AV.junk, Go.Cx.AV.rptr [Go.Cx.AV.int Go.IntKind.u8 x2], Go.Cx.AV.junk, Go.Cx.AV.junk, Go.Cx.AV.junk, Go.Cx.AV.oslice (0 : Nat) (0 : Nat) (List.length l0), Go.Cx.AV.junk, Go.Cx.AV.junk, Go.Cx.AV.junk, Go.Cx.AV.junk, Go.Cx.AV.junk, Go.Cx.AV.int Go.IntKind.i64 i0, Go.Cx.AV.int Go.IntKind.i64 i1, Go.Cx.AV.junk, Go.Cx.AV.junk, Go.Cx.AV.junk, Go.Cx.AV.junk, Go.Cx.AV.junk, Go.Cx.AV.junk, Go.Cx.AV.junk, Go.Cx.AV.junk, Go.Cx.AV.junk, Go.Cx.AV.junk, Go.Cx.AV.junk, Go.Cx.AV.junk, Go.Cx.AV.junk], [Go.Cx.Ob.grow (5 : Nat) (0 : Nat) (1 : Nat) (Go.Cx.Sh.int Go.IntKind.u8) l0]⟩
noncomputable def L_comptoirlaw16_ElementKinds_1_00p (x0 : Int) (x1 : Int) (x2 : Int) (Rv : Bool → Prop) : Int × Int × List AV → Prop
  | (i0, i1, l0) => headL E_comptoirlaw16_ElementKinds_1_00p [.r, .r, .l, .r, .d] b_comptoirlaw16_ElementKinds_1_00p 1 (bodyK E_comptoirlaw16_ElementKinds_1_00p Tryd.f21 (outP O_comptoirlaw16_ElementKinds_1_00p fun ls => Rv (tup_comptoirlaw16_ElementKinds_1_00p ls))) (st_comptoirlaw16_ElementKinds_1_00p_0 x0 x1 x2 i0 i1 l0)
set_option maxRecDepth 100000 in
theorem l_comptoirlaw16_ElementKinds_1_00p_0 (x0 : Int) (x1 : Int) (x2 : Int) (Rv : Bool → Prop) (i0 : Int) (i1 : Int) (l0 : List AV) : stepL E_comptoirlaw16_ElementKinds_1_00p [.r, .r, .l, .r, .d] b_comptoirlaw16_ElementKinds_1_00p 1 (bodyK E_comptoirlaw16_ElementKinds_1_00p Tryd.f21 (outP O_comptoirlaw16_ElementKinds_1_00p fun ls => Rv (tup_comptoirlaw16_ElementKinds_1_00p ls))) (st_comptoirlaw16_ElementKinds_1_00p_0 x0 x1 x2 i0 i1 l0) =
  (M_comptoirlaw16_ElementKinds_1_00p x0 x1 x2 ((i0, i1, l0))).fold False (Sum.elim (L_comptoirlaw16_ElementKinds_1_00p x0 x1 x2 Rv) Rv) := by kernel_rfl
set_option maxRecDepth 100000 in
theorem e_comptoirlaw16_ElementKinds_1_00p_0 (x0 : Int) (x1 : Int) (x2 : Int) (Rv : Bool → Prop) (i0 : Int) (i1 : Int) (l0 : List AV) : L_comptoirlaw16_ElementKinds_1_00p x0 x1 x2 Rv ((i0, i1, l0)) = headL E_comptoirlaw16_ElementKinds_1_00p [.r, .r, .l, .r, .d] b_comptoirlaw16_ElementKinds_1_00p 1 (bodyK E_comptoirlaw16_ElementKinds_1_00p Tryd.f21 (outP O_comptoirlaw16_ElementKinds_1_00p fun ls => Rv (tup_comptoirlaw16_ElementKinds_1_00p ls))) (st_comptoirlaw16_ElementKinds_1_00p_0 x0 x1 x2 i0 i1 l0) := by kernel_rfl
section
attribute [local irreducible] Tr.fold M_comptoirlaw16_ElementKinds_1_00p L_comptoirlaw16_ElementKinds_1_00p T_comptoirlaw16_ElementKinds_1_00p E_comptoirlaw16_ElementKinds_1_00p b_comptoirlaw16_ElementKinds_1_00p bodyK headC headL stepC stepL wpX callA
set_option maxRecDepth 100000 in
theorem h_comptoirlaw16_ElementKinds_1_00p (x0 : Int) (x1 : Int) (x2 : Int) (Rv : Bool → Prop) : ∀ s, (M_comptoirlaw16_ElementKinds_1_00p x0 x1 x2 s).fold False (Sum.elim (L_comptoirlaw16_ElementKinds_1_00p x0 x1 x2 Rv) Rv) → L_comptoirlaw16_ElementKinds_1_00p x0 x1 x2 Rv s := by
  rintro (⟨v0, v1, v2⟩)
  · exact fun h => Eq.mpr (e_comptoirlaw16_ElementKinds_1_00p_0 x0 x1 x2 Rv v0 v1 v2) (headL_of (Eq.mpr (l_comptoirlaw16_ElementKinds_1_00p_0 x0 x1 x2 Rv v0 v1 v2) h))
set_option maxRecDepth 100000 in
theorem c_comptoirlaw16_ElementKinds_1_00p (ls : List AV) (Rv : Bool → Prop) : callA E_comptoirlaw16_ElementKinds_1_00p Tryd.f21 (instL ls P_comptoirlaw16_ElementKinds_1_00p 0) [] (outP O_comptoirlaw16_ElementKinds_1_00p fun ls => Rv (tup_comptoirlaw16_ElementKinds_1_00p ls)) = (T_comptoirlaw16_ElementKinds_1_00p (getI (ls.getD 0 .junk)) (getI (ls.getD 1 .junk)) (getI (ls.getD 2 .junk))).fold False (Sum.elim (L_comptoirlaw16_ElementKinds_1_00p (getI (ls.getD 0 .junk)) (getI (ls.getD 1 .junk)) (getI (ls.getD 2 .junk)) Rv) Rv) := by kernel_rfl
end
noncomputable def S_comptoirlaw16_ElementKinds_1_00p : Go.Cx.Spec := pureS (patF P_comptoirlaw16_ElementKinds_1_00p fun ls => opt (g_comptoirlaw16_ElementKinds_1_00p (getI (ls.getD 0 .junk)) (getI (ls.getD 1 .junk)) (getI (ls.getD 2 .junk))) fun x => .r (res_comptoirlaw16_ElementKinds_1_00p x))
set_option maxRecDepth 100000 in
theorem S_comptoirlaw16_ElementKinds_1_00p_ok : Sound Tryd.prog 21 S_comptoirlaw16_ElementKinds_1_00p :=
  pure_mach (E := E_comptoirlaw16_ElementKinds_1_00p) (TblOK.enK TYeG624t_ok _ _ _ _ _) mixed rfl Tryd.func21 (c := Tryd.f21.body.getD .skip) (by kernel_rfl) (by kernel_rfl) (pats := P_comptoirlaw16_ElementKinds_1_00p) (O := O_comptoirlaw16_ElementKinds_1_00p) (tup := tup_comptoirlaw16_ElementKinds_1_00p) (res := res_comptoirlaw16_ElementKinds_1_00p) (g := fun ls => g_comptoirlaw16_ElementKinds_1_00p (getI (ls.getD 0 .junk)) (getI (ls.getD 1 .junk)) (getI (ls.getD 2 .junk))) (T := fun ls => T_comptoirlaw16_ElementKinds_1_00p (getI (ls.getD 0 .junk)) (getI (ls.getD 1 .junk)) (getI (ls.getD 2 .junk))) (step := fun ls => M_comptoirlaw16_ElementKinds_1_00p (getI (ls.getD 0 .junk)) (getI (ls.getD 1 .junk)) (getI (ls.getD 2 .junk))) (L := fun ls => L_comptoirlaw16_ElementKinds_1_00p (getI (ls.getD 0 .junk)) (getI (ls.getD 1 .junk)) (getI (ls.getD 2 .junk))) (fun _ => rfl) (fun ls => by kernel_rfl) c_comptoirlaw16_ElementKinds_1_00p (fun ls Rv => h_comptoirlaw16_ElementKinds_1_00p (getI (ls.getD 0 .junk)) (getI (ls.getD 1 .junk)) (getI (ls.getD 2 .junk)) Rv)

noncomputable def TYeG625t : FuncId → Option Go.Cx.Spec := addT TYeG624t 21 S_comptoirlaw16_ElementKinds_1_00p
theorem TYeG625t_ok : TblOK Tryd.prog TYeG625t := TYeG624t_ok.add S_comptoirlaw16_ElementKinds_1_00p_ok

/- comptoir/comptoirlaw16.ElementKinds -/
noncomputable def E_comptoirlaw16_ElementKinds : En := enK Tryd.prog TYeG625t [] [(3, ⟨[0, 2, 5, 6, 7, 8, 9, 10, 11, 12, 13, 14, 15, 16, 17, 18, 19, 20, 21, 22, 23, 24, 25, 26, 27, 28, 29, 30, 31, 32, 33, 34, 35, 36, 37, 38, 39, 40, 41, 42, 43, 44, 45, 46, 47, 48, 49, 50, 51, 52, 53, 54, 55, 56, 57, 58, 59, 60, 61], [], [], some 1000, [], [], [], [], false⟩), (4, ⟨[0, 2, 6, 7, 8, 9, 10, 11, 12, 13, 14, 15, 16, 17, 18, 19, 20, 21, 22, 23, 24, 25, 26, 27, 28, 29, 30, 31, 32, 33, 34, 35, 36, 37, 38, 39, 40, 41, 42, 43, 44, 45, 46, 47, 48, 49, 50, 51, 52, 53, 54, 55, 56, 57, 58, 59, 60, 61], [], [], some 1000, [], [], [], [], false⟩)] [] [] 0
def P_comptoirlaw16_ElementKinds : List Pat := [.leaf (.int .u8)]
def O_comptoirlaw16_ElementKinds : Pat := .leaf .bool
def tup_comptoirlaw16_ElementKinds : List AV → Bool := fun ls => getB (ls.getD 0 .junk)
def res_comptoirlaw16_ElementKinds : Bool → AV := fun x => .bool (x)
noncomputable def T_comptoirlaw16_ElementKinds (x0 : Int) : Tr (((Bool) ⊕ (Bool × Bool)) ⊕ (Bool)) := (.c (Decidable.decide (x0 ≥ (48 : Int))) (.r (.inl (.inl (Decidable.decide (x0 ≤ (57 : Int)))))) (.r (.inl (.inl (Bool.false)))))
noncomputable def M_comptoirlaw16_ElementKinds (x0 : Int) : (Bool) ⊕ (Bool × Bool) → Tr (((Bool) ⊕ (Bool × Bool)) ⊕ (Bool))
  | .inl (b0) => (.c (Decidable.decide (x0 ≥ (65 : Int))) (.c (Decidable.decide (x0 ≤ (90 : Int))) (.r (.inl (.inr ((b0, Bool.true))))) (.c (Decidable.decide (x0 ≥ (97 : Int))) (.r (.inl (.inr ((b0, Decidable.decide (x0 ≤ (122 : Int))))))) (.r (.inl (.inr ((b0, Bool.false))))))) (.c (Decidable.decide (x0 ≥ (97 : Int))) (.r (.inl (.inr ((b0, Decidable.decide (x0 ≤ (122 : Int))))))) (.r (.inl (.inr ((b0, Bool.false)))))))
  | .inr ((b1, b2)) => (opt (Go.Proofs.YthapkffhmekmcaaDoor.g_comptoirlaw16_awake) fun (y0 : Bool) => (.c (y0) (opt (Go.Proofs.YthapkffhmekmcaaDoor.g_comptoirlaw16_ElementKinds_1_00p (2 : Int) (12 : Int) x0) fun (y1 : Bool) => (.c (y1 == b1) (opt (Go.Proofs.YthapkffhmekmcaaDoor.g_comptoirlaw16_ElementKinds_1_00p (37 : Int) (12 : Int) x0) fun (y2 : Bool) => (.c (b1) (.c (y2 == Bool.true) (opt (Go.Proofs.YthapkffhmekmcaaDoor.g_comptoirlaw16_ElementKinds_1_00p (43 : Int) (3 : Int) x0) fun (y3 : Bool) => (.c (Decidable.decide (x0 ≥ (32 : Int))) (.c (y3 == Decidable.decide (x0 ≤ (126 : Int))) (opt (Go.Proofs.YthapkffhmekmcaaDoor.g_comptoirlaw16_ElementKinds_1_00p (120 : Int) (5 : Int) x0) fun (y4 : Bool) => (.c (y4) (opt (Go.Proofs.YthapkffhmekmcaaDoor.g_comptoirlaw16_ElementKinds_1_00p (55 : Int) (1 : Int) x0) fun (y5 : Bool) => (.r (.inr (y5)))) (.r (.inr (Bool.false))))) (.r (.inr (Bool.false)))) (.c (y3 == Bool.false) (opt (Go.Proofs.YthapkffhmekmcaaDoor.g_comptoirlaw16_ElementKinds_1_00p (120 : Int) (5 : Int) x0) fun (y4 : Bool) => (.c (y4) (opt (Go.Proofs.YthapkffhmekmcaaDoor.g_comptoirlaw16_ElementKinds_1_00p (55 : Int) (1 : Int) x0) fun (y5 : Bool) => (.r (.inr (y5)))) (.r (.inr (Bool.false))))) (.r (.inr (Bool.false)))))) (.r (.inr (Bool.false)))) (.c (y2 == b2) (opt (Go.Proofs.YthapkffhmekmcaaDoor.g_comptoirlaw16_ElementKinds_1_00p (43 : Int) (3 : Int) x0) fun (y3 : Bool) => (.c (Decidable.decide (x0 ≥ (32 : Int))) (.c (y3 == Decidable.decide (x0 ≤ (126 : Int))) (opt (Go.Proofs.YthapkffhmekmcaaDoor.g_comptoirlaw16_ElementKinds_1_00p (120 : Int) (5 : Int) x0) fun (y4 : Bool) => (.c (y4) (opt (Go.Proofs.YthapkffhmekmcaaDoor.g_comptoirlaw16_ElementKinds_1_00p (55 : Int) (1 : Int) x0) fun (y5 : Bool) => (.r (.inr (y5)))) (.r (.inr (Bool.false))))) (.r (.inr (Bool.false)))) (.c (y3 == Bool.false) (opt (Go.Proofs.YthapkffhmekmcaaDoor.g_comptoirlaw16_ElementKinds_1_00p (120 : Int) (5 : Int) x0) fun (y4 : Bool) => (.c (y4) (opt (Go.Proofs.YthapkffhmekmcaaDoor.g_comptoirlaw16_ElementKinds_1_00p (55 : Int) (1 : Int) x0) fun (y5 : Bool) => (.r (.inr (y5)))) (.r (.inr (Bool.false))))) (.r (.inr (Bool.false)))))) (.r (.inr (Bool.false)))))) (.r (.inr (Bool.false))))) (.r (.inr (Bool.false)))))
noncomputable def g_comptoirlaw16_ElementKinds (x0 : Int) : Option (Bool) := run (M_comptoirlaw16_ElementKinds x0) (T_comptoirlaw16_ElementKinds x0)
noncomputable def b_comptoirlaw16_ElementKinds := Tryd.f6.body.getD .skip
noncomputable def st_comptoirlaw16_ElementKinds_0 (x0 : Int) (b0 : Bool) : St := ⟨frOf 0 62 [(1, Go.Cx.AV.ptr (0 : Nat) (0 : Nat)), (3, Go.Cx.AV.func (21 : Nat) [] [Go.Cx.AV.ptr (0 : Nat) (0 : Nat)]), (4, Go.Cx.AV.bool b0)], [Go.Cx.Ob.fix (5 : Nat) [Go.Cx.AV.int Go.IntKind.u8 x0]]⟩
noncomputable def st_comptoirlaw16_ElementKinds_1 (x0 : Int) (b1 : Bool) (b2 : Bool) : St := ⟨frOf 0 62 [(1, Go.Cx.AV.ptr (0 : Nat) (0 : Nat)), (3, Go.Cx.AV.func (21 : Nat) [] [Go.Cx.AV.ptr (0 : Nat) (0 : Nat)]), (4, Go.Cx.AV.bool b1), (5, Go.Cx.AV.bool b2)], [Go.Cx.Ob.fix (5 : Nat) [Go.Cx.AV.int Go.IntKind.u8 x0]]⟩
noncomputable def L_comptoirlaw16_ElementKinds (x0 : Int) (Rv : Bool → Prop) : (Bool) ⊕ (Bool × Bool) → Prop
  | .inl (b0) => headC E_comptoirlaw16_ElementKinds [.r, .r, .r] b_comptoirlaw16_ElementKinds (bodyK E_comptoirlaw16_ElementKinds Tryd.f6 (outP O_comptoirlaw16_ElementKinds fun ls => Rv (tup_comptoirlaw16_ElementKinds ls))) (st_comptoirlaw16_ElementKinds_0 x0 b0)
  | .inr ((b1, b2)) => headC E_comptoirlaw16_ElementKinds [.r, .r, .r, .r] b_comptoirlaw16_ElementKinds (bodyK E_comptoirlaw16_ElementKinds Tryd.f6 (outP O_comptoirlaw16_ElementKinds fun ls => Rv (tup_comptoirlaw16_ElementKinds ls))) (st_comptoirlaw16_ElementKinds_1 x0 b1 b2)
set_option maxRecDepth 100000 in
theorem l_comptoirlaw16_ElementKinds_0 (x0 : Int) (Rv : Bool → Prop) (b0 : Bool) : stepC E_comptoirlaw16_ElementKinds [.r, .r, .r] b_comptoirlaw16_ElementKinds (bodyK E_comptoirlaw16_ElementKinds Tryd.f6 (outP O_comptoirlaw16_ElementKinds fun ls => Rv (tup_comptoirlaw16_ElementKinds ls))) (st_comptoirlaw16_ElementKinds_0 x0 b0) =
  (M_comptoirlaw16_ElementKinds x0 (.inl (b0))).fold False (Sum.elim (L_comptoirlaw16_ElementKinds x0 Rv) Rv) := by kernel_rfl
set_option maxRecDepth 100000 in
theorem l_comptoirlaw16_ElementKinds_1 (x0 : Int) (Rv : Bool → Prop) (b1 : Bool) (b2 : Bool) : stepC E_comptoirlaw16_ElementKinds [.r, .r, .r, .r] b_comptoirlaw16_ElementKinds (bodyK E_comptoirlaw16_ElementKinds Tryd.f6 (outP O_comptoirlaw16_ElementKinds fun ls => Rv (tup_comptoirlaw16_ElementKinds ls))) (st_comptoirlaw16_ElementKinds_1 x0 b1 b2) =
  (M_comptoirlaw16_ElementKinds x0 (.inr ((b1, b2)))).fold False (Sum.elim (L_comptoirlaw16_ElementKinds x0 Rv) Rv) := by kernel_rfl
set_option maxRecDepth 100000 in
theorem e_comptoirlaw16_ElementKinds_0 (x0 : Int) (Rv : Bool → Prop) (b0 : Bool) : L_comptoirlaw16_ElementKinds x0 Rv (.inl (b0)) = headC E_comptoirlaw16_ElementKinds [.r, .r, .r] b_comptoirlaw16_ElementKinds (bodyK E_comptoirlaw16_ElementKinds Tryd.f6 (outP O_comptoirlaw16_ElementKinds fun ls => Rv (tup_comptoirlaw16_ElementKinds ls))) (st_comptoirlaw16_ElementKinds_0 x0 b0) := by kernel_rfl
set_option maxRecDepth 100000 in
theorem e_comptoirlaw16_ElementKinds_1 (x0 : Int) (Rv : Bool → Prop) (b1 : Bool) (b2 : Bool) : L_comptoirlaw16_ElementKinds x0 Rv (.inr ((b1, b2))) = headC E_comptoirlaw16_ElementKinds [.r, .r, .r, .r] b_comptoirlaw16_ElementKinds (bodyK E_comptoirlaw16_ElementKinds Tryd.f6 (outP O_comptoirlaw16_ElementKinds fun ls => Rv (tup_comptoirlaw16_ElementKinds ls))) (st_comptoirlaw16_ElementKinds_1 x0 b1 b2) := by kernel_rfl
section
attribute [local irreducible] Tr.fold M_comptoirlaw16_ElementKinds L_comptoirlaw16_ElementKinds T_comptoirlaw16_ElementKinds E_comptoirlaw16_ElementKinds b_comptoirlaw16_ElementKinds bodyK headC headL stepC stepL wpX callA
set_option maxRecDepth 100000 in
theorem h_comptoirlaw16_ElementKinds (x0 : Int) (Rv : Bool → Prop) : ∀ s, (M_comptoirlaw16_ElementKinds x0 s).fold False (Sum.elim (L_comptoirlaw16_ElementKinds x0 Rv) Rv) → L_comptoirlaw16_ElementKinds x0 Rv s := by
  rintro (v0 | ⟨v0, v1⟩)
  · exact fun h => Eq.mpr (e_comptoirlaw16_ElementKinds_0 x0 Rv v0) (headC_of (Eq.mpr (l_comptoirlaw16_ElementKinds_0 x0 Rv v0) h))
  · exact fun h => Eq.mpr (e_comptoirlaw16_ElementKinds_1 x0 Rv v0 v1) (headC_of (Eq.mpr (l_comptoirlaw16_ElementKinds_1 x0 Rv v0 v1) h))
set_option maxRecDepth 100000 in
theorem c_comptoirlaw16_ElementKinds (ls : List AV) (Rv : Bool → Prop) : callA E_comptoirlaw16_ElementKinds Tryd.f6 (instL ls P_comptoirlaw16_ElementKinds 0) [] (outP O_comptoirlaw16_ElementKinds fun ls => Rv (tup_comptoirlaw16_ElementKinds ls)) = (T_comptoirlaw16_ElementKinds (getI (ls.getD 0 .junk))).fold False (Sum.elim (L_comptoirlaw16_ElementKinds (getI (ls.getD 0 .junk)) Rv) Rv) := by kernel_rfl
end
theorem eok_comptoirlaw16_ElementKinds : EnOK E_comptoirlaw16_ElementKinds := TblOK.enK TYeG625t_ok _ _ _ _ _


end Go.Proofs.YthapkffhmekmcaaDoor
