/- Printed: what the functions that a statement reaches come to. -/
import Derived.Test.YtcnalhganahiiaaGreatDoorYsBC
namespace Go.Proofs.YtcnalhganahiiaaGreatDoor
open Go.Cx Go.Cx.AV
set_option linter.unusedVariables false
noncomputable def E_digits_Text : En := enK Tryz.prog T0t [] [] [] [] 0
def P_digits_Text : List Pat := [.leaf (.int .u64), .leaf (.int .i64)]
def O_digits_Text : Pat := .tuple [.leaf .str, .leaf (.int .i64)]
def tup_digits_Text : List AV → List UInt8 × Int := fun ls => (getS (ls.getD 0 .junk), getI (ls.getD 1 .junk))
def res_digits_Text : List UInt8 × Int → AV := fun x => .tuple [.str (x.1), .int .i64 (x.2)]
noncomputable def T_digits_Text (x0 : Int) (x1 : Int) : Tr (List UInt8 × Int) := (.c (Decidable.decide (x1 < (1 : Int))) (.r (([], (1 : Int)))) (.c (Decidable.decide (x1 > (20 : Int))) (.r (([], (1 : Int)))) (.c (Decidable.decide ((0 : Int) ≤ x0)) (.c (Decidable.decide (x0 < (18446744073709551616 : Int))) (.c (Decidable.decide ((↑(List.length (Go.Lib.decDigits (Int.toNat x0))) : Int) > x1)) (.r (([], (4 : Int)))) (.c (Decidable.decide ((0 : Int) ≤ Go.IntKind.wrap Go.IntKind.i64 (x1 - (↑(List.length (Go.Lib.decDigits (Int.toNat x0))) : Int)))) (.c (Decidable.decide (Go.IntKind.wrap Go.IntKind.i64 (x1 - (↑(List.length (Go.Lib.decDigits (Int.toNat x0))) : Int)) ≤ (1000000000 : Int))) (.c (Decidable.decide (List.length (Go.Lib.repeatL [(48 : UInt8)] (Int.toNat (Go.IntKind.wrap Go.IntKind.i64 (x1 - (↑(List.length (Go.Lib.decDigits (Int.toNat x0))) : Int))))) + List.length (Go.Lib.decDigits (Int.toNat x0)) < (70368744177664 : Nat))) (.r ((Go.Lib.repeatL [(48 : UInt8)] (Int.toNat (Go.IntKind.wrap Go.IntKind.i64 (x1 - (↑(List.length (Go.Lib.decDigits (Int.toNat x0))) : Int)))) ++ Go.Lib.decDigits (Int.toNat x0), (0 : Int)))) .bad) .bad) .bad)) .bad) .bad)))
noncomputable def g_digits_Text (x0 : Int) (x1 : Int) : Option (List UInt8 × Int) := (T_digits_Text x0 x1).val
set_option maxRecDepth 100000 in
theorem c_digits_Text (ls : List AV) (Rv : List UInt8 × Int → Prop) : callA E_digits_Text Tryz.f33 (instL ls P_digits_Text 0) [] (outP O_digits_Text fun ls => Rv (tup_digits_Text ls)) = (T_digits_Text (getI (ls.getD 0 .junk)) (getI (ls.getD 1 .junk))).fold False Rv := by kernel_rfl
noncomputable def S_digits_Text : Go.Cx.Spec := pureS (patF P_digits_Text fun ls => opt (g_digits_Text (getI (ls.getD 0 .junk)) (getI (ls.getD 1 .junk))) fun x => .r (res_digits_Text x))
set_option maxRecDepth 100000 in
theorem S_digits_Text_ok : Sound Tryz.prog 33 S_digits_Text :=
  pure_flat (E := E_digits_Text) (TblOK.enK T0t_ok _ _ _ _ _) mixed rfl Tryz.func33 (c := Tryz.f33.body.getD .skip) (by kernel_rfl) (by kernel_rfl) (pats := P_digits_Text) (O := O_digits_Text) (tup := tup_digits_Text) (res := res_digits_Text) (g := fun ls => g_digits_Text (getI (ls.getD 0 .junk)) (getI (ls.getD 1 .junk))) (T := fun ls => T_digits_Text (getI (ls.getD 0 .junk)) (getI (ls.getD 1 .junk))) (fun _ => rfl) (fun ls => by kernel_rfl) c_digits_Text
noncomputable def TYsG61t : FuncId → Option Go.Cx.Spec := addT T0t 33 S_digits_Text
theorem TYsG61t_ok : TblOK Tryz.prog TYsG61t := T0t_ok.add S_digits_Text_ok
noncomputable def E_simple_AmountText : En := enK Tryz.prog TYsG61t [] [] [] [] 0
def P_simple_AmountText : List Pat := [.leaf (.int .u64)]
def O_simple_AmountText : Pat := .tuple [.leaf .str, .leaf (.int .i64)]
def tup_simple_AmountText : List AV → List UInt8 × Int := fun ls => (getS (ls.getD 0 .junk), getI (ls.getD 1 .junk))
def res_simple_AmountText : List UInt8 × Int → AV := fun x => .tuple [.str (x.1), .int .i64 (x.2)]
noncomputable def T_simple_AmountText (x0 : Int) : Tr (List UInt8 × Int) := (.c (Decidable.decide (x0 > (999999999999 : Int))) (.r (([], (4 : Int)))) (opt (Go.Proofs.YtcnalhganahiiaaGreatDoor.g_digits_Text x0 (18 : Int)) fun (y0 : List UInt8 × Int) => (.c (Decidable.decide ((16 : Int) ≤ (↑(List.length (Prod.fst y0)) : Int))) (.c (Decidable.decide (List.length (Go.Lib.trimLeftS (List.drop (0 : Nat) (List.take (Int.toNat (16 : Int)) (Prod.fst y0))) [(48 : UInt8)]) + (1 : Nat) < (70368744177664 : Nat))) (.c (Decidable.decide ((↑(List.length (Prod.fst y0)) : Int) ≤ (↑(List.length (Prod.fst y0)) : Int))) (.c (Decidable.decide ((16 : Int) ≤ (↑(List.length (Prod.fst y0)) : Int))) (.c (Decidable.decide (List.length (Go.Lib.trimLeftS (List.drop (0 : Nat) (List.take (Int.toNat (16 : Int)) (Prod.fst y0))) [(48 : UInt8)] ++ [(46 : UInt8)]) + List.length (List.drop (16 : Nat) (List.take (List.length (Prod.fst y0)) (Prod.fst y0))) < (70368744177664 : Nat))) (.c (Decidable.decide ((0 : Int) < (↑(List.length (Go.Lib.trimLeftS (List.drop (0 : Nat) (List.take (Int.toNat (16 : Int)) (Prod.fst y0))) [(48 : UInt8)] ++ [(46 : UInt8)] ++ List.drop (16 : Nat) (List.take (List.length (Prod.fst y0)) (Prod.fst y0)))) : Int))) (.c ((↑(UInt8.toNat (List.getD (Go.Lib.trimLeftS (List.drop (0 : Nat) (List.take (Int.toNat (16 : Int)) (Prod.fst y0))) [(48 : UInt8)] ++ [(46 : UInt8)] ++ List.drop (16 : Nat) (List.take (List.length (Prod.fst y0)) (Prod.fst y0))) (0 : Nat) (0 : UInt8))) : Int) == (46 : Int)) (.c (Decidable.decide ((1 : Nat) + List.length (Go.Lib.trimLeftS (List.drop (0 : Nat) (List.take (Int.toNat (16 : Int)) (Prod.fst y0))) [(48 : UInt8)] ++ [(46 : UInt8)] ++ List.drop (16 : Nat) (List.take (List.length (Prod.fst y0)) (Prod.fst y0))) < (70368744177664 : Nat))) (.r (([(48 : UInt8)] ++ (Go.Lib.trimLeftS (List.drop (0 : Nat) (List.take (Int.toNat (16 : Int)) (Prod.fst y0))) [(48 : UInt8)] ++ [(46 : UInt8)] ++ List.drop (16 : Nat) (List.take (List.length (Prod.fst y0)) (Prod.fst y0))), (0 : Int)))) .bad) (.r ((Go.Lib.trimLeftS (List.drop (0 : Nat) (List.take (Int.toNat (16 : Int)) (Prod.fst y0))) [(48 : UInt8)] ++ [(46 : UInt8)] ++ List.drop (16 : Nat) (List.take (List.length (Prod.fst y0)) (Prod.fst y0)), (0 : Int))))) .bad) .bad) .bad) .bad) .bad) .bad)))
noncomputable def g_simple_AmountText (x0 : Int) : Option (List UInt8 × Int) := (T_simple_AmountText x0).val
set_option maxRecDepth 100000 in
theorem c_simple_AmountText (ls : List AV) (Rv : List UInt8 × Int → Prop) : callA E_simple_AmountText Tryz.f15 (instL ls P_simple_AmountText 0) [] (outP O_simple_AmountText fun ls => Rv (tup_simple_AmountText ls)) = (T_simple_AmountText (getI (ls.getD 0 .junk))).fold False Rv := by kernel_rfl
noncomputable def S_simple_AmountText : Go.Cx.Spec := pureS (patF P_simple_AmountText fun ls => opt (g_simple_AmountText (getI (ls.getD 0 .junk))) fun x => .r (res_simple_AmountText x))
set_option maxRecDepth 100000 in
theorem S_simple_AmountText_ok : Sound Tryz.prog 15 S_simple_AmountText :=
  pure_flat (E := E_simple_AmountText) (TblOK.enK TYsG61t_ok _ _ _ _ _) mixed rfl Tryz.func15 (c := Tryz.f15.body.getD .skip) (by kernel_rfl) (by kernel_rfl) (pats := P_simple_AmountText) (O := O_simple_AmountText) (tup := tup_simple_AmountText) (res := res_simple_AmountText) (g := fun ls => g_simple_AmountText (getI (ls.getD 0 .junk))) (T := fun ls => T_simple_AmountText (getI (ls.getD 0 .junk))) (fun _ => rfl) (fun ls => by kernel_rfl) c_simple_AmountText
noncomputable def TYsG62t : FuncId → Option Go.Cx.Spec := addT TYsG61t 15 S_simple_AmountText
theorem TYsG62t_ok : TblOK Tryz.prog TYsG62t := TYsG61t_ok.add S_simple_AmountText_ok
noncomputable def E_digits_signs_has : En := enK Tryz.prog TYsG62t [] [] [] [] 0
def P_digits_signs_has : List Pat := [.leaf .str, .leaf (.int .u8)]
def O_digits_signs_has : Pat := .leaf .bool
def tup_digits_signs_has : List AV → Bool := fun ls => getB (ls.getD 0 .junk)
def res_digits_signs_has : Bool → AV := fun x => .bool (x)
noncomputable def T_digits_signs_has (x0 : List UInt8) (x1 : Int) : Tr (Bool) := (.r (Decidable.decide (Go.Lib.indexByte x0 (Nat.toUInt8 (Int.toNat x1)) ≥ (0 : Int))))
noncomputable def g_digits_signs_has (x0 : List UInt8) (x1 : Int) : Option (Bool) := (T_digits_signs_has x0 x1).val
set_option maxRecDepth 100000 in
theorem c_digits_signs_has (ls : List AV) (Rv : Bool → Prop) : callA E_digits_signs_has Tryz.f61 (instL ls P_digits_signs_has 0) [] (outP O_digits_signs_has fun ls => Rv (tup_digits_signs_has ls)) = (T_digits_signs_has (getS (ls.getD 0 .junk)) (getI (ls.getD 1 .junk))).fold False Rv := by kernel_rfl
noncomputable def S_digits_signs_has : Go.Cx.Spec := pureS (patF P_digits_signs_has fun ls => opt (g_digits_signs_has (getS (ls.getD 0 .junk)) (getI (ls.getD 1 .junk))) fun x => .r (res_digits_signs_has x))
set_option maxRecDepth 100000 in
theorem S_digits_signs_has_ok : Sound Tryz.prog 61 S_digits_signs_has :=
  pure_flat (E := E_digits_signs_has) (TblOK.enK TYsG62t_ok _ _ _ _ _) mixed rfl Tryz.func61 (c := Tryz.f61.body.getD .skip) (by kernel_rfl) (by kernel_rfl) (pats := P_digits_signs_has) (O := O_digits_signs_has) (tup := tup_digits_signs_has) (res := res_digits_signs_has) (g := fun ls => g_digits_signs_has (getS (ls.getD 0 .junk)) (getI (ls.getD 1 .junk))) (T := fun ls => T_digits_signs_has (getS (ls.getD 0 .junk)) (getI (ls.getD 1 .junk))) (fun _ => rfl) (fun ls => by kernel_rfl) c_digits_signs_has
noncomputable def TYsG63t : FuncId → Option Go.Cx.Spec := addT TYsG62t 61 S_digits_signs_has
theorem TYsG63t_ok : TblOK Tryz.prog TYsG63t := TYsG62t_ok.add S_digits_signs_has_ok
noncomputable def E_digits_all_0fhas_ : En := enK Tryz.prog TYsG63t [] [(2, ⟨[2, 3, 4, 5, 6, 9, 10, 11, 12, 13, 14, 15, 16, 17], [], [], none, [], [], [], [], true⟩)] [] [] 0
def P_digits_all_0fhas_ : List Pat := [.leaf .str, .func 61 [.leaf .str] []]
def O_digits_all_0fhas_ : Pat := .leaf .bool
def tup_digits_all_0fhas_ : List AV → Bool := fun ls => getB (ls.getD 0 .junk)
def res_digits_all_0fhas_ : Bool → AV := fun x => .bool (x)
noncomputable def T_digits_all_0fhas_ (x0 : List UInt8) (x1 : List UInt8) : Tr ((Int) ⊕ (Bool)) := (.r (.inl ((0 : Int))))
noncomputable def M_digits_all_0fhas_ (x0 : List UInt8) (x1 : List UInt8) : Int → Tr ((Int) ⊕ (Bool))
  | i0 => (.c (Decidable.decide (i0 < (↑(List.length x0) : Int))) (.c (Decidable.decide ((0 : Int) ≤ i0)) (.c (Decidable.decide (i0 < (↑(List.length x0) : Int))) (.c (!Decidable.decide (Go.Lib.indexByte x1 (Nat.toUInt8 (UInt8.toNat (List.getD x0 (Int.toNat i0) (0 : UInt8)))) ≥ (0 : Int))) (.r (.inr (Bool.false))) (.r (.inl (Go.IntKind.wrap Go.IntKind.i64 (i0 + (1 : Int)))))) .bad) .bad) (.r (.inr (Bool.true))))
noncomputable def g_digits_all_0fhas_ (x0 : List UInt8) (x1 : List UInt8) : Option (Bool) := run (M_digits_all_0fhas_ x0 x1) (T_digits_all_0fhas_ x0 x1)
noncomputable def b_digits_all_0fhas_ := Tryz.f60.body.getD .skip
noncomputable def st_digits_all_0fhas__0 (x0 : List UInt8) (x1 : List UInt8) (i0 : Int) : St := ⟨[Go.Cx.AV.str x0, Go.Cx.AV.func (61 : Nat) [Go.Cx.AV.str x1] [], Go.Cx.AV.junk, Go.Cx.AV.junk, Go.Cx.AV.junk, Go.Cx.AV.junk, Go.Cx.AV.junk, Go.Cx.AV.int Go.IntKind.i64 (↑(List.length x0) : Int), Go.Cx.AV.int Go.IntKind.i64 i0, Go.Cx.AV.junk, Go.Cx.AV.junk, Go.Cx.AV.junk, Go.Cx.AV.junk, Go.Cx.AV.junk, Go.Cx.AV.junk, Go.Cx.AV.junk, Go.Cx.AV.junk, Go.Cx.AV.junk], []⟩
noncomputable def L_digits_all_0fhas_ (x0 : List UInt8) (x1 : List UInt8) (Rv : Bool → Prop) : Int → Prop
  | i0 => headL E_digits_all_0fhas_ [.r, .l, .r, .d] b_digits_all_0fhas_ 1000 (bodyK E_digits_all_0fhas_ Tryz.f60 (outP O_digits_all_0fhas_ fun ls => Rv (tup_digits_all_0fhas_ ls))) (st_digits_all_0fhas__0 x0 x1 i0)
set_option maxRecDepth 100000 in
theorem l_digits_all_0fhas__0 (x0 : List UInt8) (x1 : List UInt8) (Rv : Bool → Prop) (i0 : Int) : stepL E_digits_all_0fhas_ [.r, .l, .r, .d] b_digits_all_0fhas_ 1000 (bodyK E_digits_all_0fhas_ Tryz.f60 (outP O_digits_all_0fhas_ fun ls => Rv (tup_digits_all_0fhas_ ls))) (st_digits_all_0fhas__0 x0 x1 i0) =
  (M_digits_all_0fhas_ x0 x1 (i0)).fold False (Sum.elim (L_digits_all_0fhas_ x0 x1 Rv) Rv) := by kernel_rfl
set_option maxRecDepth 100000 in
theorem e_digits_all_0fhas__0 (x0 : List UInt8) (x1 : List UInt8) (Rv : Bool → Prop) (i0 : Int) : L_digits_all_0fhas_ x0 x1 Rv (i0) = headL E_digits_all_0fhas_ [.r, .l, .r, .d] b_digits_all_0fhas_ 1000 (bodyK E_digits_all_0fhas_ Tryz.f60 (outP O_digits_all_0fhas_ fun ls => Rv (tup_digits_all_0fhas_ ls))) (st_digits_all_0fhas__0 x0 x1 i0) := by kernel_rfl
section
attribute [local irreducible] Tr.fold M_digits_all_0fhas_ L_digits_all_0fhas_ T_digits_all_0fhas_ E_digits_all_0fhas_ b_digits_all_0fhas_ bodyK headC headL stepC stepL wpX callA
set_option maxRecDepth 100000 in
theorem h_digits_all_0fhas_ (x0 : List UInt8) (x1 : List UInt8) (Rv : Bool → Prop) : ∀ s, (M_digits_all_0fhas_ x0 x1 s).fold False (Sum.elim (L_digits_all_0fhas_ x0 x1 Rv) Rv) → L_digits_all_0fhas_ x0 x1 Rv s := by
  rintro (v0)
  · exact fun h => Eq.mpr (e_digits_all_0fhas__0 x0 x1 Rv v0) (headL_of (Eq.mpr (l_digits_all_0fhas__0 x0 x1 Rv v0) h))
set_option maxRecDepth 100000 in
theorem c_digits_all_0fhas_ (ls : List AV) (Rv : Bool → Prop) : callA E_digits_all_0fhas_ Tryz.f60 (instL ls P_digits_all_0fhas_ 0) [] (outP O_digits_all_0fhas_ fun ls => Rv (tup_digits_all_0fhas_ ls)) = (T_digits_all_0fhas_ (getS (ls.getD 0 .junk)) (getS (ls.getD 1 .junk))).fold False (Sum.elim (L_digits_all_0fhas_ (getS (ls.getD 0 .junk)) (getS (ls.getD 1 .junk)) Rv) Rv) := by kernel_rfl
end
noncomputable def S_digits_all_0fhas_ : Go.Cx.Spec := pureS (patF P_digits_all_0fhas_ fun ls => opt (g_digits_all_0fhas_ (getS (ls.getD 0 .junk)) (getS (ls.getD 1 .junk))) fun x => .r (res_digits_all_0fhas_ x))
set_option maxRecDepth 100000 in
theorem S_digits_all_0fhas__ok : Sound Tryz.prog 60 S_digits_all_0fhas_ :=
  pure_mach (E := E_digits_all_0fhas_) (TblOK.enK TYsG63t_ok _ _ _ _ _) mixed rfl Tryz.func60 (c := Tryz.f60.body.getD .skip) (by kernel_rfl) (by kernel_rfl) (pats := P_digits_all_0fhas_) (O := O_digits_all_0fhas_) (tup := tup_digits_all_0fhas_) (res := res_digits_all_0fhas_) (g := fun ls => g_digits_all_0fhas_ (getS (ls.getD 0 .junk)) (getS (ls.getD 1 .junk))) (T := fun ls => T_digits_all_0fhas_ (getS (ls.getD 0 .junk)) (getS (ls.getD 1 .junk))) (step := fun ls => M_digits_all_0fhas_ (getS (ls.getD 0 .junk)) (getS (ls.getD 1 .junk))) (L := fun ls => L_digits_all_0fhas_ (getS (ls.getD 0 .junk)) (getS (ls.getD 1 .junk))) (fun _ => rfl) (fun ls => by kernel_rfl) c_digits_all_0fhas_ (fun ls Rv => h_digits_all_0fhas_ (getS (ls.getD 0 .junk)) (getS (ls.getD 1 .junk)) Rv)
noncomputable def TYsG64t : FuncId → Option Go.Cx.Spec := addT TYsG63t 60 S_digits_all_0fhas_
theorem TYsG64t_ok : TblOK Tryz.prog TYsG64t := TYsG63t_ok.add S_digits_all_0fhas__ok
noncomputable def E_digits_Right : En := enK Tryz.prog TYsG64t [] [] [] [] 0
def P_digits_Right : List Pat := [.leaf .str, .leaf (.int .i64), .leaf (.int .i64)]
def O_digits_Right : Pat := .leaf .bool
def tup_digits_Right : List AV → Bool := fun ls => getB (ls.getD 0 .junk)
def res_digits_Right : Bool → AV := fun x => .bool (x)
noncomputable def T_digits_Right (x0 : List UInt8) (x1 : Int) (x2 : Int) : Tr (Bool) := (.c (Decidable.decide ((↑(List.length x0) : Int) ≥ x1)) (.c (Decidable.decide ((↑(List.length x0) : Int) ≤ x2)) (opt (Go.Proofs.YtcnalhganahiiaaGreatDoor.g_digits_all_0fhas_ x0 [(48 : UInt8), (49 : UInt8), (50 : UInt8), (51 : UInt8), (52 : UInt8), (53 : UInt8), (54 : UInt8), (55 : UInt8), (56 : UInt8), (57 : UInt8)]) fun (y0 : Bool) => (.r (y0))) (.r (Bool.false))) (.r (Bool.false)))
noncomputable def g_digits_Right (x0 : List UInt8) (x1 : Int) (x2 : Int) : Option (Bool) := (T_digits_Right x0 x1 x2).val
set_option maxRecDepth 100000 in
theorem c_digits_Right (ls : List AV) (Rv : Bool → Prop) : callA E_digits_Right Tryz.f35 (instL ls P_digits_Right 0) [] (outP O_digits_Right fun ls => Rv (tup_digits_Right ls)) = (T_digits_Right (getS (ls.getD 0 .junk)) (getI (ls.getD 1 .junk)) (getI (ls.getD 2 .junk))).fold False Rv := by kernel_rfl
noncomputable def S_digits_Right : Go.Cx.Spec := pureS (patF P_digits_Right fun ls => opt (g_digits_Right (getS (ls.getD 0 .junk)) (getI (ls.getD 1 .junk)) (getI (ls.getD 2 .junk))) fun x => .r (res_digits_Right x))
set_option maxRecDepth 100000 in
theorem S_digits_Right_ok : Sound Tryz.prog 35 S_digits_Right :=
  pure_flat (E := E_digits_Right) (TblOK.enK TYsG64t_ok _ _ _ _ _) mixed rfl Tryz.func35 (c := Tryz.f35.body.getD .skip) (by kernel_rfl) (by kernel_rfl) (pats := P_digits_Right) (O := O_digits_Right) (tup := tup_digits_Right) (res := res_digits_Right) (g := fun ls => g_digits_Right (getS (ls.getD 0 .junk)) (getI (ls.getD 1 .junk)) (getI (ls.getD 2 .junk))) (T := fun ls => T_digits_Right (getS (ls.getD 0 .junk)) (getI (ls.getD 1 .junk)) (getI (ls.getD 2 .junk))) (fun _ => rfl) (fun ls => by kernel_rfl) c_digits_Right
noncomputable def TYsG65t : FuncId → Option Go.Cx.Spec := addT TYsG64t 35 S_digits_Right
theorem TYsG65t_ok : TblOK Tryz.prog TYsG65t := TYsG64t_ok.add S_digits_Right_ok
noncomputable def E_digits_Number : En := enK Tryz.prog TYsG65t [] [(5, ⟨[1, 2, 3, 5, 6, 7, 8, 9, 12, 13, 14, 15, 16, 17, 18, 19, 20, 21, 22, 23], [], [], none, [], [], [], [], true⟩)] [] [] 0
def P_digits_Number : List Pat := [.leaf .str]
def O_digits_Number : Pat := .tuple [.leaf (.int .u64), .leaf (.int .i64)]
def tup_digits_Number : List AV → Int × Int := fun ls => (getI (ls.getD 0 .junk), getI (ls.getD 1 .junk))
def res_digits_Number : Int × Int → AV := fun x => .tuple [.int .u64 (x.1), .int .i64 (x.2)]
noncomputable def T_digits_Number (x0 : List UInt8) : Tr ((Int × Int) ⊕ (Int × Int)) := (opt (Go.Proofs.YtcnalhganahiiaaGreatDoor.g_digits_Right x0 (1 : Int) (18 : Int)) fun (y0 : Bool) => (.c (!y0) (.r (.inr (((0 : Int), (5 : Int))))) (.r (.inl (((0 : Int), (0 : Int)))))))
noncomputable def M_digits_Number (x0 : List UInt8) : Int × Int → Tr ((Int × Int) ⊕ (Int × Int))
  | (i0, i1) => (.c (Decidable.decide (i1 < (↑(List.length x0) : Int))) (.c (Decidable.decide ((0 : Int) ≤ i1)) (.c (Decidable.decide (i1 < (↑(List.length x0) : Int))) (.r (.inl ((Go.IntKind.wrap Go.IntKind.u64 (Go.IntKind.wrap Go.IntKind.u64 (i0 * (10 : Int)) + Go.IntKind.wrap Go.IntKind.u64 (Go.IntKind.wrap Go.IntKind.u8 ((↑(UInt8.toNat (List.getD x0 (Int.toNat i1) (0 : UInt8))) : Int) - (48 : Int)))), Go.IntKind.wrap Go.IntKind.i64 (i1 + (1 : Int)))))) .bad) .bad) (.r (.inr ((i0, (0 : Int))))))
noncomputable def g_digits_Number (x0 : List UInt8) : Option (Int × Int) := run (M_digits_Number x0) (T_digits_Number x0)
noncomputable def b_digits_Number := Tryz.f31.body.getD .skip
noncomputable def st_digits_Number_0 (x0 : List UInt8) (i0 : Int) (i1 : Int) : St := ⟨[Go.Cx.AV.str x0, Go.Cx.AV.junk, Go.Cx.AV.junk, Go.Cx.AV.junk, Go.Cx.AV.int Go.IntKind.u64 i0, Go.Cx.AV.junk, Go.Cx.AV.junk, Go.Cx.AV.junk, Go.Cx.AV.junk, Go.Cx.AV.junk, Go.Cx.AV.int Go.IntKind.i64 (↑(List.length x0) : Int), Go.Cx.AV.int Go.IntKind.i64 i1, Go.Cx.AV.junk, Go.Cx.AV.junk, Go.Cx.AV.junk, Go.Cx.AV.junk, Go.Cx.AV.junk, Go.Cx.AV.junk, Go.Cx.AV.junk, Go.Cx.AV.junk, Go.Cx.AV.junk, Go.Cx.AV.junk, Go.Cx.AV.junk, Go.Cx.AV.junk], []⟩
noncomputable def L_digits_Number (x0 : List UInt8) (Rv : Int × Int → Prop) : Int × Int → Prop
  | (i0, i1) => headL E_digits_Number [.r, .r, .r, .l, .r, .d] b_digits_Number 1000 (bodyK E_digits_Number Tryz.f31 (outP O_digits_Number fun ls => Rv (tup_digits_Number ls))) (st_digits_Number_0 x0 i0 i1)
set_option maxRecDepth 100000 in
theorem l_digits_Number_0 (x0 : List UInt8) (Rv : Int × Int → Prop) (i0 : Int) (i1 : Int) : stepL E_digits_Number [.r, .r, .r, .l, .r, .d] b_digits_Number 1000 (bodyK E_digits_Number Tryz.f31 (outP O_digits_Number fun ls => Rv (tup_digits_Number ls))) (st_digits_Number_0 x0 i0 i1) =
  (M_digits_Number x0 ((i0, i1))).fold False (Sum.elim (L_digits_Number x0 Rv) Rv) := by kernel_rfl
set_option maxRecDepth 100000 in
theorem e_digits_Number_0 (x0 : List UInt8) (Rv : Int × Int → Prop) (i0 : Int) (i1 : Int) : L_digits_Number x0 Rv ((i0, i1)) = headL E_digits_Number [.r, .r, .r, .l, .r, .d] b_digits_Number 1000 (bodyK E_digits_Number Tryz.f31 (outP O_digits_Number fun ls => Rv (tup_digits_Number ls))) (st_digits_Number_0 x0 i0 i1) := by kernel_rfl
section
attribute [local irreducible] Tr.fold M_digits_Number L_digits_Number T_digits_Number E_digits_Number b_digits_Number bodyK headC headL stepC stepL wpX callA
set_option maxRecDepth 100000 in
theorem h_digits_Number (x0 : List UInt8) (Rv : Int × Int → Prop) : ∀ s, (M_digits_Number x0 s).fold False (Sum.elim (L_digits_Number x0 Rv) Rv) → L_digits_Number x0 Rv s := by
  rintro (⟨v0, v1⟩)
  · exact fun h => Eq.mpr (e_digits_Number_0 x0 Rv v0 v1) (headL_of (Eq.mpr (l_digits_Number_0 x0 Rv v0 v1) h))
set_option maxRecDepth 100000 in
theorem c_digits_Number (ls : List AV) (Rv : Int × Int → Prop) : callA E_digits_Number Tryz.f31 (instL ls P_digits_Number 0) [] (outP O_digits_Number fun ls => Rv (tup_digits_Number ls)) = (T_digits_Number (getS (ls.getD 0 .junk))).fold False (Sum.elim (L_digits_Number (getS (ls.getD 0 .junk)) Rv) Rv) := by kernel_rfl
end
noncomputable def S_digits_Number : Go.Cx.Spec := pureS (patF P_digits_Number fun ls => opt (g_digits_Number (getS (ls.getD 0 .junk))) fun x => .r (res_digits_Number x))
set_option maxRecDepth 100000 in
theorem S_digits_Number_ok : Sound Tryz.prog 31 S_digits_Number :=
  pure_mach (E := E_digits_Number) (TblOK.enK TYsG65t_ok _ _ _ _ _) mixed rfl Tryz.func31 (c := Tryz.f31.body.getD .skip) (by kernel_rfl) (by kernel_rfl) (pats := P_digits_Number) (O := O_digits_Number) (tup := tup_digits_Number) (res := res_digits_Number) (g := fun ls => g_digits_Number (getS (ls.getD 0 .junk))) (T := fun ls => T_digits_Number (getS (ls.getD 0 .junk))) (step := fun ls => M_digits_Number (getS (ls.getD 0 .junk))) (L := fun ls => L_digits_Number (getS (ls.getD 0 .junk))) (fun _ => rfl) (fun ls => by kernel_rfl) c_digits_Number (fun ls Rv => h_digits_Number (getS (ls.getD 0 .junk)) Rv)
noncomputable def TYsG66t : FuncId → Option Go.Cx.Spec := addT TYsG65t 31 S_digits_Number
theorem TYsG66t_ok : TblOK Tryz.prog TYsG66t := TYsG65t_ok.add S_digits_Number_ok
noncomputable def E_simple_part : En := enK Tryz.prog TYsG66t [] [] [] [] 0
def P_simple_part : List Pat := [.leaf .str, .leaf (.int .i64), .leaf (.int .i64)]
def O_simple_part : Pat := .leaf (.int .i64)
def tup_simple_part : List AV → Int := fun ls => getI (ls.getD 0 .junk)
def res_simple_part : Int → AV := fun x => .int .i64 (x)
noncomputable def T_simple_part (x0 : List UInt8) (x1 : Int) (x2 : Int) : Tr (Int) := (.c (Decidable.decide ((0 : Int) ≤ x2)) (.c (Decidable.decide (x2 ≤ (↑(List.length x0) : Int))) (.c (Decidable.decide ((0 : Int) ≤ x1)) (.c (Decidable.decide (x1 ≤ x2)) (opt (Go.Proofs.YtcnalhganahiiaaGreatDoor.g_digits_Number (List.drop (Int.toNat x1) (List.take (Int.toNat x2) x0))) fun (y0 : Int × Int) => (.r (Go.IntKind.wrap Go.IntKind.i64 (Prod.fst y0)))) .bad) .bad) .bad) .bad)
noncomputable def g_simple_part (x0 : List UInt8) (x1 : Int) (x2 : Int) : Option (Int) := (T_simple_part x0 x1 x2).val
set_option maxRecDepth 100000 in
theorem c_simple_part (ls : List AV) (Rv : Int → Prop) : callA E_simple_part Tryz.f36 (instL ls P_simple_part 0) [] (outP O_simple_part fun ls => Rv (tup_simple_part ls)) = (T_simple_part (getS (ls.getD 0 .junk)) (getI (ls.getD 1 .junk)) (getI (ls.getD 2 .junk))).fold False Rv := by kernel_rfl
noncomputable def S_simple_part : Go.Cx.Spec := pureS (patF P_simple_part fun ls => opt (g_simple_part (getS (ls.getD 0 .junk)) (getI (ls.getD 1 .junk)) (getI (ls.getD 2 .junk))) fun x => .r (res_simple_part x))
set_option maxRecDepth 100000 in
theorem S_simple_part_ok : Sound Tryz.prog 36 S_simple_part :=
  pure_flat (E := E_simple_part) (TblOK.enK TYsG66t_ok _ _ _ _ _) mixed rfl Tryz.func36 (c := Tryz.f36.body.getD .skip) (by kernel_rfl) (by kernel_rfl) (pats := P_simple_part) (O := O_simple_part) (tup := tup_simple_part) (res := res_simple_part) (g := fun ls => g_simple_part (getS (ls.getD 0 .junk)) (getI (ls.getD 1 .junk)) (getI (ls.getD 2 .junk))) (T := fun ls => T_simple_part (getS (ls.getD 0 .junk)) (getI (ls.getD 1 .junk)) (getI (ls.getD 2 .junk))) (fun _ => rfl) (fun ls => by kernel_rfl) c_simple_part
noncomputable def TYsG67t : FuncId → Option Go.Cx.Spec := addT TYsG66t 36 S_simple_part
theorem TYsG67t_ok : TblOK Tryz.prog TYsG67t := TYsG66t_ok.add S_simple_part_ok
noncomputable def E_simple_days : En := enK Tryz.prog TYsG67t [] [] [] [] 0
def P_simple_days : List Pat := [.leaf (.int .i64), .leaf (.int .i64)]
def O_simple_days : Pat := .leaf (.int .i64)
def tup_simple_days : List AV → Int := fun ls => getI (ls.getD 0 .junk)
def res_simple_days : Int → AV := fun x => .int .i64 (x)
noncomputable def T_simple_days (x0 : Int) (x1 : Int) : Tr (Int) := (.c (x1 == (4 : Int)) (.c (x1 == (4 : Int)) (.r ((30 : Int))) (.c (x1 == (2 : Int)) (.c (Int.tmod x0 (4 : Int) == (0 : Int)) (.c (Int.tmod x0 (100 : Int) != (0 : Int)) (.r ((29 : Int))) (.c (Int.tmod x0 (400 : Int) == (0 : Int)) (.r ((29 : Int))) (.r ((28 : Int))))) (.r ((28 : Int)))) (.r ((31 : Int))))) (.c (x1 == (6 : Int)) (.c (x1 == (6 : Int)) (.r ((30 : Int))) (.c (x1 == (2 : Int)) (.c (Int.tmod x0 (4 : Int) == (0 : Int)) (.c (Int.tmod x0 (100 : Int) != (0 : Int)) (.r ((29 : Int))) (.c (Int.tmod x0 (400 : Int) == (0 : Int)) (.r ((29 : Int))) (.r ((28 : Int))))) (.r ((28 : Int)))) (.r ((31 : Int))))) (.c (x1 == (9 : Int)) (.c (x1 == (9 : Int)) (.r ((30 : Int))) (.c (x1 == (2 : Int)) (.c (Int.tmod x0 (4 : Int) == (0 : Int)) (.c (Int.tmod x0 (100 : Int) != (0 : Int)) (.r ((29 : Int))) (.c (Int.tmod x0 (400 : Int) == (0 : Int)) (.r ((29 : Int))) (.r ((28 : Int))))) (.r ((28 : Int)))) (.r ((31 : Int))))) (.c (x1 == (11 : Int)) (.r ((30 : Int))) (.c (x1 == (2 : Int)) (.c (Int.tmod x0 (4 : Int) == (0 : Int)) (.c (Int.tmod x0 (100 : Int) != (0 : Int)) (.r ((29 : Int))) (.c (Int.tmod x0 (400 : Int) == (0 : Int)) (.r ((29 : Int))) (.r ((28 : Int))))) (.r ((28 : Int)))) (.r ((31 : Int))))))))
noncomputable def g_simple_days (x0 : Int) (x1 : Int) : Option (Int) := (T_simple_days x0 x1).val
set_option maxRecDepth 100000 in
theorem c_simple_days (ls : List AV) (Rv : Int → Prop) : callA E_simple_days Tryz.f37 (instL ls P_simple_days 0) [] (outP O_simple_days fun ls => Rv (tup_simple_days ls)) = (T_simple_days (getI (ls.getD 0 .junk)) (getI (ls.getD 1 .junk))).fold False Rv := by kernel_rfl
noncomputable def S_simple_days : Go.Cx.Spec := pureS (patF P_simple_days fun ls => opt (g_simple_days (getI (ls.getD 0 .junk)) (getI (ls.getD 1 .junk))) fun x => .r (res_simple_days x))
set_option maxRecDepth 100000 in
theorem S_simple_days_ok : Sound Tryz.prog 37 S_simple_days :=
  pure_flat (E := E_simple_days) (TblOK.enK TYsG67t_ok _ _ _ _ _) mixed rfl Tryz.func37 (c := Tryz.f37.body.getD .skip) (by kernel_rfl) (by kernel_rfl) (pats := P_simple_days) (O := O_simple_days) (tup := tup_simple_days) (res := res_simple_days) (g := fun ls => g_simple_days (getI (ls.getD 0 .junk)) (getI (ls.getD 1 .junk))) (T := fun ls => T_simple_days (getI (ls.getD 0 .junk)) (getI (ls.getD 1 .junk))) (fun _ => rfl) (fun ls => by kernel_rfl) c_simple_days
noncomputable def TYsG68t : FuncId → Option Go.Cx.Spec := addT TYsG67t 37 S_simple_days
theorem TYsG68t_ok : TblOK Tryz.prog TYsG68t := TYsG67t_ok.add S_simple_days_ok
noncomputable def E_simple_Time : En := enK Tryz.prog TYsG68t [] [] [] [] 0
def P_simple_Time : List Pat := [.leaf .str]
def O_simple_Time : Pat := .leaf .bool
def tup_simple_Time : List AV → Bool := fun ls => getB (ls.getD 0 .junk)
def res_simple_Time : Bool → AV := fun x => .bool (x)
noncomputable def T_simple_Time (x0 : List UInt8) : Tr (Bool) := (opt (Go.Proofs.YtcnalhganahiiaaGreatDoor.g_digits_Right x0 (14 : Int) (14 : Int)) fun (y0 : Bool) => (.c (!y0) (.r (Bool.false)) (opt (Go.Proofs.YtcnalhganahiiaaGreatDoor.g_simple_part x0 (0 : Int) (4 : Int)) fun (y1 : Int) => (opt (Go.Proofs.YtcnalhganahiiaaGreatDoor.g_simple_part x0 (4 : Int) (6 : Int)) fun (y2 : Int) => (opt (Go.Proofs.YtcnalhganahiiaaGreatDoor.g_simple_part x0 (6 : Int) (8 : Int)) fun (y3 : Int) => (.c (Decidable.decide (y1 > (0 : Int))) (.c (Decidable.decide (y2 ≥ (1 : Int))) (.c (Decidable.decide (y2 ≤ (12 : Int))) (.c (Decidable.decide (y3 ≥ (1 : Int))) (opt (Go.Proofs.YtcnalhganahiiaaGreatDoor.g_simple_days y1 y2) fun (y4 : Int) => (.c (Decidable.decide (y3 ≤ y4)) (opt (Go.Proofs.YtcnalhganahiiaaGreatDoor.g_simple_part x0 (8 : Int) (10 : Int)) fun (y5 : Int) => (.c (Decidable.decide (y5 < (24 : Int))) (opt (Go.Proofs.YtcnalhganahiiaaGreatDoor.g_simple_part x0 (10 : Int) (12 : Int)) fun (y6 : Int) => (.c (Decidable.decide (y6 < (60 : Int))) (opt (Go.Proofs.YtcnalhganahiiaaGreatDoor.g_simple_part x0 (12 : Int) (14 : Int)) fun (y7 : Int) => (.r (Decidable.decide (y7 < (60 : Int))))) (.r (Bool.false)))) (.r (Bool.false)))) (.r (Bool.false)))) (.r (Bool.false))) (.r (Bool.false))) (.r (Bool.false))) (.r (Bool.false))))))))
noncomputable def g_simple_Time (x0 : List UInt8) : Option (Bool) := (T_simple_Time x0).val
set_option maxRecDepth 100000 in
theorem c_simple_Time (ls : List AV) (Rv : Bool → Prop) : callA E_simple_Time Tryz.f17 (instL ls P_simple_Time 0) [] (outP O_simple_Time fun ls => Rv (tup_simple_Time ls)) = (T_simple_Time (getS (ls.getD 0 .junk))).fold False Rv := by kernel_rfl
noncomputable def S_simple_Time : Go.Cx.Spec := pureS (patF P_simple_Time fun ls => opt (g_simple_Time (getS (ls.getD 0 .junk))) fun x => .r (res_simple_Time x))
set_option maxRecDepth 100000 in
theorem S_simple_Time_ok : Sound Tryz.prog 17 S_simple_Time :=
  pure_flat (E := E_simple_Time) (TblOK.enK TYsG68t_ok _ _ _ _ _) mixed rfl Tryz.func17 (c := Tryz.f17.body.getD .skip) (by kernel_rfl) (by kernel_rfl) (pats := P_simple_Time) (O := O_simple_Time) (tup := tup_simple_Time) (res := res_simple_Time) (g := fun ls => g_simple_Time (getS (ls.getD 0 .junk))) (T := fun ls => T_simple_Time (getS (ls.getD 0 .junk))) (fun _ => rfl) (fun ls => by kernel_rfl) c_simple_Time
noncomputable def TYsG69t : FuncId → Option Go.Cx.Spec := addT TYsG68t 17 S_simple_Time
theorem TYsG69t_ok : TblOK Tryz.prog TYsG69t := TYsG68t_ok.add S_simple_Time_ok
noncomputable def E_simple_TimeText : En := enK Tryz.prog TYsG69t [] [] [] [] 0
def P_simple_TimeText : List Pat := [.leaf .str]
def O_simple_TimeText : Pat := .tuple [.leaf .str, .leaf (.int .i64)]
def tup_simple_TimeText : List AV → List UInt8 × Int := fun ls => (getS (ls.getD 0 .junk), getI (ls.getD 1 .junk))
def res_simple_TimeText : List UInt8 × Int → AV := fun x => .tuple [.str (x.1), .int .i64 (x.2)]
noncomputable def T_simple_TimeText (x0 : List UInt8) : Tr (List UInt8 × Int) := (opt (Go.Proofs.YtcnalhganahiiaaGreatDoor.g_simple_Time x0) fun (y0 : Bool) => (.c (!y0) (.r (([], (14 : Int)))) (.c (Decidable.decide ((4 : Int) ≤ (↑(List.length x0) : Int))) (.c (Decidable.decide (List.length (List.drop (0 : Nat) (List.take (Int.toNat (4 : Int)) x0)) + (1 : Nat) < (70368744177664 : Nat))) (.c (Decidable.decide ((6 : Int) ≤ (↑(List.length x0) : Int))) (.c (Decidable.decide (List.length (List.drop (0 : Nat) (List.take (Int.toNat (4 : Int)) x0) ++ [(45 : UInt8)]) + List.length (List.drop (4 : Nat) (List.take (Int.toNat (6 : Int)) x0)) < (70368744177664 : Nat))) (.c (Decidable.decide (List.length (List.drop (0 : Nat) (List.take (Int.toNat (4 : Int)) x0) ++ [(45 : UInt8)] ++ List.drop (4 : Nat) (List.take (Int.toNat (6 : Int)) x0)) + (1 : Nat) < (70368744177664 : Nat))) (.c (Decidable.decide ((8 : Int) ≤ (↑(List.length x0) : Int))) (.c (Decidable.decide (List.length (List.drop (0 : Nat) (List.take (Int.toNat (4 : Int)) x0) ++ [(45 : UInt8)] ++ List.drop (4 : Nat) (List.take (Int.toNat (6 : Int)) x0) ++ [(45 : UInt8)]) + List.length (List.drop (6 : Nat) (List.take (Int.toNat (8 : Int)) x0)) < (70368744177664 : Nat))) (.c (Decidable.decide (List.length (List.drop (0 : Nat) (List.take (Int.toNat (4 : Int)) x0) ++ [(45 : UInt8)] ++ List.drop (4 : Nat) (List.take (Int.toNat (6 : Int)) x0) ++ [(45 : UInt8)] ++ List.drop (6 : Nat) (List.take (Int.toNat (8 : Int)) x0)) + (1 : Nat) < (70368744177664 : Nat))) (.c (Decidable.decide ((10 : Int) ≤ (↑(List.length x0) : Int))) (.c (Decidable.decide (List.length (List.drop (0 : Nat) (List.take (Int.toNat (4 : Int)) x0) ++ [(45 : UInt8)] ++ List.drop (4 : Nat) (List.take (Int.toNat (6 : Int)) x0) ++ [(45 : UInt8)] ++ List.drop (6 : Nat) (List.take (Int.toNat (8 : Int)) x0) ++ [(84 : UInt8)]) + List.length (List.drop (8 : Nat) (List.take (Int.toNat (10 : Int)) x0)) < (70368744177664 : Nat))) (.c (Decidable.decide (List.length (List.drop (0 : Nat) (List.take (Int.toNat (4 : Int)) x0) ++ [(45 : UInt8)] ++ List.drop (4 : Nat) (List.take (Int.toNat (6 : Int)) x0) ++ [(45 : UInt8)] ++ List.drop (6 : Nat) (List.take (Int.toNat (8 : Int)) x0) ++ [(84 : UInt8)] ++ List.drop (8 : Nat) (List.take (Int.toNat (10 : Int)) x0)) + (1 : Nat) < (70368744177664 : Nat))) (.c (Decidable.decide ((12 : Int) ≤ (↑(List.length x0) : Int))) (.c (Decidable.decide (List.length (List.drop (0 : Nat) (List.take (Int.toNat (4 : Int)) x0) ++ [(45 : UInt8)] ++ List.drop (4 : Nat) (List.take (Int.toNat (6 : Int)) x0) ++ [(45 : UInt8)] ++ List.drop (6 : Nat) (List.take (Int.toNat (8 : Int)) x0) ++ [(84 : UInt8)] ++ List.drop (8 : Nat) (List.take (Int.toNat (10 : Int)) x0) ++ [(58 : UInt8)]) + List.length (List.drop (10 : Nat) (List.take (Int.toNat (12 : Int)) x0)) < (70368744177664 : Nat))) (.c (Decidable.decide (List.length (List.drop (0 : Nat) (List.take (Int.toNat (4 : Int)) x0) ++ [(45 : UInt8)] ++ List.drop (4 : Nat) (List.take (Int.toNat (6 : Int)) x0) ++ [(45 : UInt8)] ++ List.drop (6 : Nat) (List.take (Int.toNat (8 : Int)) x0) ++ [(84 : UInt8)] ++ List.drop (8 : Nat) (List.take (Int.toNat (10 : Int)) x0) ++ [(58 : UInt8)] ++ List.drop (10 : Nat) (List.take (Int.toNat (12 : Int)) x0)) + (1 : Nat) < (70368744177664 : Nat))) (.c (Decidable.decide ((↑(List.length x0) : Int) ≤ (↑(List.length x0) : Int))) (.c (Decidable.decide ((12 : Int) ≤ (↑(List.length x0) : Int))) (.c (Decidable.decide (List.length (List.drop (0 : Nat) (List.take (Int.toNat (4 : Int)) x0) ++ [(45 : UInt8)] ++ List.drop (4 : Nat) (List.take (Int.toNat (6 : Int)) x0) ++ [(45 : UInt8)] ++ List.drop (6 : Nat) (List.take (Int.toNat (8 : Int)) x0) ++ [(84 : UInt8)] ++ List.drop (8 : Nat) (List.take (Int.toNat (10 : Int)) x0) ++ [(58 : UInt8)] ++ List.drop (10 : Nat) (List.take (Int.toNat (12 : Int)) x0) ++ [(58 : UInt8)]) + List.length (List.drop (12 : Nat) (List.take (List.length x0) x0)) < (70368744177664 : Nat))) (.r ((List.drop (0 : Nat) (List.take (Int.toNat (4 : Int)) x0) ++ [(45 : UInt8)] ++ List.drop (4 : Nat) (List.take (Int.toNat (6 : Int)) x0) ++ [(45 : UInt8)] ++ List.drop (6 : Nat) (List.take (Int.toNat (8 : Int)) x0) ++ [(84 : UInt8)] ++ List.drop (8 : Nat) (List.take (Int.toNat (10 : Int)) x0) ++ [(58 : UInt8)] ++ List.drop (10 : Nat) (List.take (Int.toNat (12 : Int)) x0) ++ [(58 : UInt8)] ++ List.drop (12 : Nat) (List.take (List.length x0) x0), (0 : Int)))) .bad) .bad) .bad) .bad) .bad) .bad) .bad) .bad) .bad) .bad) .bad) .bad) .bad) .bad) .bad) .bad) .bad)))
noncomputable def g_simple_TimeText (x0 : List UInt8) : Option (List UInt8 × Int) := (T_simple_TimeText x0).val
set_option maxRecDepth 100000 in
theorem c_simple_TimeText (ls : List AV) (Rv : List UInt8 × Int → Prop) : callA E_simple_TimeText Tryz.f9 (instL ls P_simple_TimeText 0) [] (outP O_simple_TimeText fun ls => Rv (tup_simple_TimeText ls)) = (T_simple_TimeText (getS (ls.getD 0 .junk))).fold False Rv := by kernel_rfl
noncomputable def S_simple_TimeText : Go.Cx.Spec := pureS (patF P_simple_TimeText fun ls => opt (g_simple_TimeText (getS (ls.getD 0 .junk))) fun x => .r (res_simple_TimeText x))
set_option maxRecDepth 100000 in
theorem S_simple_TimeText_ok : Sound Tryz.prog 9 S_simple_TimeText :=
  pure_flat (E := E_simple_TimeText) (TblOK.enK TYsG69t_ok _ _ _ _ _) mixed rfl Tryz.func9 (c := Tryz.f9.body.getD .skip) (by kernel_rfl) (by kernel_rfl) (pats := P_simple_TimeText) (O := O_simple_TimeText) (tup := tup_simple_TimeText) (res := res_simple_TimeText) (g := fun ls => g_simple_TimeText (getS (ls.getD 0 .junk))) (T := fun ls => T_simple_TimeText (getS (ls.getD 0 .junk))) (fun _ => rfl) (fun ls => by kernel_rfl) c_simple_TimeText
noncomputable def TYsG610t : FuncId → Option Go.Cx.Spec := addT TYsG69t 9 S_simple_TimeText
theorem TYsG610t_ok : TblOK Tryz.prog TYsG610t := TYsG69t_ok.add S_simple_TimeText_ok
noncomputable def E_simple_test : En := enK Tryz.prog TYsG610t [] [] [] [] 0
def P_simple_test : List Pat := [.leaf (.int .i64)]
def O_simple_test : Pat := .leaf .any
def tup_simple_test : List AV → AV := fun ls => id (ls.getD 0 .junk)
def res_simple_test : AV → AV := fun x => (x)
noncomputable def T_simple_test (x0 : Int) : Tr (AV) := (.c (x0 == (1 : Int)) (.r (Go.Cx.AV.func (62 : Nat) [] [])) (.c (x0 == (2 : Int)) (.r (Go.Cx.AV.func (63 : Nat) [] [])) (.c (x0 == (3 : Int)) (.r (Go.Cx.AV.func (64 : Nat) [] [])) (.c (x0 == (4 : Int)) (.r (Go.Cx.AV.func (65 : Nat) [] [])) (.c (x0 == (5 : Int)) (.r (Go.Cx.AV.func (66 : Nat) [] [])) (.c (x0 == (6 : Int)) (.r (Go.Cx.AV.func (67 : Nat) [] [])) (.c (x0 == (7 : Int)) (.r (Go.Cx.AV.func (68 : Nat) [] [])) (.r (Go.Cx.AV.func (69 : Nat) [] [])))))))))
noncomputable def g_simple_test (x0 : Int) : Option (AV) := (T_simple_test x0).val
set_option maxRecDepth 100000 in
theorem c_simple_test (ls : List AV) (Rv : AV → Prop) : callA E_simple_test Tryz.f41 (instL ls P_simple_test 0) [] (outP O_simple_test fun ls => Rv (tup_simple_test ls)) = (T_simple_test (getI (ls.getD 0 .junk))).fold False Rv := by kernel_rfl
noncomputable def S_simple_test : Go.Cx.Spec := pureS (patF P_simple_test fun ls => (T_simple_test (getI (ls.getD 0 .junk))).map res_simple_test)
set_option maxRecDepth 100000 in
theorem S_simple_test_ok : Sound Tryz.prog 41 S_simple_test :=
  pure_fork (E := E_simple_test) (TblOK.enK TYsG610t_ok _ _ _ _ _) mixed rfl Tryz.func41 (c := Tryz.f41.body.getD .skip) (by kernel_rfl) (by kernel_rfl) (pats := P_simple_test) (O := O_simple_test) (tup := tup_simple_test) (res := res_simple_test) (T := fun ls => T_simple_test (getI (ls.getD 0 .junk))) (fun ls => by kernel_rfl) c_simple_test
noncomputable def TYsG611t : FuncId → Option Go.Cx.Spec := addT TYsG610t 41 S_simple_test
theorem TYsG611t_ok : TblOK Tryz.prog TYsG611t := TYsG610t_ok.add S_simple_test_ok
noncomputable def E_simple_rule_number : En := enK Tryz.prog TYsG611t [] [] [] [] 0
def P_simple_rule_number : List Pat := [.agg [.leaf .str, .leaf (.int .i64), .leaf (.int .i64), .leaf (.int .i64), .leaf (.int .i64), .leaf (.int .i64)], .leaf .str]
def O_simple_rule_number : Pat := .leaf .bool
def tup_simple_rule_number : List AV → Bool := fun ls => getB (ls.getD 0 .junk)
def res_simple_rule_number : Bool → AV := fun x => .bool (x)
noncomputable def T_simple_rule_number (x0 : List UInt8) (x1 : Int) (x2 : Int) (x3 : Int) (x4 : Int) (x5 : Int) (x6 : List UInt8) : Tr (Bool) := (opt (Go.Proofs.YtcnalhganahiiaaGreatDoor.g_digits_Right x6 x4 x5) fun (y0 : Bool) => (.r (y0)))
noncomputable def g_simple_rule_number (x0 : List UInt8) (x1 : Int) (x2 : Int) (x3 : Int) (x4 : Int) (x5 : Int) (x6 : List UInt8) : Option (Bool) := (T_simple_rule_number x0 x1 x2 x3 x4 x5 x6).val
set_option maxRecDepth 100000 in
theorem c_simple_rule_number (ls : List AV) (Rv : Bool → Prop) : callA E_simple_rule_number Tryz.f62 (instL ls P_simple_rule_number 0) [] (outP O_simple_rule_number fun ls => Rv (tup_simple_rule_number ls)) = (T_simple_rule_number (getS (ls.getD 0 .junk)) (getI (ls.getD 1 .junk)) (getI (ls.getD 2 .junk)) (getI (ls.getD 3 .junk)) (getI (ls.getD 4 .junk)) (getI (ls.getD 5 .junk)) (getS (ls.getD 6 .junk))).fold False Rv := by kernel_rfl
noncomputable def S_simple_rule_number : Go.Cx.Spec := pureS (patF P_simple_rule_number fun ls => opt (g_simple_rule_number (getS (ls.getD 0 .junk)) (getI (ls.getD 1 .junk)) (getI (ls.getD 2 .junk)) (getI (ls.getD 3 .junk)) (getI (ls.getD 4 .junk)) (getI (ls.getD 5 .junk)) (getS (ls.getD 6 .junk))) fun x => .r (res_simple_rule_number x))
set_option maxRecDepth 100000 in
theorem S_simple_rule_number_ok : Sound Tryz.prog 62 S_simple_rule_number :=
  pure_flat (E := E_simple_rule_number) (TblOK.enK TYsG611t_ok _ _ _ _ _) mixed rfl Tryz.func62 (c := Tryz.f62.body.getD .skip) (by kernel_rfl) (by kernel_rfl) (pats := P_simple_rule_number) (O := O_simple_rule_number) (tup := tup_simple_rule_number) (res := res_simple_rule_number) (g := fun ls => g_simple_rule_number (getS (ls.getD 0 .junk)) (getI (ls.getD 1 .junk)) (getI (ls.getD 2 .junk)) (getI (ls.getD 3 .junk)) (getI (ls.getD 4 .junk)) (getI (ls.getD 5 .junk)) (getS (ls.getD 6 .junk))) (T := fun ls => T_simple_rule_number (getS (ls.getD 0 .junk)) (getI (ls.getD 1 .junk)) (getI (ls.getD 2 .junk)) (getI (ls.getD 3 .junk)) (getI (ls.getD 4 .junk)) (getI (ls.getD 5 .junk)) (getS (ls.getD 6 .junk))) (fun _ => rfl) (fun ls => by kernel_rfl) c_simple_rule_number
noncomputable def TYsG612t : FuncId → Option Go.Cx.Spec := addT TYsG611t 62 S_simple_rule_number
theorem TYsG612t_ok : TblOK Tryz.prog TYsG612t := TYsG611t_ok.add S_simple_rule_number_ok
noncomputable def E_text_Utf8 : En := enK Tryz.prog TYsG612t [] [] [] [] 0
def P_text_Utf8 : List Pat := [.leaf .str]
def O_text_Utf8 : Pat := .leaf .bool
def tup_text_Utf8 : List AV → Bool := fun ls => getB (ls.getD 0 .junk)
def res_text_Utf8 : Bool → AV := fun x => .bool (x)
noncomputable def T_text_Utf8 (x0 : List UInt8) : Tr (Bool) := (.c (Go.Lib.validD x0) (.r (Decidable.decide (Go.Lib.idxFunc (fun (x : Nat) => !Go.Proofs.YtcnalhganahiiaaGreatDoor.mayB x) Bool.true { data := { toList := x0 } } < (0 : Int)))) (.r (Bool.false)))
noncomputable def g_text_Utf8 (x0 : List UInt8) : Option (Bool) := (T_text_Utf8 x0).val
set_option maxRecDepth 100000 in
theorem c_text_Utf8 (ls : List AV) (Rv : Bool → Prop) : callA E_text_Utf8 Tryz.f114 (instL ls P_text_Utf8 0) [] (outP O_text_Utf8 fun ls => Rv (tup_text_Utf8 ls)) = (T_text_Utf8 (getS (ls.getD 0 .junk))).fold False Rv := by kernel_rfl
noncomputable def S_text_Utf8 : Go.Cx.Spec := pureS (patF P_text_Utf8 fun ls => opt (g_text_Utf8 (getS (ls.getD 0 .junk))) fun x => .r (res_text_Utf8 x))
set_option maxRecDepth 100000 in
theorem S_text_Utf8_ok : Sound Tryz.prog 114 S_text_Utf8 :=
  pure_flat (E := E_text_Utf8) (TblOK.enK TYsG612t_ok _ _ _ _ _) mixed rfl Tryz.func114 (c := Tryz.f114.body.getD .skip) (by kernel_rfl) (by kernel_rfl) (pats := P_text_Utf8) (O := O_text_Utf8) (tup := tup_text_Utf8) (res := res_text_Utf8) (g := fun ls => g_text_Utf8 (getS (ls.getD 0 .junk))) (T := fun ls => T_text_Utf8 (getS (ls.getD 0 .junk))) (fun _ => rfl) (fun ls => by kernel_rfl) c_text_Utf8
noncomputable def TYsG613t : FuncId → Option Go.Cx.Spec := addT TYsG612t 114 S_text_Utf8
theorem TYsG613t_ok : TblOK Tryz.prog TYsG613t := TYsG612t_ok.add S_text_Utf8_ok
noncomputable def E_text_Runes : En := enK Tryz.prog TYsG613t [] [] [] [] 0
def P_text_Runes : List Pat := [.leaf .str]
def O_text_Runes : Pat := .leaf (.int .i64)
def tup_text_Runes : List AV → Int := fun ls => getI (ls.getD 0 .junk)
def res_text_Runes : Int → AV := fun x => .int .i64 (x)
noncomputable def T_text_Runes (x0 : List UInt8) : Tr (Int) := (opt (Go.Proofs.YtcnalhganahiiaaGreatDoor.g_text_Utf8 x0) fun (y0 : Bool) => (.c (!y0) (.r ((0 : Int))) (.c (Decidable.decide (List.length x0 < (70368744177664 : Nat))) (.r ((↑(Go.Lib.runeCountL x0) : Int))) .bad)))
noncomputable def g_text_Runes (x0 : List UInt8) : Option (Int) := (T_text_Runes x0).val
set_option maxRecDepth 100000 in
theorem c_text_Runes (ls : List AV) (Rv : Int → Prop) : callA E_text_Runes Tryz.f113 (instL ls P_text_Runes 0) [] (outP O_text_Runes fun ls => Rv (tup_text_Runes ls)) = (T_text_Runes (getS (ls.getD 0 .junk))).fold False Rv := by kernel_rfl
noncomputable def S_text_Runes : Go.Cx.Spec := pureS (patF P_text_Runes fun ls => opt (g_text_Runes (getS (ls.getD 0 .junk))) fun x => .r (res_text_Runes x))
set_option maxRecDepth 100000 in
theorem S_text_Runes_ok : Sound Tryz.prog 113 S_text_Runes :=
  pure_flat (E := E_text_Runes) (TblOK.enK TYsG613t_ok _ _ _ _ _) mixed rfl Tryz.func113 (c := Tryz.f113.body.getD .skip) (by kernel_rfl) (by kernel_rfl) (pats := P_text_Runes) (O := O_text_Runes) (tup := tup_text_Runes) (res := res_text_Runes) (g := fun ls => g_text_Runes (getS (ls.getD 0 .junk))) (T := fun ls => T_text_Runes (getS (ls.getD 0 .junk))) (fun _ => rfl) (fun ls => by kernel_rfl) c_text_Runes
noncomputable def TYsG614t : FuncId → Option Go.Cx.Spec := addT TYsG613t 113 S_text_Runes
theorem TYsG614t_ok : TblOK Tryz.prog TYsG614t := TYsG613t_ok.add S_text_Runes_ok
noncomputable def E_text_span_has : En := enK Tryz.prog TYsG614t [] [] [] [] 0
def P_text_span_has : List Pat := [.agg [.leaf (.int .u8), .leaf (.int .u8)], .leaf (.int .u8)]
def O_text_span_has : Pat := .leaf .bool
def tup_text_span_has : List AV → Bool := fun ls => getB (ls.getD 0 .junk)
def res_text_span_has : Bool → AV := fun x => .bool (x)
noncomputable def T_text_span_has (x0 : Int) (x1 : Int) (x2 : Int) : Tr (Bool) := (.c (Decidable.decide (x2 ≥ x0)) (.r (Decidable.decide (x2 ≤ x1))) (.r (Bool.false)))
noncomputable def g_text_span_has (x0 : Int) (x1 : Int) (x2 : Int) : Option (Bool) := (T_text_span_has x0 x1 x2).val
set_option maxRecDepth 100000 in
theorem c_text_span_has (ls : List AV) (Rv : Bool → Prop) : callA E_text_span_has Tryz.f116 (instL ls P_text_span_has 0) [] (outP O_text_span_has fun ls => Rv (tup_text_span_has ls)) = (T_text_span_has (getI (ls.getD 0 .junk)) (getI (ls.getD 1 .junk)) (getI (ls.getD 2 .junk))).fold False Rv := by kernel_rfl
noncomputable def S_text_span_has : Go.Cx.Spec := pureS (patF P_text_span_has fun ls => opt (g_text_span_has (getI (ls.getD 0 .junk)) (getI (ls.getD 1 .junk)) (getI (ls.getD 2 .junk))) fun x => .r (res_text_span_has x))
set_option maxRecDepth 100000 in
theorem S_text_span_has_ok : Sound Tryz.prog 116 S_text_span_has :=
  pure_flat (E := E_text_span_has) (TblOK.enK TYsG614t_ok _ _ _ _ _) mixed rfl Tryz.func116 (c := Tryz.f116.body.getD .skip) (by kernel_rfl) (by kernel_rfl) (pats := P_text_span_has) (O := O_text_span_has) (tup := tup_text_span_has) (res := res_text_span_has) (g := fun ls => g_text_span_has (getI (ls.getD 0 .junk)) (getI (ls.getD 1 .junk)) (getI (ls.getD 2 .junk))) (T := fun ls => T_text_span_has (getI (ls.getD 0 .junk)) (getI (ls.getD 1 .junk)) (getI (ls.getD 2 .junk))) (fun _ => rfl) (fun ls => by kernel_rfl) c_text_span_has
noncomputable def TYsG615t : FuncId → Option Go.Cx.Spec := addT TYsG614t 116 S_text_span_has
theorem TYsG615t_ok : TblOK Tryz.prog TYsG615t := TYsG614t_ok.add S_text_span_has_ok
noncomputable def E_text_all_0l1 : En := enK Tryz.prog TYsG615t [] [(2, ⟨[2, 3, 4, 5, 6, 7, 8, 9, 12, 13, 14, 15, 16, 17, 18, 19, 20, 21, 22, 23, 24, 25, 26, 27, 28, 29, 30, 31], [], [], none, [], [], [], [], true⟩), (6, ⟨[2, 3, 4, 7, 8, 9, 12, 13, 17, 18, 19, 20, 21, 22, 23, 24, 25, 26, 27, 28, 29, 30, 31], [], [], none, [], [], [], [], true⟩)] [] [] 0
def P_text_all_0l1 : List Pat := [.leaf .str, .sl [.func 116 [.agg [.leaf (.int .u8), .leaf (.int .u8)]] []]]
def O_text_all_0l1 : Pat := .leaf .bool
def tup_text_all_0l1 : List AV → Bool := fun ls => getB (ls.getD 0 .junk)
def res_text_all_0l1 : Bool → AV := fun x => .bool (x)
noncomputable def T_text_all_0l1 (x0 : List UInt8) (x1 : Int) (x2 : Int) : Tr (((Int) ⊕ (Int) ⊕ (Bool × Int)) ⊕ (Bool)) := (.r (.inl (.inl ((0 : Int)))))
noncomputable def M_text_all_0l1 (x0 : List UInt8) (x1 : Int) (x2 : Int) : (Int) ⊕ (Int) ⊕ (Bool × Int) → Tr (((Int) ⊕ (Int) ⊕ (Bool × Int)) ⊕ (Bool))
  | .inl (i0) => (.c (Decidable.decide (i0 < (↑(List.length x0) : Int))) (.r (.inl (.inr (.inl (i0))))) (.r (.inr (Bool.true))))
  | .inr (.inl (i1)) => (.c (Decidable.decide ((0 : Int) ≤ i1)) (.c (Decidable.decide (i1 < (↑(List.length x0) : Int))) (opt (Go.Proofs.YtcnalhganahiiaaGreatDoor.g_text_span_has x1 x2 (↑(UInt8.toNat (List.getD x0 (Int.toNat i1) (0 : UInt8))) : Int)) fun (y0 : Bool) => (.r (.inl (.inr (.inr ((y0, i1))))))) .bad) .bad)
  | .inr (.inr ((b0, i2))) => (.c (!b0) (.r (.inr (Bool.false))) (.r (.inl (.inl (Go.IntKind.wrap Go.IntKind.i64 (i2 + (1 : Int)))))))
noncomputable def g_text_all_0l1 (x0 : List UInt8) (x1 : Int) (x2 : Int) : Option (Bool) := run (M_text_all_0l1 x0 x1 x2) (T_text_all_0l1 x0 x1 x2)
noncomputable def b_text_all_0l1 := Tryz.f115.body.getD .skip
noncomputable def st_text_all_0l1_0 (x0 : List UInt8) (x1 : Int) (x2 : Int) (i0 : Int) : St := ⟨[Go.Cx.AV.str x0, Go.Cx.AV.slice (1 : Nat) Go.Cx.Sh.any [Go.Cx.AV.func (116 : Nat) [Go.Cx.AV.agg [Go.Cx.AV.int Go.IntKind.u8 x1, Go.Cx.AV.int Go.IntKind.u8 x2]] []] Go.Cx.SK.ro, Go.Cx.AV.junk, Go.Cx.AV.junk, Go.Cx.AV.junk, Go.Cx.AV.junk, Go.Cx.AV.junk, Go.Cx.AV.junk, Go.Cx.AV.junk, Go.Cx.AV.junk, Go.Cx.AV.int Go.IntKind.i64 (↑(List.length x0) : Int), Go.Cx.AV.int Go.IntKind.i64 i0, Go.Cx.AV.junk, Go.Cx.AV.junk, Go.Cx.AV.junk, Go.Cx.AV.junk, Go.Cx.AV.junk, Go.Cx.AV.junk, Go.Cx.AV.junk, Go.Cx.AV.junk, Go.Cx.AV.junk, Go.Cx.AV.junk, Go.Cx.AV.junk, Go.Cx.AV.junk, Go.Cx.AV.junk, Go.Cx.AV.junk, Go.Cx.AV.junk, Go.Cx.AV.junk, Go.Cx.AV.junk, Go.Cx.AV.junk, Go.Cx.AV.junk, Go.Cx.AV.junk], []⟩
noncomputable def st_text_all_0l1_1 (x0 : List UInt8) (x1 : Int) (x2 : Int) (i1 : Int) : St := ⟨[Go.Cx.AV.str x0, Go.Cx.AV.slice (1 : Nat) Go.Cx.Sh.any [Go.Cx.AV.func (116 : Nat) [Go.Cx.AV.agg [Go.Cx.AV.int Go.IntKind.u8 x1, Go.Cx.AV.int Go.IntKind.u8 x2]] []] Go.Cx.SK.ro, Go.Cx.AV.junk, Go.Cx.AV.junk, Go.Cx.AV.junk, Go.Cx.AV.int Go.IntKind.i64 i1, Go.Cx.AV.bool Bool.false, Go.Cx.AV.junk, Go.Cx.AV.junk, Go.Cx.AV.junk, Go.Cx.AV.int Go.IntKind.i64 (↑(List.length x0) : Int), Go.Cx.AV.int Go.IntKind.i64 i1, Go.Cx.AV.junk, Go.Cx.AV.junk, Go.Cx.AV.slice (1 : Nat) Go.Cx.Sh.any [Go.Cx.AV.func (116 : Nat) [Go.Cx.AV.agg [Go.Cx.AV.int Go.IntKind.u8 x1, Go.Cx.AV.int Go.IntKind.u8 x2]] []] Go.Cx.SK.ro, Go.Cx.AV.int Go.IntKind.i64 (1 : Int), Go.Cx.AV.int Go.IntKind.i64 (0 : Int), Go.Cx.AV.junk, Go.Cx.AV.junk, Go.Cx.AV.junk, Go.Cx.AV.junk, Go.Cx.AV.junk, Go.Cx.AV.junk, Go.Cx.AV.junk, Go.Cx.AV.junk, Go.Cx.AV.junk, Go.Cx.AV.junk, Go.Cx.AV.junk, Go.Cx.AV.junk, Go.Cx.AV.junk, Go.Cx.AV.junk, Go.Cx.AV.junk], []⟩
noncomputable def st_text_all_0l1_2 (x0 : List UInt8) (x1 : Int) (x2 : Int) (b0 : Bool) (i2 : Int) : St := ⟨[Go.Cx.AV.str x0, Go.Cx.AV.slice (1 : Nat) Go.Cx.Sh.any [Go.Cx.AV.func (116 : Nat) [Go.Cx.AV.agg [Go.Cx.AV.int Go.IntKind.u8 x1, Go.Cx.AV.int Go.IntKind.u8 x2]] []] Go.Cx.SK.ro, Go.Cx.AV.junk, Go.Cx.AV.junk, Go.Cx.AV.junk, Go.Cx.AV.int Go.IntKind.i64 i2, Go.Cx.AV.bool b0, Go.Cx.AV.junk, Go.Cx.AV.junk, Go.Cx.AV.junk, Go.Cx.AV.int Go.IntKind.i64 (↑(List.length x0) : Int), Go.Cx.AV.int Go.IntKind.i64 i2, Go.Cx.AV.junk, Go.Cx.AV.junk, Go.Cx.AV.slice (1 : Nat) Go.Cx.Sh.any [Go.Cx.AV.func (116 : Nat) [Go.Cx.AV.agg [Go.Cx.AV.int Go.IntKind.u8 x1, Go.Cx.AV.int Go.IntKind.u8 x2]] []] Go.Cx.SK.ro, Go.Cx.AV.int Go.IntKind.i64 (1 : Int), Go.Cx.AV.int Go.IntKind.i64 (1 : Int), Go.Cx.AV.junk, Go.Cx.AV.junk, Go.Cx.AV.junk, Go.Cx.AV.junk, Go.Cx.AV.junk, Go.Cx.AV.junk, Go.Cx.AV.junk, Go.Cx.AV.junk, Go.Cx.AV.junk, Go.Cx.AV.junk, Go.Cx.AV.junk, Go.Cx.AV.junk, Go.Cx.AV.junk, Go.Cx.AV.junk, Go.Cx.AV.junk], []⟩
noncomputable def L_text_all_0l1 (x0 : List UInt8) (x1 : Int) (x2 : Int) (Rv : Bool → Prop) : (Int) ⊕ (Int) ⊕ (Bool × Int) → Prop
  | .inl (i0) => headL E_text_all_0l1 [.r, .l, .r, .d] b_text_all_0l1 1000 (bodyK E_text_all_0l1 Tryz.f115 (outP O_text_all_0l1 fun ls => Rv (tup_text_all_0l1 ls))) (st_text_all_0l1_0 x0 x1 x2 i0)
  | .inr (.inl (i1)) => headL E_text_all_0l1 [.r, .l, .r, .d, .o 1000, .r, .r, .l, .d, .r, .r, .l, .r, .d] b_text_all_0l1 1000 (bodyK E_text_all_0l1 Tryz.f115 (outP O_text_all_0l1 fun ls => Rv (tup_text_all_0l1 ls))) (st_text_all_0l1_1 x0 x1 x2 i1)
  | .inr (.inr ((b0, i2))) => headL E_text_all_0l1 [.r, .l, .r, .d, .o 1000, .r, .r, .l, .d, .r, .r, .l, .r, .d] b_text_all_0l1 1000 (bodyK E_text_all_0l1 Tryz.f115 (outP O_text_all_0l1 fun ls => Rv (tup_text_all_0l1 ls))) (st_text_all_0l1_2 x0 x1 x2 b0 i2)
set_option maxRecDepth 100000 in
theorem l_text_all_0l1_0 (x0 : List UInt8) (x1 : Int) (x2 : Int) (Rv : Bool → Prop) (i0 : Int) : stepL E_text_all_0l1 [.r, .l, .r, .d] b_text_all_0l1 1000 (bodyK E_text_all_0l1 Tryz.f115 (outP O_text_all_0l1 fun ls => Rv (tup_text_all_0l1 ls))) (st_text_all_0l1_0 x0 x1 x2 i0) =
  (M_text_all_0l1 x0 x1 x2 (.inl (i0))).fold False (Sum.elim (L_text_all_0l1 x0 x1 x2 Rv) Rv) := by kernel_rfl
set_option maxRecDepth 100000 in
theorem l_text_all_0l1_1 (x0 : List UInt8) (x1 : Int) (x2 : Int) (Rv : Bool → Prop) (i1 : Int) : stepL E_text_all_0l1 [.r, .l, .r, .d, .o 1000, .r, .r, .l, .d, .r, .r, .l, .r, .d] b_text_all_0l1 1000 (bodyK E_text_all_0l1 Tryz.f115 (outP O_text_all_0l1 fun ls => Rv (tup_text_all_0l1 ls))) (st_text_all_0l1_1 x0 x1 x2 i1) =
  (M_text_all_0l1 x0 x1 x2 (.inr (.inl (i1)))).fold False (Sum.elim (L_text_all_0l1 x0 x1 x2 Rv) Rv) := by kernel_rfl
set_option maxRecDepth 100000 in
theorem l_text_all_0l1_2 (x0 : List UInt8) (x1 : Int) (x2 : Int) (Rv : Bool → Prop) (b0 : Bool) (i2 : Int) : stepL E_text_all_0l1 [.r, .l, .r, .d, .o 1000, .r, .r, .l, .d, .r, .r, .l, .r, .d] b_text_all_0l1 1000 (bodyK E_text_all_0l1 Tryz.f115 (outP O_text_all_0l1 fun ls => Rv (tup_text_all_0l1 ls))) (st_text_all_0l1_2 x0 x1 x2 b0 i2) =
  (M_text_all_0l1 x0 x1 x2 (.inr (.inr ((b0, i2))))).fold False (Sum.elim (L_text_all_0l1 x0 x1 x2 Rv) Rv) := by kernel_rfl
set_option maxRecDepth 100000 in
theorem e_text_all_0l1_0 (x0 : List UInt8) (x1 : Int) (x2 : Int) (Rv : Bool → Prop) (i0 : Int) : L_text_all_0l1 x0 x1 x2 Rv (.inl (i0)) = headL E_text_all_0l1 [.r, .l, .r, .d] b_text_all_0l1 1000 (bodyK E_text_all_0l1 Tryz.f115 (outP O_text_all_0l1 fun ls => Rv (tup_text_all_0l1 ls))) (st_text_all_0l1_0 x0 x1 x2 i0) := by kernel_rfl
set_option maxRecDepth 100000 in
theorem e_text_all_0l1_1 (x0 : List UInt8) (x1 : Int) (x2 : Int) (Rv : Bool → Prop) (i1 : Int) : L_text_all_0l1 x0 x1 x2 Rv (.inr (.inl (i1))) = headL E_text_all_0l1 [.r, .l, .r, .d, .o 1000, .r, .r, .l, .d, .r, .r, .l, .r, .d] b_text_all_0l1 1000 (bodyK E_text_all_0l1 Tryz.f115 (outP O_text_all_0l1 fun ls => Rv (tup_text_all_0l1 ls))) (st_text_all_0l1_1 x0 x1 x2 i1) := by kernel_rfl
set_option maxRecDepth 100000 in
theorem e_text_all_0l1_2 (x0 : List UInt8) (x1 : Int) (x2 : Int) (Rv : Bool → Prop) (b0 : Bool) (i2 : Int) : L_text_all_0l1 x0 x1 x2 Rv (.inr (.inr ((b0, i2)))) = headL E_text_all_0l1 [.r, .l, .r, .d, .o 1000, .r, .r, .l, .d, .r, .r, .l, .r, .d] b_text_all_0l1 1000 (bodyK E_text_all_0l1 Tryz.f115 (outP O_text_all_0l1 fun ls => Rv (tup_text_all_0l1 ls))) (st_text_all_0l1_2 x0 x1 x2 b0 i2) := by kernel_rfl
section
attribute [local irreducible] Tr.fold M_text_all_0l1 L_text_all_0l1 T_text_all_0l1 E_text_all_0l1 b_text_all_0l1 bodyK headC headL stepC stepL wpX callA
set_option maxRecDepth 100000 in
theorem h_text_all_0l1 (x0 : List UInt8) (x1 : Int) (x2 : Int) (Rv : Bool → Prop) : ∀ s, (M_text_all_0l1 x0 x1 x2 s).fold False (Sum.elim (L_text_all_0l1 x0 x1 x2 Rv) Rv) → L_text_all_0l1 x0 x1 x2 Rv s := by
  rintro (v0 | v0 | ⟨v0, v1⟩)
  · exact fun h => Eq.mpr (e_text_all_0l1_0 x0 x1 x2 Rv v0) (headL_of (Eq.mpr (l_text_all_0l1_0 x0 x1 x2 Rv v0) h))
  · exact fun h => Eq.mpr (e_text_all_0l1_1 x0 x1 x2 Rv v0) (headL_of (Eq.mpr (l_text_all_0l1_1 x0 x1 x2 Rv v0) h))
  · exact fun h => Eq.mpr (e_text_all_0l1_2 x0 x1 x2 Rv v0 v1) (headL_of (Eq.mpr (l_text_all_0l1_2 x0 x1 x2 Rv v0 v1) h))
set_option maxRecDepth 100000 in
theorem c_text_all_0l1 (ls : List AV) (Rv : Bool → Prop) : callA E_text_all_0l1 Tryz.f115 (instL ls P_text_all_0l1 0) [] (outP O_text_all_0l1 fun ls => Rv (tup_text_all_0l1 ls)) = (T_text_all_0l1 (getS (ls.getD 0 .junk)) (getI (ls.getD 1 .junk)) (getI (ls.getD 2 .junk))).fold False (Sum.elim (L_text_all_0l1 (getS (ls.getD 0 .junk)) (getI (ls.getD 1 .junk)) (getI (ls.getD 2 .junk)) Rv) Rv) := by kernel_rfl
end
noncomputable def S_text_all_0l1 : Go.Cx.Spec := pureS (patF P_text_all_0l1 fun ls => opt (g_text_all_0l1 (getS (ls.getD 0 .junk)) (getI (ls.getD 1 .junk)) (getI (ls.getD 2 .junk))) fun x => .r (res_text_all_0l1 x))
set_option maxRecDepth 100000 in
theorem S_text_all_0l1_ok : Sound Tryz.prog 115 S_text_all_0l1 :=
  pure_mach (E := E_text_all_0l1) (TblOK.enK TYsG615t_ok _ _ _ _ _) mixed rfl Tryz.func115 (c := Tryz.f115.body.getD .skip) (by kernel_rfl) (by kernel_rfl) (pats := P_text_all_0l1) (O := O_text_all_0l1) (tup := tup_text_all_0l1) (res := res_text_all_0l1) (g := fun ls => g_text_all_0l1 (getS (ls.getD 0 .junk)) (getI (ls.getD 1 .junk)) (getI (ls.getD 2 .junk))) (T := fun ls => T_text_all_0l1 (getS (ls.getD 0 .junk)) (getI (ls.getD 1 .junk)) (getI (ls.getD 2 .junk))) (step := fun ls => M_text_all_0l1 (getS (ls.getD 0 .junk)) (getI (ls.getD 1 .junk)) (getI (ls.getD 2 .junk))) (L := fun ls => L_text_all_0l1 (getS (ls.getD 0 .junk)) (getI (ls.getD 1 .junk)) (getI (ls.getD 2 .junk))) (fun _ => rfl) (fun ls => by kernel_rfl) c_text_all_0l1 (fun ls Rv => h_text_all_0l1 (getS (ls.getD 0 .junk)) (getI (ls.getD 1 .junk)) (getI (ls.getD 2 .junk)) Rv)
noncomputable def TYsG616t : FuncId → Option Go.Cx.Spec := addT TYsG615t 115 S_text_all_0l1
theorem TYsG616t_ok : TblOK Tryz.prog TYsG616t := TYsG615t_ok.add S_text_all_0l1_ok
noncomputable def E_text_Plain : En := enK Tryz.prog TYsG616t [] [] [] [] 0
def P_text_Plain : List Pat := [.leaf .str, .leaf (.int .i64), .leaf (.int .i64)]
def O_text_Plain : Pat := .leaf .bool
def tup_text_Plain : List AV → Bool := fun ls => getB (ls.getD 0 .junk)
def res_text_Plain : Bool → AV := fun x => .bool (x)
noncomputable def T_text_Plain (x0 : List UInt8) (x1 : Int) (x2 : Int) : Tr (Bool) := (opt (Go.Proofs.YtcnalhganahiiaaGreatDoor.g_text_Runes x0) fun (y0 : Int) => (opt (Go.Proofs.YtcnalhganahiiaaGreatDoor.g_text_Utf8 x0) fun (y1 : Bool) => (.c (y1) (.c (Decidable.decide (y0 ≥ x1)) (.c (Decidable.decide (y0 ≤ x2)) (opt (Go.Proofs.YtcnalhganahiiaaGreatDoor.g_text_all_0l1 x0 (32 : Int) (255 : Int)) fun (y2 : Bool) => (.c (y2) (.c (!Go.Lib.hasPrefix x0 [(32 : UInt8)]) (.r (!Go.Lib.hasSuffix x0 [(32 : UInt8)])) (.r (Bool.false))) (.r (Bool.false)))) (.r (Bool.false))) (.r (Bool.false))) (.r (Bool.false)))))
noncomputable def g_text_Plain (x0 : List UInt8) (x1 : Int) (x2 : Int) : Option (Bool) := (T_text_Plain x0 x1 x2).val
set_option maxRecDepth 100000 in
theorem c_text_Plain (ls : List AV) (Rv : Bool → Prop) : callA E_text_Plain Tryz.f88 (instL ls P_text_Plain 0) [] (outP O_text_Plain fun ls => Rv (tup_text_Plain ls)) = (T_text_Plain (getS (ls.getD 0 .junk)) (getI (ls.getD 1 .junk)) (getI (ls.getD 2 .junk))).fold False Rv := by kernel_rfl
noncomputable def S_text_Plain : Go.Cx.Spec := pureS (patF P_text_Plain fun ls => opt (g_text_Plain (getS (ls.getD 0 .junk)) (getI (ls.getD 1 .junk)) (getI (ls.getD 2 .junk))) fun x => .r (res_text_Plain x))
set_option maxRecDepth 100000 in
theorem S_text_Plain_ok : Sound Tryz.prog 88 S_text_Plain :=
  pure_flat (E := E_text_Plain) (TblOK.enK TYsG616t_ok _ _ _ _ _) mixed rfl Tryz.func88 (c := Tryz.f88.body.getD .skip) (by kernel_rfl) (by kernel_rfl) (pats := P_text_Plain) (O := O_text_Plain) (tup := tup_text_Plain) (res := res_text_Plain) (g := fun ls => g_text_Plain (getS (ls.getD 0 .junk)) (getI (ls.getD 1 .junk)) (getI (ls.getD 2 .junk))) (T := fun ls => T_text_Plain (getS (ls.getD 0 .junk)) (getI (ls.getD 1 .junk)) (getI (ls.getD 2 .junk))) (fun _ => rfl) (fun ls => by kernel_rfl) c_text_Plain
noncomputable def TYsG617t : FuncId → Option Go.Cx.Spec := addT TYsG616t 88 S_text_Plain
theorem TYsG617t_ok : TblOK Tryz.prog TYsG617t := TYsG616t_ok.add S_text_Plain_ok
noncomputable def E_simple_rule_text : En := enK Tryz.prog TYsG617t [] [] [] [] 0
def P_simple_rule_text : List Pat := [.agg [.leaf .str, .leaf (.int .i64), .leaf (.int .i64), .leaf (.int .i64), .leaf (.int .i64), .leaf (.int .i64)], .leaf .str]
def O_simple_rule_text : Pat := .leaf .bool
def tup_simple_rule_text : List AV → Bool := fun ls => getB (ls.getD 0 .junk)
def res_simple_rule_text : Bool → AV := fun x => .bool (x)
noncomputable def T_simple_rule_text (x0 : List UInt8) (x1 : Int) (x2 : Int) (x3 : Int) (x4 : Int) (x5 : Int) (x6 : List UInt8) : Tr (Bool) := (opt (Go.Proofs.YtcnalhganahiiaaGreatDoor.g_text_Plain x6 x4 x5) fun (y0 : Bool) => (.r (y0)))
noncomputable def g_simple_rule_text (x0 : List UInt8) (x1 : Int) (x2 : Int) (x3 : Int) (x4 : Int) (x5 : Int) (x6 : List UInt8) : Option (Bool) := (T_simple_rule_text x0 x1 x2 x3 x4 x5 x6).val
set_option maxRecDepth 100000 in
theorem c_simple_rule_text (ls : List AV) (Rv : Bool → Prop) : callA E_simple_rule_text Tryz.f63 (instL ls P_simple_rule_text 0) [] (outP O_simple_rule_text fun ls => Rv (tup_simple_rule_text ls)) = (T_simple_rule_text (getS (ls.getD 0 .junk)) (getI (ls.getD 1 .junk)) (getI (ls.getD 2 .junk)) (getI (ls.getD 3 .junk)) (getI (ls.getD 4 .junk)) (getI (ls.getD 5 .junk)) (getS (ls.getD 6 .junk))).fold False Rv := by kernel_rfl
noncomputable def S_simple_rule_text : Go.Cx.Spec := pureS (patF P_simple_rule_text fun ls => opt (g_simple_rule_text (getS (ls.getD 0 .junk)) (getI (ls.getD 1 .junk)) (getI (ls.getD 2 .junk)) (getI (ls.getD 3 .junk)) (getI (ls.getD 4 .junk)) (getI (ls.getD 5 .junk)) (getS (ls.getD 6 .junk))) fun x => .r (res_simple_rule_text x))
set_option maxRecDepth 100000 in
theorem S_simple_rule_text_ok : Sound Tryz.prog 63 S_simple_rule_text :=
  pure_flat (E := E_simple_rule_text) (TblOK.enK TYsG617t_ok _ _ _ _ _) mixed rfl Tryz.func63 (c := Tryz.f63.body.getD .skip) (by kernel_rfl) (by kernel_rfl) (pats := P_simple_rule_text) (O := O_simple_rule_text) (tup := tup_simple_rule_text) (res := res_simple_rule_text) (g := fun ls => g_simple_rule_text (getS (ls.getD 0 .junk)) (getI (ls.getD 1 .junk)) (getI (ls.getD 2 .junk)) (getI (ls.getD 3 .junk)) (getI (ls.getD 4 .junk)) (getI (ls.getD 5 .junk)) (getS (ls.getD 6 .junk))) (T := fun ls => T_simple_rule_text (getS (ls.getD 0 .junk)) (getI (ls.getD 1 .junk)) (getI (ls.getD 2 .junk)) (getI (ls.getD 3 .junk)) (getI (ls.getD 4 .junk)) (getI (ls.getD 5 .junk)) (getS (ls.getD 6 .junk))) (fun _ => rfl) (fun ls => by kernel_rfl) c_simple_rule_text
noncomputable def TYsG618t : FuncId → Option Go.Cx.Spec := addT TYsG617t 63 S_simple_rule_text
theorem TYsG618t_ok : TblOK Tryz.prog TYsG618t := TYsG617t_ok.add S_simple_rule_text_ok
noncomputable def E_simple_capitals : En := enK Tryz.prog TYsG618t [] [] [] [] 0
def P_simple_capitals : List Pat := [.leaf .str]
def O_simple_capitals : Pat := .leaf .bool
def tup_simple_capitals : List AV → Bool := fun ls => getB (ls.getD 0 .junk)
def res_simple_capitals : Bool → AV := fun x => .bool (x)
noncomputable def T_simple_capitals (x0 : List UInt8) : Tr (Bool) := (.c ((↑(List.length x0) : Int) == (4 : Int)) (.r (Go.Lib.trimS x0 [(65 : UInt8), (66 : UInt8), (67 : UInt8), (68 : UInt8), (69 : UInt8), (70 : UInt8), (71 : UInt8), (72 : UInt8), (73 : UInt8), (74 : UInt8), (75 : UInt8), (76 : UInt8), (77 : UInt8), (78 : UInt8), (79 : UInt8), (80 : UInt8), (81 : UInt8), (82 : UInt8), (83 : UInt8), (84 : UInt8), (85 : UInt8), (86 : UInt8), (87 : UInt8), (88 : UInt8), (89 : UInt8), (90 : UInt8)] == [])) (.r (Bool.false)))
noncomputable def g_simple_capitals (x0 : List UInt8) : Option (Bool) := (T_simple_capitals x0).val
set_option maxRecDepth 100000 in
theorem c_simple_capitals (ls : List AV) (Rv : Bool → Prop) : callA E_simple_capitals Tryz.f89 (instL ls P_simple_capitals 0) [] (outP O_simple_capitals fun ls => Rv (tup_simple_capitals ls)) = (T_simple_capitals (getS (ls.getD 0 .junk))).fold False Rv := by kernel_rfl
noncomputable def S_simple_capitals : Go.Cx.Spec := pureS (patF P_simple_capitals fun ls => opt (g_simple_capitals (getS (ls.getD 0 .junk))) fun x => .r (res_simple_capitals x))
set_option maxRecDepth 100000 in
theorem S_simple_capitals_ok : Sound Tryz.prog 89 S_simple_capitals :=
  pure_flat (E := E_simple_capitals) (TblOK.enK TYsG618t_ok _ _ _ _ _) mixed rfl Tryz.func89 (c := Tryz.f89.body.getD .skip) (by kernel_rfl) (by kernel_rfl) (pats := P_simple_capitals) (O := O_simple_capitals) (tup := tup_simple_capitals) (res := res_simple_capitals) (g := fun ls => g_simple_capitals (getS (ls.getD 0 .junk))) (T := fun ls => T_simple_capitals (getS (ls.getD 0 .junk))) (fun _ => rfl) (fun ls => by kernel_rfl) c_simple_capitals
noncomputable def TYsG619t : FuncId → Option Go.Cx.Spec := addT TYsG618t 89 S_simple_capitals
theorem TYsG619t_ok : TblOK Tryz.prog TYsG619t := TYsG618t_ok.add S_simple_capitals_ok
noncomputable def E_simple_rule_code : En := enK Tryz.prog TYsG619t [] [] [] [] 0
def P_simple_rule_code : List Pat := [.agg [.leaf .str, .leaf (.int .i64), .leaf (.int .i64), .leaf (.int .i64), .leaf (.int .i64), .leaf (.int .i64)], .leaf .str]
def O_simple_rule_code : Pat := .leaf .bool
def tup_simple_rule_code : List AV → Bool := fun ls => getB (ls.getD 0 .junk)
def res_simple_rule_code : Bool → AV := fun x => .bool (x)
noncomputable def T_simple_rule_code (x0 : List UInt8) (x1 : Int) (x2 : Int) (x3 : Int) (x4 : Int) (x5 : Int) (x6 : List UInt8) : Tr (Bool) := (opt (Go.Proofs.YtcnalhganahiiaaGreatDoor.g_simple_capitals x6) fun (y0 : Bool) => (.r (y0)))
noncomputable def g_simple_rule_code (x0 : List UInt8) (x1 : Int) (x2 : Int) (x3 : Int) (x4 : Int) (x5 : Int) (x6 : List UInt8) : Option (Bool) := (T_simple_rule_code x0 x1 x2 x3 x4 x5 x6).val
set_option maxRecDepth 100000 in
theorem c_simple_rule_code (ls : List AV) (Rv : Bool → Prop) : callA E_simple_rule_code Tryz.f64 (instL ls P_simple_rule_code 0) [] (outP O_simple_rule_code fun ls => Rv (tup_simple_rule_code ls)) = (T_simple_rule_code (getS (ls.getD 0 .junk)) (getI (ls.getD 1 .junk)) (getI (ls.getD 2 .junk)) (getI (ls.getD 3 .junk)) (getI (ls.getD 4 .junk)) (getI (ls.getD 5 .junk)) (getS (ls.getD 6 .junk))).fold False Rv := by kernel_rfl
noncomputable def S_simple_rule_code : Go.Cx.Spec := pureS (patF P_simple_rule_code fun ls => opt (g_simple_rule_code (getS (ls.getD 0 .junk)) (getI (ls.getD 1 .junk)) (getI (ls.getD 2 .junk)) (getI (ls.getD 3 .junk)) (getI (ls.getD 4 .junk)) (getI (ls.getD 5 .junk)) (getS (ls.getD 6 .junk))) fun x => .r (res_simple_rule_code x))
set_option maxRecDepth 100000 in
theorem S_simple_rule_code_ok : Sound Tryz.prog 64 S_simple_rule_code :=
  pure_flat (E := E_simple_rule_code) (TblOK.enK TYsG619t_ok _ _ _ _ _) mixed rfl Tryz.func64 (c := Tryz.f64.body.getD .skip) (by kernel_rfl) (by kernel_rfl) (pats := P_simple_rule_code) (O := O_simple_rule_code) (tup := tup_simple_rule_code) (res := res_simple_rule_code) (g := fun ls => g_simple_rule_code (getS (ls.getD 0 .junk)) (getI (ls.getD 1 .junk)) (getI (ls.getD 2 .junk)) (getI (ls.getD 3 .junk)) (getI (ls.getD 4 .junk)) (getI (ls.getD 5 .junk)) (getS (ls.getD 6 .junk))) (T := fun ls => T_simple_rule_code (getS (ls.getD 0 .junk)) (getI (ls.getD 1 .junk)) (getI (ls.getD 2 .junk)) (getI (ls.getD 3 .junk)) (getI (ls.getD 4 .junk)) (getI (ls.getD 5 .junk)) (getS (ls.getD 6 .junk))) (fun _ => rfl) (fun ls => by kernel_rfl) c_simple_rule_code
noncomputable def TYsG620t : FuncId → Option Go.Cx.Spec := addT TYsG619t 64 S_simple_rule_code
theorem TYsG620t_ok : TblOK Tryz.prog TYsG620t := TYsG619t_ok.add S_simple_rule_code_ok
noncomputable def E_text_all_0l3 : En := enK Tryz.prog TYsG620t [] [(2, ⟨[2, 3, 4, 5, 6, 7, 8, 9, 12, 13, 14, 15, 16, 17, 18, 19, 20, 21, 22, 23, 24, 25, 26, 27, 28, 29, 30, 31], [], [], none, [], [], [], [], true⟩), (6, ⟨[2, 3, 4, 7, 8, 9, 12, 13, 17, 18, 19, 20, 21, 22, 23, 24, 25, 26, 27, 28, 29, 30, 31], [], [], none, [], [], [], [], true⟩)] [] [] 0
def P_text_all_0l3 : List Pat := [.leaf .str, .sl [.func 116 [.agg [.leaf (.int .u8), .leaf (.int .u8)]] [], .func 116 [.agg [.leaf (.int .u8), .leaf (.int .u8)]] [], .func 116 [.agg [.leaf (.int .u8), .leaf (.int .u8)]] []]]
def O_text_all_0l3 : Pat := .leaf .bool
def tup_text_all_0l3 : List AV → Bool := fun ls => getB (ls.getD 0 .junk)
def res_text_all_0l3 : Bool → AV := fun x => .bool (x)
noncomputable def T_text_all_0l3 (x0 : List UInt8) (x1 : Int) (x2 : Int) (x3 : Int) (x4 : Int) (x5 : Int) (x6 : Int) : Tr (((Int) ⊕ (Int) ⊕ (Bool × Int) ⊕ (Bool × Int) ⊕ (Bool × Int)) ⊕ (Bool)) := (.r (.inl (.inl ((0 : Int)))))
noncomputable def M_text_all_0l3 (x0 : List UInt8) (x1 : Int) (x2 : Int) (x3 : Int) (x4 : Int) (x5 : Int) (x6 : Int) : (Int) ⊕ (Int) ⊕ (Bool × Int) ⊕ (Bool × Int) ⊕ (Bool × Int) → Tr (((Int) ⊕ (Int) ⊕ (Bool × Int) ⊕ (Bool × Int) ⊕ (Bool × Int)) ⊕ (Bool))
  | .inl (i0) => (.c (Decidable.decide (i0 < (↑(List.length x0) : Int))) (.r (.inl (.inr (.inl (i0))))) (.r (.inr (Bool.true))))
  | .inr (.inl (i1)) => (.c (Decidable.decide ((0 : Int) ≤ i1)) (.c (Decidable.decide (i1 < (↑(List.length x0) : Int))) (opt (Go.Proofs.YtcnalhganahiiaaGreatDoor.g_text_span_has x1 x2 (↑(UInt8.toNat (List.getD x0 (Int.toNat i1) (0 : UInt8))) : Int)) fun (y0 : Bool) => (.r (.inl (.inr (.inr (.inl ((y0, i1)))))))) .bad) .bad)
  | .inr (.inr (.inl ((b0, i2)))) => (.c (b0) (.r (.inl (.inr (.inr (.inr (.inl ((Bool.true, i2)))))))) (.c (Decidable.decide ((0 : Int) ≤ i2)) (.c (Decidable.decide (i2 < (↑(List.length x0) : Int))) (opt (Go.Proofs.YtcnalhganahiiaaGreatDoor.g_text_span_has x3 x4 (↑(UInt8.toNat (List.getD x0 (Int.toNat i2) (0 : UInt8))) : Int)) fun (y0 : Bool) => (.r (.inl (.inr (.inr (.inr (.inl ((y0, i2))))))))) .bad) .bad))
  | .inr (.inr (.inr (.inl ((b1, i3))))) => (.c (b1) (.r (.inl (.inr (.inr (.inr (.inr ((Bool.true, i3)))))))) (.c (Decidable.decide ((0 : Int) ≤ i3)) (.c (Decidable.decide (i3 < (↑(List.length x0) : Int))) (opt (Go.Proofs.YtcnalhganahiiaaGreatDoor.g_text_span_has x5 x6 (↑(UInt8.toNat (List.getD x0 (Int.toNat i3) (0 : UInt8))) : Int)) fun (y0 : Bool) => (.r (.inl (.inr (.inr (.inr (.inr ((y0, i3))))))))) .bad) .bad))
  | .inr (.inr (.inr (.inr ((b2, i4))))) => (.c (!b2) (.r (.inr (Bool.false))) (.r (.inl (.inl (Go.IntKind.wrap Go.IntKind.i64 (i4 + (1 : Int)))))))
noncomputable def g_text_all_0l3 (x0 : List UInt8) (x1 : Int) (x2 : Int) (x3 : Int) (x4 : Int) (x5 : Int) (x6 : Int) : Option (Bool) := run (M_text_all_0l3 x0 x1 x2 x3 x4 x5 x6) (T_text_all_0l3 x0 x1 x2 x3 x4 x5 x6)
noncomputable def b_text_all_0l3 := Tryz.f115.body.getD .skip
noncomputable def st_text_all_0l3_0 (x0 : List UInt8) (x1 : Int) (x2 : Int) (x3 : Int) (x4 : Int) (x5 : Int) (x6 : Int) (i0 : Int) : St := ⟨[Go.Cx.AV.str x0, Go.Cx.AV.slice (1 : Nat) Go.Cx.Sh.any [Go.Cx.AV.func (116 : Nat) [Go.Cx.AV.agg [Go.Cx.AV.int Go.IntKind.u8 x1, Go.Cx.AV.int Go.IntKind.u8 x2]] [], Go.Cx.AV.func (116 : Nat) [Go.Cx.AV.agg [Go.Cx.AV.int Go.IntKind.u8 x3, Go.Cx.AV.int Go.IntKind.u8 x4]] [], Go.Cx.AV.func (116 : Nat) [Go.Cx.AV.agg [Go.Cx.AV.int Go.IntKind.u8 x5, Go.Cx.AV.int Go.IntKind.u8 x6]] []] Go.Cx.SK.ro, Go.Cx.AV.junk, Go.Cx.AV.junk, Go.Cx.AV.junk, Go.Cx.AV.junk, Go.Cx.AV.junk, Go.Cx.AV.junk, Go.Cx.AV.junk, Go.Cx.AV.junk, Go.Cx.AV.int Go.IntKind.i64 (↑(List.length x0) : Int), Go.Cx.AV.int Go.IntKind.i64 i0, Go.Cx.AV.junk, Go.Cx.AV.junk, Go.Cx.AV.junk, Go.Cx.AV.junk, Go.Cx.AV.junk, Go.Cx.AV.junk, Go.Cx.AV.junk, Go.Cx.AV.junk, Go.Cx.AV.junk, Go.Cx.AV.junk, Go.Cx.AV.junk, Go.Cx.AV.junk, Go.Cx.AV.junk, Go.Cx.AV.junk, Go.Cx.AV.junk, Go.Cx.AV.junk, Go.Cx.AV.junk, Go.Cx.AV.junk, Go.Cx.AV.junk, Go.Cx.AV.junk], []⟩
noncomputable def st_text_all_0l3_1 (x0 : List UInt8) (x1 : Int) (x2 : Int) (x3 : Int) (x4 : Int) (x5 : Int) (x6 : Int) (i1 : Int) : St := ⟨[Go.Cx.AV.str x0, Go.Cx.AV.slice (1 : Nat) Go.Cx.Sh.any [Go.Cx.AV.func (116 : Nat) [Go.Cx.AV.agg [Go.Cx.AV.int Go.IntKind.u8 x1, Go.Cx.AV.int Go.IntKind.u8 x2]] [], Go.Cx.AV.func (116 : Nat) [Go.Cx.AV.agg [Go.Cx.AV.int Go.IntKind.u8 x3, Go.Cx.AV.int Go.IntKind.u8 x4]] [], Go.Cx.AV.func (116 : Nat) [Go.Cx.AV.agg [Go.Cx.AV.int Go.IntKind.u8 x5, Go.Cx.AV.int Go.IntKind.u8 x6]] []] Go.Cx.SK.ro, Go.Cx.AV.junk, Go.Cx.AV.junk, Go.Cx.AV.junk, Go.Cx.AV.int Go.IntKind.i64 i1, Go.Cx.AV.bool Bool.false, Go.Cx.AV.junk, Go.Cx.AV.junk, Go.Cx.AV.junk, Go.Cx.AV.int Go.IntKind.i64 (↑(List.length x0) : Int), Go.Cx.AV.int Go.IntKind.i64 i1, Go.Cx.AV.junk, Go.Cx.AV.junk, Go.Cx.AV.slice (1 : Nat) Go.Cx.Sh.any [Go.Cx.AV.func (116 : Nat) [Go.Cx.AV.agg [Go.Cx.AV.int Go.IntKind.u8 x1, Go.Cx.AV.int Go.IntKind.u8 x2]] [], Go.Cx.AV.func (116 : Nat) [Go.Cx.AV.agg [Go.Cx.AV.int Go.IntKind.u8 x3, Go.Cx.AV.int Go.IntKind.u8 x4]] [], Go.Cx.AV.func (116 : Nat) [Go.Cx.AV.agg [Go.Cx.AV.int Go.IntKind.u8 x5, Go.Cx.AV.int Go.IntKind.u8 x6]] []] Go.Cx.SK.ro, Go.Cx.AV.int Go.IntKind.i64 (3 : Int), Go.Cx.AV.int Go.IntKind.i64 (0 : Int), Go.Cx.AV.junk, Go.Cx.AV.junk, Go.Cx.AV.junk, Go.Cx.AV.junk, Go.Cx.AV.junk, Go.Cx.AV.junk, Go.Cx.AV.junk, Go.Cx.AV.junk, Go.Cx.AV.junk, Go.Cx.AV.junk, Go.Cx.AV.junk, Go.Cx.AV.junk, Go.Cx.AV.junk, Go.Cx.AV.junk, Go.Cx.AV.junk], []⟩
noncomputable def st_text_all_0l3_2 (x0 : List UInt8) (x1 : Int) (x2 : Int) (x3 : Int) (x4 : Int) (x5 : Int) (x6 : Int) (b0 : Bool) (i2 : Int) : St := ⟨[Go.Cx.AV.str x0, Go.Cx.AV.slice (1 : Nat) Go.Cx.Sh.any [Go.Cx.AV.func (116 : Nat) [Go.Cx.AV.agg [Go.Cx.AV.int Go.IntKind.u8 x1, Go.Cx.AV.int Go.IntKind.u8 x2]] [], Go.Cx.AV.func (116 : Nat) [Go.Cx.AV.agg [Go.Cx.AV.int Go.IntKind.u8 x3, Go.Cx.AV.int Go.IntKind.u8 x4]] [], Go.Cx.AV.func (116 : Nat) [Go.Cx.AV.agg [Go.Cx.AV.int Go.IntKind.u8 x5, Go.Cx.AV.int Go.IntKind.u8 x6]] []] Go.Cx.SK.ro, Go.Cx.AV.junk, Go.Cx.AV.junk, Go.Cx.AV.junk, Go.Cx.AV.int Go.IntKind.i64 i2, Go.Cx.AV.bool b0, Go.Cx.AV.junk, Go.Cx.AV.junk, Go.Cx.AV.junk, Go.Cx.AV.int Go.IntKind.i64 (↑(List.length x0) : Int), Go.Cx.AV.int Go.IntKind.i64 i2, Go.Cx.AV.junk, Go.Cx.AV.junk, Go.Cx.AV.slice (1 : Nat) Go.Cx.Sh.any [Go.Cx.AV.func (116 : Nat) [Go.Cx.AV.agg [Go.Cx.AV.int Go.IntKind.u8 x1, Go.Cx.AV.int Go.IntKind.u8 x2]] [], Go.Cx.AV.func (116 : Nat) [Go.Cx.AV.agg [Go.Cx.AV.int Go.IntKind.u8 x3, Go.Cx.AV.int Go.IntKind.u8 x4]] [], Go.Cx.AV.func (116 : Nat) [Go.Cx.AV.agg [Go.Cx.AV.int Go.IntKind.u8 x5, Go.Cx.AV.int Go.IntKind.u8 x6]] []] Go.Cx.SK.ro, Go.Cx.AV.int Go.IntKind.i64 (3 : Int), Go.Cx.AV.int Go.IntKind.i64 (1 : Int), Go.Cx.AV.junk, Go.Cx.AV.junk, Go.Cx.AV.junk, Go.Cx.AV.junk, Go.Cx.AV.junk, Go.Cx.AV.junk, Go.Cx.AV.junk, Go.Cx.AV.junk, Go.Cx.AV.junk, Go.Cx.AV.junk, Go.Cx.AV.junk, Go.Cx.AV.junk, Go.Cx.AV.junk, Go.Cx.AV.junk, Go.Cx.AV.junk], []⟩
noncomputable def st_text_all_0l3_3 (x0 : List UInt8) (x1 : Int) (x2 : Int) (x3 : Int) (x4 : Int) (x5 : Int) (x6 : Int) (b1 : Bool) (i3 : Int) : St := ⟨[Go.Cx.AV.str x0, Go.Cx.AV.slice (1 : Nat) Go.Cx.Sh.any [Go.Cx.AV.func (116 : Nat) [Go.Cx.AV.agg [Go.Cx.AV.int Go.IntKind.u8 x1, Go.Cx.AV.int Go.IntKind.u8 x2]] [], Go.Cx.AV.func (116 : Nat) [Go.Cx.AV.agg [Go.Cx.AV.int Go.IntKind.u8 x3, Go.Cx.AV.int Go.IntKind.u8 x4]] [], Go.Cx.AV.func (116 : Nat) [Go.Cx.AV.agg [Go.Cx.AV.int Go.IntKind.u8 x5, Go.Cx.AV.int Go.IntKind.u8 x6]] []] Go.Cx.SK.ro, Go.Cx.AV.junk, Go.Cx.AV.junk, Go.Cx.AV.junk, Go.Cx.AV.int Go.IntKind.i64 i3, Go.Cx.AV.bool b1, Go.Cx.AV.junk, Go.Cx.AV.junk, Go.Cx.AV.junk, Go.Cx.AV.int Go.IntKind.i64 (↑(List.length x0) : Int), Go.Cx.AV.int Go.IntKind.i64 i3, Go.Cx.AV.junk, Go.Cx.AV.junk, Go.Cx.AV.slice (1 : Nat) Go.Cx.Sh.any [Go.Cx.AV.func (116 : Nat) [Go.Cx.AV.agg [Go.Cx.AV.int Go.IntKind.u8 x1, Go.Cx.AV.int Go.IntKind.u8 x2]] [], Go.Cx.AV.func (116 : Nat) [Go.Cx.AV.agg [Go.Cx.AV.int Go.IntKind.u8 x3, Go.Cx.AV.int Go.IntKind.u8 x4]] [], Go.Cx.AV.func (116 : Nat) [Go.Cx.AV.agg [Go.Cx.AV.int Go.IntKind.u8 x5, Go.Cx.AV.int Go.IntKind.u8 x6]] []] Go.Cx.SK.ro, Go.Cx.AV.int Go.IntKind.i64 (3 : Int), Go.Cx.AV.int Go.IntKind.i64 (2 : Int), Go.Cx.AV.junk, Go.Cx.AV.junk, Go.Cx.AV.junk, Go.Cx.AV.junk, Go.Cx.AV.junk, Go.Cx.AV.junk, Go.Cx.AV.junk, Go.Cx.AV.junk, Go.Cx.AV.junk, Go.Cx.AV.junk, Go.Cx.AV.junk, Go.Cx.AV.junk, Go.Cx.AV.junk, Go.Cx.AV.junk, Go.Cx.AV.junk], []⟩
noncomputable def st_text_all_0l3_4 (x0 : List UInt8) (x1 : Int) (x2 : Int) (x3 : Int) (x4 : Int) (x5 : Int) (x6 : Int) (b2 : Bool) (i4 : Int) : St := ⟨[Go.Cx.AV.str x0, Go.Cx.AV.slice (1 : Nat) Go.Cx.Sh.any [Go.Cx.AV.func (116 : Nat) [Go.Cx.AV.agg [Go.Cx.AV.int Go.IntKind.u8 x1, Go.Cx.AV.int Go.IntKind.u8 x2]] [], Go.Cx.AV.func (116 : Nat) [Go.Cx.AV.agg [Go.Cx.AV.int Go.IntKind.u8 x3, Go.Cx.AV.int Go.IntKind.u8 x4]] [], Go.Cx.AV.func (116 : Nat) [Go.Cx.AV.agg [Go.Cx.AV.int Go.IntKind.u8 x5, Go.Cx.AV.int Go.IntKind.u8 x6]] []] Go.Cx.SK.ro, Go.Cx.AV.junk, Go.Cx.AV.junk, Go.Cx.AV.junk, Go.Cx.AV.int Go.IntKind.i64 i4, Go.Cx.AV.bool b2, Go.Cx.AV.junk, Go.Cx.AV.junk, Go.Cx.AV.junk, Go.Cx.AV.int Go.IntKind.i64 (↑(List.length x0) : Int), Go.Cx.AV.int Go.IntKind.i64 i4, Go.Cx.AV.junk, Go.Cx.AV.junk, Go.Cx.AV.slice (1 : Nat) Go.Cx.Sh.any [Go.Cx.AV.func (116 : Nat) [Go.Cx.AV.agg [Go.Cx.AV.int Go.IntKind.u8 x1, Go.Cx.AV.int Go.IntKind.u8 x2]] [], Go.Cx.AV.func (116 : Nat) [Go.Cx.AV.agg [Go.Cx.AV.int Go.IntKind.u8 x3, Go.Cx.AV.int Go.IntKind.u8 x4]] [], Go.Cx.AV.func (116 : Nat) [Go.Cx.AV.agg [Go.Cx.AV.int Go.IntKind.u8 x5, Go.Cx.AV.int Go.IntKind.u8 x6]] []] Go.Cx.SK.ro, Go.Cx.AV.int Go.IntKind.i64 (3 : Int), Go.Cx.AV.int Go.IntKind.i64 (3 : Int), Go.Cx.AV.junk, Go.Cx.AV.junk, Go.Cx.AV.junk, Go.Cx.AV.junk, Go.Cx.AV.junk, Go.Cx.AV.junk, Go.Cx.AV.junk, Go.Cx.AV.junk, Go.Cx.AV.junk, Go.Cx.AV.junk, Go.Cx.AV.junk, Go.Cx.AV.junk, Go.Cx.AV.junk, Go.Cx.AV.junk, Go.Cx.AV.junk], []⟩
noncomputable def L_text_all_0l3 (x0 : List UInt8) (x1 : Int) (x2 : Int) (x3 : Int) (x4 : Int) (x5 : Int) (x6 : Int) (Rv : Bool → Prop) : (Int) ⊕ (Int) ⊕ (Bool × Int) ⊕ (Bool × Int) ⊕ (Bool × Int) → Prop
  | .inl (i0) => headL E_text_all_0l3 [.r, .l, .r, .d] b_text_all_0l3 1000 (bodyK E_text_all_0l3 Tryz.f115 (outP O_text_all_0l3 fun ls => Rv (tup_text_all_0l3 ls))) (st_text_all_0l3_0 x0 x1 x2 x3 x4 x5 x6 i0)
  | .inr (.inl (i1)) => headL E_text_all_0l3 [.r, .l, .r, .d, .o 1000, .r, .r, .l, .d, .r, .r, .l, .r, .d] b_text_all_0l3 1000 (bodyK E_text_all_0l3 Tryz.f115 (outP O_text_all_0l3 fun ls => Rv (tup_text_all_0l3 ls))) (st_text_all_0l3_1 x0 x1 x2 x3 x4 x5 x6 i1)
  | .inr (.inr (.inl ((b0, i2)))) => headL E_text_all_0l3 [.r, .l, .r, .d, .o 1000, .r, .r, .l, .d, .r, .r, .l, .r, .d] b_text_all_0l3 1000 (bodyK E_text_all_0l3 Tryz.f115 (outP O_text_all_0l3 fun ls => Rv (tup_text_all_0l3 ls))) (st_text_all_0l3_2 x0 x1 x2 x3 x4 x5 x6 b0 i2)
  | .inr (.inr (.inr (.inl ((b1, i3))))) => headL E_text_all_0l3 [.r, .l, .r, .d, .o 1000, .r, .r, .l, .d, .r, .r, .l, .r, .d] b_text_all_0l3 1000 (bodyK E_text_all_0l3 Tryz.f115 (outP O_text_all_0l3 fun ls => Rv (tup_text_all_0l3 ls))) (st_text_all_0l3_3 x0 x1 x2 x3 x4 x5 x6 b1 i3)
  | .inr (.inr (.inr (.inr ((b2, i4))))) => headL E_text_all_0l3 [.r, .l, .r, .d, .o 1000, .r, .r, .l, .d, .r, .r, .l, .r, .d] b_text_all_0l3 1000 (bodyK E_text_all_0l3 Tryz.f115 (outP O_text_all_0l3 fun ls => Rv (tup_text_all_0l3 ls))) (st_text_all_0l3_4 x0 x1 x2 x3 x4 x5 x6 b2 i4)
set_option maxRecDepth 100000 in
theorem l_text_all_0l3_0 (x0 : List UInt8) (x1 : Int) (x2 : Int) (x3 : Int) (x4 : Int) (x5 : Int) (x6 : Int) (Rv : Bool → Prop) (i0 : Int) : stepL E_text_all_0l3 [.r, .l, .r, .d] b_text_all_0l3 1000 (bodyK E_text_all_0l3 Tryz.f115 (outP O_text_all_0l3 fun ls => Rv (tup_text_all_0l3 ls))) (st_text_all_0l3_0 x0 x1 x2 x3 x4 x5 x6 i0) =
  (M_text_all_0l3 x0 x1 x2 x3 x4 x5 x6 (.inl (i0))).fold False (Sum.elim (L_text_all_0l3 x0 x1 x2 x3 x4 x5 x6 Rv) Rv) := by kernel_rfl
set_option maxRecDepth 100000 in
theorem l_text_all_0l3_1 (x0 : List UInt8) (x1 : Int) (x2 : Int) (x3 : Int) (x4 : Int) (x5 : Int) (x6 : Int) (Rv : Bool → Prop) (i1 : Int) : stepL E_text_all_0l3 [.r, .l, .r, .d, .o 1000, .r, .r, .l, .d, .r, .r, .l, .r, .d] b_text_all_0l3 1000 (bodyK E_text_all_0l3 Tryz.f115 (outP O_text_all_0l3 fun ls => Rv (tup_text_all_0l3 ls))) (st_text_all_0l3_1 x0 x1 x2 x3 x4 x5 x6 i1) =
  (M_text_all_0l3 x0 x1 x2 x3 x4 x5 x6 (.inr (.inl (i1)))).fold False (Sum.elim (L_text_all_0l3 x0 x1 x2 x3 x4 x5 x6 Rv) Rv) := by kernel_rfl
set_option maxRecDepth 100000 in
theorem l_text_all_0l3_2 (x0 : List UInt8) (x1 : Int) (x2 : Int) (x3 : Int) (x4 : Int) (x5 : Int) (x6 : Int) (Rv : Bool → Prop) (b0 : Bool) (i2 : Int) : stepL E_text_all_0l3 [.r, .l, .r, .d, .o 1000, .r, .r, .l, .d, .r, .r, .l, .r, .d] b_text_all_0l3 1000 (bodyK E_text_all_0l3 Tryz.f115 (outP O_text_all_0l3 fun ls => Rv (tup_text_all_0l3 ls))) (st_text_all_0l3_2 x0 x1 x2 x3 x4 x5 x6 b0 i2) =
  (M_text_all_0l3 x0 x1 x2 x3 x4 x5 x6 (.inr (.inr (.inl ((b0, i2)))))).fold False (Sum.elim (L_text_all_0l3 x0 x1 x2 x3 x4 x5 x6 Rv) Rv) := by kernel_rfl
set_option maxRecDepth 100000 in
theorem l_text_all_0l3_3 (x0 : List UInt8) (x1 : Int) (x2 : Int) (x3 : Int) (x4 : Int) (x5 : Int) (x6 : Int) (Rv : Bool → Prop) (b1 : Bool) (i3 : Int) : stepL E_text_all_0l3 [.r, .l, .r, .d, .o 1000, .r, .r, .l, .d, .r, .r, .l, .r, .d] b_text_all_0l3 1000 (bodyK E_text_all_0l3 Tryz.f115 (outP O_text_all_0l3 fun ls => Rv (tup_text_all_0l3 ls))) (st_text_all_0l3_3 x0 x1 x2 x3 x4 x5 x6 b1 i3) =
  (M_text_all_0l3 x0 x1 x2 x3 x4 x5 x6 (.inr (.inr (.inr (.inl ((b1, i3))))))).fold False (Sum.elim (L_text_all_0l3 x0 x1 x2 x3 x4 x5 x6 Rv) Rv) := by kernel_rfl
set_option maxRecDepth 100000 in
theorem l_text_all_0l3_4 (x0 : List UInt8) (x1 : Int) (x2 : Int) (x3 : Int) (x4 : Int) (x5 : Int) (x6 : Int) (Rv : Bool → Prop) (b2 : Bool) (i4 : Int) : stepL E_text_all_0l3 [.r, .l, .r, .d, .o 1000, .r, .r, .l, .d, .r, .r, .l, .r, .d] b_text_all_0l3 1000 (bodyK E_text_all_0l3 Tryz.f115 (outP O_text_all_0l3 fun ls => Rv (tup_text_all_0l3 ls))) (st_text_all_0l3_4 x0 x1 x2 x3 x4 x5 x6 b2 i4) =
  (M_text_all_0l3 x0 x1 x2 x3 x4 x5 x6 (.inr (.inr (.inr (.inr ((b2, i4))))))).fold False (Sum.elim (L_text_all_0l3 x0 x1 x2 x3 x4 x5 x6 Rv) Rv) := by kernel_rfl
set_option maxRecDepth 100000 in
theorem e_text_all_0l3_0 (x0 : List UInt8) (x1 : Int) (x2 : Int) (x3 : Int) (x4 : Int) (x5 : Int) (x6 : Int) (Rv : Bool → Prop) (i0 : Int) : L_text_all_0l3 x0 x1 x2 x3 x4 x5 x6 Rv (.inl (i0)) = headL E_text_all_0l3 [.r, .l, .r, .d] b_text_all_0l3 1000 (bodyK E_text_all_0l3 Tryz.f115 (outP O_text_all_0l3 fun ls => Rv (tup_text_all_0l3 ls))) (st_text_all_0l3_0 x0 x1 x2 x3 x4 x5 x6 i0) := by kernel_rfl
set_option maxRecDepth 100000 in
theorem e_text_all_0l3_1 (x0 : List UInt8) (x1 : Int) (x2 : Int) (x3 : Int) (x4 : Int) (x5 : Int) (x6 : Int) (Rv : Bool → Prop) (i1 : Int) : L_text_all_0l3 x0 x1 x2 x3 x4 x5 x6 Rv (.inr (.inl (i1))) = headL E_text_all_0l3 [.r, .l, .r, .d, .o 1000, .r, .r, .l, .d, .r, .r, .l, .r, .d] b_text_all_0l3 1000 (bodyK E_text_all_0l3 Tryz.f115 (outP O_text_all_0l3 fun ls => Rv (tup_text_all_0l3 ls))) (st_text_all_0l3_1 x0 x1 x2 x3 x4 x5 x6 i1) := by kernel_rfl
set_option maxRecDepth 100000 in
theorem e_text_all_0l3_2 (x0 : List UInt8) (x1 : Int) (x2 : Int) (x3 : Int) (x4 : Int) (x5 : Int) (x6 : Int) (Rv : Bool → Prop) (b0 : Bool) (i2 : Int) : L_text_all_0l3 x0 x1 x2 x3 x4 x5 x6 Rv (.inr (.inr (.inl ((b0, i2))))) = headL E_text_all_0l3 [.r, .l, .r, .d, .o 1000, .r, .r, .l, .d, .r, .r, .l, .r, .d] b_text_all_0l3 1000 (bodyK E_text_all_0l3 Tryz.f115 (outP O_text_all_0l3 fun ls => Rv (tup_text_all_0l3 ls))) (st_text_all_0l3_2 x0 x1 x2 x3 x4 x5 x6 b0 i2) := by kernel_rfl
set_option maxRecDepth 100000 in
theorem e_text_all_0l3_3 (x0 : List UInt8) (x1 : Int) (x2 : Int) (x3 : Int) (x4 : Int) (x5 : Int) (x6 : Int) (Rv : Bool → Prop) (b1 : Bool) (i3 : Int) : L_text_all_0l3 x0 x1 x2 x3 x4 x5 x6 Rv (.inr (.inr (.inr (.inl ((b1, i3)))))) = headL E_text_all_0l3 [.r, .l, .r, .d, .o 1000, .r, .r, .l, .d, .r, .r, .l, .r, .d] b_text_all_0l3 1000 (bodyK E_text_all_0l3 Tryz.f115 (outP O_text_all_0l3 fun ls => Rv (tup_text_all_0l3 ls))) (st_text_all_0l3_3 x0 x1 x2 x3 x4 x5 x6 b1 i3) := by kernel_rfl
set_option maxRecDepth 100000 in
theorem e_text_all_0l3_4 (x0 : List UInt8) (x1 : Int) (x2 : Int) (x3 : Int) (x4 : Int) (x5 : Int) (x6 : Int) (Rv : Bool → Prop) (b2 : Bool) (i4 : Int) : L_text_all_0l3 x0 x1 x2 x3 x4 x5 x6 Rv (.inr (.inr (.inr (.inr ((b2, i4)))))) = headL E_text_all_0l3 [.r, .l, .r, .d, .o 1000, .r, .r, .l, .d, .r, .r, .l, .r, .d] b_text_all_0l3 1000 (bodyK E_text_all_0l3 Tryz.f115 (outP O_text_all_0l3 fun ls => Rv (tup_text_all_0l3 ls))) (st_text_all_0l3_4 x0 x1 x2 x3 x4 x5 x6 b2 i4) := by kernel_rfl
section
attribute [local irreducible] Tr.fold M_text_all_0l3 L_text_all_0l3 T_text_all_0l3 E_text_all_0l3 b_text_all_0l3 bodyK headC headL stepC stepL wpX callA
set_option maxRecDepth 100000 in
theorem h_text_all_0l3 (x0 : List UInt8) (x1 : Int) (x2 : Int) (x3 : Int) (x4 : Int) (x5 : Int) (x6 : Int) (Rv : Bool → Prop) : ∀ s, (M_text_all_0l3 x0 x1 x2 x3 x4 x5 x6 s).fold False (Sum.elim (L_text_all_0l3 x0 x1 x2 x3 x4 x5 x6 Rv) Rv) → L_text_all_0l3 x0 x1 x2 x3 x4 x5 x6 Rv s := by
  rintro (v0 | v0 | ⟨v0, v1⟩ | ⟨v0, v1⟩ | ⟨v0, v1⟩)
  · exact fun h => Eq.mpr (e_text_all_0l3_0 x0 x1 x2 x3 x4 x5 x6 Rv v0) (headL_of (Eq.mpr (l_text_all_0l3_0 x0 x1 x2 x3 x4 x5 x6 Rv v0) h))
  · exact fun h => Eq.mpr (e_text_all_0l3_1 x0 x1 x2 x3 x4 x5 x6 Rv v0) (headL_of (Eq.mpr (l_text_all_0l3_1 x0 x1 x2 x3 x4 x5 x6 Rv v0) h))
  · exact fun h => Eq.mpr (e_text_all_0l3_2 x0 x1 x2 x3 x4 x5 x6 Rv v0 v1) (headL_of (Eq.mpr (l_text_all_0l3_2 x0 x1 x2 x3 x4 x5 x6 Rv v0 v1) h))
  · exact fun h => Eq.mpr (e_text_all_0l3_3 x0 x1 x2 x3 x4 x5 x6 Rv v0 v1) (headL_of (Eq.mpr (l_text_all_0l3_3 x0 x1 x2 x3 x4 x5 x6 Rv v0 v1) h))
  · exact fun h => Eq.mpr (e_text_all_0l3_4 x0 x1 x2 x3 x4 x5 x6 Rv v0 v1) (headL_of (Eq.mpr (l_text_all_0l3_4 x0 x1 x2 x3 x4 x5 x6 Rv v0 v1) h))
set_option maxRecDepth 100000 in
theorem c_text_all_0l3 (ls : List AV) (Rv : Bool → Prop) : callA E_text_all_0l3 Tryz.f115 (instL ls P_text_all_0l3 0) [] (outP O_text_all_0l3 fun ls => Rv (tup_text_all_0l3 ls)) = (T_text_all_0l3 (getS (ls.getD 0 .junk)) (getI (ls.getD 1 .junk)) (getI (ls.getD 2 .junk)) (getI (ls.getD 3 .junk)) (getI (ls.getD 4 .junk)) (getI (ls.getD 5 .junk)) (getI (ls.getD 6 .junk))).fold False (Sum.elim (L_text_all_0l3 (getS (ls.getD 0 .junk)) (getI (ls.getD 1 .junk)) (getI (ls.getD 2 .junk)) (getI (ls.getD 3 .junk)) (getI (ls.getD 4 .junk)) (getI (ls.getD 5 .junk)) (getI (ls.getD 6 .junk)) Rv) Rv) := by kernel_rfl
end
noncomputable def S_text_all_0l3 : Go.Cx.Spec := pureS (patF P_text_all_0l3 fun ls => opt (g_text_all_0l3 (getS (ls.getD 0 .junk)) (getI (ls.getD 1 .junk)) (getI (ls.getD 2 .junk)) (getI (ls.getD 3 .junk)) (getI (ls.getD 4 .junk)) (getI (ls.getD 5 .junk)) (getI (ls.getD 6 .junk))) fun x => .r (res_text_all_0l3 x))
set_option maxRecDepth 100000 in
theorem S_text_all_0l3_ok : Sound Tryz.prog 115 S_text_all_0l3 :=
  pure_mach (E := E_text_all_0l3) (TblOK.enK TYsG620t_ok _ _ _ _ _) mixed rfl Tryz.func115 (c := Tryz.f115.body.getD .skip) (by kernel_rfl) (by kernel_rfl) (pats := P_text_all_0l3) (O := O_text_all_0l3) (tup := tup_text_all_0l3) (res := res_text_all_0l3) (g := fun ls => g_text_all_0l3 (getS (ls.getD 0 .junk)) (getI (ls.getD 1 .junk)) (getI (ls.getD 2 .junk)) (getI (ls.getD 3 .junk)) (getI (ls.getD 4 .junk)) (getI (ls.getD 5 .junk)) (getI (ls.getD 6 .junk))) (T := fun ls => T_text_all_0l3 (getS (ls.getD 0 .junk)) (getI (ls.getD 1 .junk)) (getI (ls.getD 2 .junk)) (getI (ls.getD 3 .junk)) (getI (ls.getD 4 .junk)) (getI (ls.getD 5 .junk)) (getI (ls.getD 6 .junk))) (step := fun ls => M_text_all_0l3 (getS (ls.getD 0 .junk)) (getI (ls.getD 1 .junk)) (getI (ls.getD 2 .junk)) (getI (ls.getD 3 .junk)) (getI (ls.getD 4 .junk)) (getI (ls.getD 5 .junk)) (getI (ls.getD 6 .junk))) (L := fun ls => L_text_all_0l3 (getS (ls.getD 0 .junk)) (getI (ls.getD 1 .junk)) (getI (ls.getD 2 .junk)) (getI (ls.getD 3 .junk)) (getI (ls.getD 4 .junk)) (getI (ls.getD 5 .junk)) (getI (ls.getD 6 .junk))) (fun _ => rfl) (fun ls => by kernel_rfl) c_text_all_0l3 (fun ls Rv => h_text_all_0l3 (getS (ls.getD 0 .junk)) (getI (ls.getD 1 .junk)) (getI (ls.getD 2 .junk)) (getI (ls.getD 3 .junk)) (getI (ls.getD 4 .junk)) (getI (ls.getD 5 .junk)) (getI (ls.getD 6 .junk)) Rv)
noncomputable def TYsG621t : FuncId → Option Go.Cx.Spec := addT TYsG620t 115 (orS (tagsB [0, 1030116]) S_text_all_0l3 S_text_all_0l1)
theorem TYsG621t_ok : TblOK Tryz.prog TYsG621t := TYsG620t_ok.add (Sound.or _ S_text_all_0l3_ok S_text_all_0l1_ok)
noncomputable def E_text_Aln : En := enK Tryz.prog TYsG621t [] [] [] [] 0
def P_text_Aln : List Pat := [.leaf .str, .leaf (.int .i64), .leaf (.int .i64)]
def O_text_Aln : Pat := .leaf .bool
def tup_text_Aln : List AV → Bool := fun ls => getB (ls.getD 0 .junk)
def res_text_Aln : Bool → AV := fun x => .bool (x)
noncomputable def T_text_Aln (x0 : List UInt8) (x1 : Int) (x2 : Int) : Tr (Bool) := (.c (Decidable.decide ((↑(List.length x0) : Int) ≥ x1)) (.c (Decidable.decide ((↑(List.length x0) : Int) ≤ x2)) (opt (Go.Proofs.YtcnalhganahiiaaGreatDoor.g_text_all_0l3 x0 (48 : Int) (57 : Int) (65 : Int) (90 : Int) (97 : Int) (122 : Int)) fun (y0 : Bool) => (.r (y0))) (.r (Bool.false))) (.r (Bool.false)))
noncomputable def g_text_Aln (x0 : List UInt8) (x1 : Int) (x2 : Int) : Option (Bool) := (T_text_Aln x0 x1 x2).val
set_option maxRecDepth 100000 in
theorem c_text_Aln (ls : List AV) (Rv : Bool → Prop) : callA E_text_Aln Tryz.f90 (instL ls P_text_Aln 0) [] (outP O_text_Aln fun ls => Rv (tup_text_Aln ls)) = (T_text_Aln (getS (ls.getD 0 .junk)) (getI (ls.getD 1 .junk)) (getI (ls.getD 2 .junk))).fold False Rv := by kernel_rfl
noncomputable def S_text_Aln : Go.Cx.Spec := pureS (patF P_text_Aln fun ls => opt (g_text_Aln (getS (ls.getD 0 .junk)) (getI (ls.getD 1 .junk)) (getI (ls.getD 2 .junk))) fun x => .r (res_text_Aln x))
set_option maxRecDepth 100000 in
theorem S_text_Aln_ok : Sound Tryz.prog 90 S_text_Aln :=
  pure_flat (E := E_text_Aln) (TblOK.enK TYsG621t_ok _ _ _ _ _) mixed rfl Tryz.func90 (c := Tryz.f90.body.getD .skip) (by kernel_rfl) (by kernel_rfl) (pats := P_text_Aln) (O := O_text_Aln) (tup := tup_text_Aln) (res := res_text_Aln) (g := fun ls => g_text_Aln (getS (ls.getD 0 .junk)) (getI (ls.getD 1 .junk)) (getI (ls.getD 2 .junk))) (T := fun ls => T_text_Aln (getS (ls.getD 0 .junk)) (getI (ls.getD 1 .junk)) (getI (ls.getD 2 .junk))) (fun _ => rfl) (fun ls => by kernel_rfl) c_text_Aln
noncomputable def TYsG622t : FuncId → Option Go.Cx.Spec := addT TYsG621t 90 S_text_Aln
theorem TYsG622t_ok : TblOK Tryz.prog TYsG622t := TYsG621t_ok.add S_text_Aln_ok
noncomputable def E_simple_rule_alnum : En := enK Tryz.prog TYsG622t [] [] [] [] 0
def P_simple_rule_alnum : List Pat := [.agg [.leaf .str, .leaf (.int .i64), .leaf (.int .i64), .leaf (.int .i64), .leaf (.int .i64), .leaf (.int .i64)], .leaf .str]
def O_simple_rule_alnum : Pat := .leaf .bool
def tup_simple_rule_alnum : List AV → Bool := fun ls => getB (ls.getD 0 .junk)
def res_simple_rule_alnum : Bool → AV := fun x => .bool (x)
noncomputable def T_simple_rule_alnum (x0 : List UInt8) (x1 : Int) (x2 : Int) (x3 : Int) (x4 : Int) (x5 : Int) (x6 : List UInt8) : Tr (Bool) := (opt (Go.Proofs.YtcnalhganahiiaaGreatDoor.g_text_Aln x6 x4 x5) fun (y0 : Bool) => (.r (y0)))
noncomputable def g_simple_rule_alnum (x0 : List UInt8) (x1 : Int) (x2 : Int) (x3 : Int) (x4 : Int) (x5 : Int) (x6 : List UInt8) : Option (Bool) := (T_simple_rule_alnum x0 x1 x2 x3 x4 x5 x6).val
set_option maxRecDepth 100000 in
theorem c_simple_rule_alnum (ls : List AV) (Rv : Bool → Prop) : callA E_simple_rule_alnum Tryz.f67 (instL ls P_simple_rule_alnum 0) [] (outP O_simple_rule_alnum fun ls => Rv (tup_simple_rule_alnum ls)) = (T_simple_rule_alnum (getS (ls.getD 0 .junk)) (getI (ls.getD 1 .junk)) (getI (ls.getD 2 .junk)) (getI (ls.getD 3 .junk)) (getI (ls.getD 4 .junk)) (getI (ls.getD 5 .junk)) (getS (ls.getD 6 .junk))).fold False Rv := by kernel_rfl
noncomputable def S_simple_rule_alnum : Go.Cx.Spec := pureS (patF P_simple_rule_alnum fun ls => opt (g_simple_rule_alnum (getS (ls.getD 0 .junk)) (getI (ls.getD 1 .junk)) (getI (ls.getD 2 .junk)) (getI (ls.getD 3 .junk)) (getI (ls.getD 4 .junk)) (getI (ls.getD 5 .junk)) (getS (ls.getD 6 .junk))) fun x => .r (res_simple_rule_alnum x))
set_option maxRecDepth 100000 in
theorem S_simple_rule_alnum_ok : Sound Tryz.prog 67 S_simple_rule_alnum :=
  pure_flat (E := E_simple_rule_alnum) (TblOK.enK TYsG622t_ok _ _ _ _ _) mixed rfl Tryz.func67 (c := Tryz.f67.body.getD .skip) (by kernel_rfl) (by kernel_rfl) (pats := P_simple_rule_alnum) (O := O_simple_rule_alnum) (tup := tup_simple_rule_alnum) (res := res_simple_rule_alnum) (g := fun ls => g_simple_rule_alnum (getS (ls.getD 0 .junk)) (getI (ls.getD 1 .junk)) (getI (ls.getD 2 .junk)) (getI (ls.getD 3 .junk)) (getI (ls.getD 4 .junk)) (getI (ls.getD 5 .junk)) (getS (ls.getD 6 .junk))) (T := fun ls => T_simple_rule_alnum (getS (ls.getD 0 .junk)) (getI (ls.getD 1 .junk)) (getI (ls.getD 2 .junk)) (getI (ls.getD 3 .junk)) (getI (ls.getD 4 .junk)) (getI (ls.getD 5 .junk)) (getS (ls.getD 6 .junk))) (fun _ => rfl) (fun ls => by kernel_rfl) c_simple_rule_alnum
noncomputable def TYsG623t : FuncId → Option Go.Cx.Spec := addT TYsG622t 67 S_simple_rule_alnum
theorem TYsG623t_ok : TblOK Tryz.prog TYsG623t := TYsG622t_ok.add S_simple_rule_alnum_ok
noncomputable def E_digits_UnHex_1_0p : En := enK Tryz.prog TYsG623t [] [] [] [] 0
def P_digits_UnHex_1_0p : List Pat := [.leaf (.int .u8), .rptr [.func 61 [] []]]
def O_digits_UnHex_1_0p : Pat := .leaf .bool
def tup_digits_UnHex_1_0p : List AV → Bool := fun ls => getB (ls.getD 0 .junk)
def res_digits_UnHex_1_0p : Bool → AV := fun x => .bool (x)
noncomputable def T_digits_UnHex_1_0p (x0 : Int) : Tr (Bool) := (.r (Decidable.decide (Go.Lib.indexByte [(48 : UInt8), (49 : UInt8), (50 : UInt8), (51 : UInt8), (52 : UInt8), (53 : UInt8), (54 : UInt8), (55 : UInt8), (56 : UInt8), (57 : UInt8), (65 : UInt8), (66 : UInt8), (67 : UInt8), (68 : UInt8), (69 : UInt8), (70 : UInt8)] (Nat.toUInt8 (Int.toNat x0)) ≥ (0 : Int))))
noncomputable def g_digits_UnHex_1_0p (x0 : Int) : Option (Bool) := (T_digits_UnHex_1_0p x0).val
set_option maxRecDepth 100000 in
theorem c_digits_UnHex_1_0p (ls : List AV) (Rv : Bool → Prop) : callA E_digits_UnHex_1_0p Tryz.f119 (instL ls P_digits_UnHex_1_0p 0) [] (outP O_digits_UnHex_1_0p fun ls => Rv (tup_digits_UnHex_1_0p ls)) = (T_digits_UnHex_1_0p (getI (ls.getD 0 .junk))).fold False Rv := by kernel_rfl
noncomputable def S_digits_UnHex_1_0p : Go.Cx.Spec := pureS (patF P_digits_UnHex_1_0p fun ls => opt (g_digits_UnHex_1_0p (getI (ls.getD 0 .junk))) fun x => .r (res_digits_UnHex_1_0p x))
set_option maxRecDepth 100000 in
theorem S_digits_UnHex_1_0p_ok : Sound Tryz.prog 119 S_digits_UnHex_1_0p :=
  pure_flat (E := E_digits_UnHex_1_0p) (TblOK.enK TYsG623t_ok _ _ _ _ _) mixed rfl Tryz.func119 (c := Tryz.f119.body.getD .skip) (by kernel_rfl) (by kernel_rfl) (pats := P_digits_UnHex_1_0p) (O := O_digits_UnHex_1_0p) (tup := tup_digits_UnHex_1_0p) (res := res_digits_UnHex_1_0p) (g := fun ls => g_digits_UnHex_1_0p (getI (ls.getD 0 .junk))) (T := fun ls => T_digits_UnHex_1_0p (getI (ls.getD 0 .junk))) (fun _ => rfl) (fun ls => by kernel_rfl) c_digits_UnHex_1_0p
noncomputable def TYsG624t : FuncId → Option Go.Cx.Spec := addT TYsG623t 119 S_digits_UnHex_1_0p
theorem TYsG624t_ok : TblOK Tryz.prog TYsG624t := TYsG623t_ok.add S_digits_UnHex_1_0p_ok
noncomputable def E_digits_all_0fUnHex1_p5fhas_ : En := enKB Tryz.prog TYsG624t [] [(2, ⟨[2, 3, 4, 5, 6, 9, 10, 11, 12, 13, 14, 15, 16, 17], [], [], none, [], [], [], [], true⟩)] [] [] 1 1 true
def P_digits_all_0fUnHex1_p5fhas_ : List Pat := [.leaf .str, .func 119 [] [.lit (.ptr 0 0)]]
def Q_digits_all_0fUnHex1_p5fhas_ : List OPat := [.fix 154 [.func 61 [] []]]
def O_digits_all_0fUnHex1_p5fhas_ : Pat := .leaf .bool
def OO_digits_all_0fUnHex1_p5fhas_ : List OPat := [.fix 154 [.func 61 [] []]]
def tup_digits_all_0fUnHex1_p5fhas_ : List AV → Bool := fun ls => getB (ls.getD 0 .junk)
def res_digits_all_0fUnHex1_p5fhas_ : Bool → AV × List Ob := fun x => (.bool (x), [.fix 154 [.func 61 [] []]])
noncomputable def T_digits_all_0fUnHex1_p5fhas_ (x0 : List UInt8) : Tr ((Int) ⊕ (Bool)) := (.r (.inl ((0 : Int))))
noncomputable def M_digits_all_0fUnHex1_p5fhas_ (x0 : List UInt8) : Int → Tr ((Int) ⊕ (Bool))
  | i0 => (.c (Decidable.decide (i0 < (↑(List.length x0) : Int))) (.c (Decidable.decide ((0 : Int) ≤ i0)) (.c (Decidable.decide (i0 < (↑(List.length x0) : Int))) (.c (!Decidable.decide (Go.Lib.indexByte [(48 : UInt8), (49 : UInt8), (50 : UInt8), (51 : UInt8), (52 : UInt8), (53 : UInt8), (54 : UInt8), (55 : UInt8), (56 : UInt8), (57 : UInt8), (65 : UInt8), (66 : UInt8), (67 : UInt8), (68 : UInt8), (69 : UInt8), (70 : UInt8)] (Nat.toUInt8 (UInt8.toNat (List.getD x0 (Int.toNat i0) (0 : UInt8)))) ≥ (0 : Int))) (.r (.inr (Bool.false))) (.r (.inl (Go.IntKind.wrap Go.IntKind.i64 (i0 + (1 : Int)))))) .bad) .bad) (.r (.inr (Bool.true))))
noncomputable def g_digits_all_0fUnHex1_p5fhas_ (x0 : List UInt8) : Option (Bool) := run (M_digits_all_0fUnHex1_p5fhas_ x0) (T_digits_all_0fUnHex1_p5fhas_ x0)
noncomputable def b_digits_all_0fUnHex1_p5fhas_ := Tryz.f60.body.getD .skip
noncomputable def st_digits_all_0fUnHex1_p5fhas__0 (x0 : List UInt8) (i0 : Int) : St := ⟨[Go.Cx.AV.str x0, Go.Cx.AV.func (119 : Nat) [] [Go.Cx.AV.ptr (0 : Nat) (0 : Nat)], Go.Cx.AV.junk, Go.Cx.AV.junk, Go.Cx.AV.junk, Go.Cx.AV.junk, Go.Cx.AV.junk, Go.Cx.AV.int Go.IntKind.i64 (↑(List.length x0) : Int), Go.Cx.AV.int Go.IntKind.i64 i0, Go.Cx.AV.junk, Go.Cx.AV.junk, Go.Cx.AV.junk, Go.Cx.AV.junk, Go.Cx.AV.junk, Go.Cx.AV.junk, Go.Cx.AV.junk, Go.Cx.AV.junk, Go.Cx.AV.junk], [Go.Cx.Ob.fix (154 : Nat) [Go.Cx.AV.func (61 : Nat) [] []]]⟩
noncomputable def L_digits_all_0fUnHex1_p5fhas_ (x0 : List UInt8) (Rv : Bool → Prop) : Int → Prop
  | i0 => headL E_digits_all_0fUnHex1_p5fhas_ [.r, .l, .r, .d] b_digits_all_0fUnHex1_p5fhas_ 1000 (bodyK E_digits_all_0fUnHex1_p5fhas_ Tryz.f60 (outH O_digits_all_0fUnHex1_p5fhas_ OO_digits_all_0fUnHex1_p5fhas_ fun ls => Rv (tup_digits_all_0fUnHex1_p5fhas_ ls))) (st_digits_all_0fUnHex1_p5fhas__0 x0 i0)
set_option maxRecDepth 100000 in
theorem l_digits_all_0fUnHex1_p5fhas__0 (x0 : List UInt8) (Rv : Bool → Prop) (i0 : Int) : stepL E_digits_all_0fUnHex1_p5fhas_ [.r, .l, .r, .d] b_digits_all_0fUnHex1_p5fhas_ 1000 (bodyK E_digits_all_0fUnHex1_p5fhas_ Tryz.f60 (outH O_digits_all_0fUnHex1_p5fhas_ OO_digits_all_0fUnHex1_p5fhas_ fun ls => Rv (tup_digits_all_0fUnHex1_p5fhas_ ls))) (st_digits_all_0fUnHex1_p5fhas__0 x0 i0) =
  (M_digits_all_0fUnHex1_p5fhas_ x0 (i0)).fold False (Sum.elim (L_digits_all_0fUnHex1_p5fhas_ x0 Rv) Rv) := by kernel_rfl
set_option maxRecDepth 100000 in
theorem e_digits_all_0fUnHex1_p5fhas__0 (x0 : List UInt8) (Rv : Bool → Prop) (i0 : Int) : L_digits_all_0fUnHex1_p5fhas_ x0 Rv (i0) = headL E_digits_all_0fUnHex1_p5fhas_ [.r, .l, .r, .d] b_digits_all_0fUnHex1_p5fhas_ 1000 (bodyK E_digits_all_0fUnHex1_p5fhas_ Tryz.f60 (outH O_digits_all_0fUnHex1_p5fhas_ OO_digits_all_0fUnHex1_p5fhas_ fun ls => Rv (tup_digits_all_0fUnHex1_p5fhas_ ls))) (st_digits_all_0fUnHex1_p5fhas__0 x0 i0) := by kernel_rfl
section
attribute [local irreducible] Tr.fold M_digits_all_0fUnHex1_p5fhas_ L_digits_all_0fUnHex1_p5fhas_ T_digits_all_0fUnHex1_p5fhas_ E_digits_all_0fUnHex1_p5fhas_ b_digits_all_0fUnHex1_p5fhas_ bodyK headC headL stepC stepL wpX callA
set_option maxRecDepth 100000 in
theorem h_digits_all_0fUnHex1_p5fhas_ (x0 : List UInt8) (Rv : Bool → Prop) : ∀ s, (M_digits_all_0fUnHex1_p5fhas_ x0 s).fold False (Sum.elim (L_digits_all_0fUnHex1_p5fhas_ x0 Rv) Rv) → L_digits_all_0fUnHex1_p5fhas_ x0 Rv s := by
  rintro (v0)
  · exact fun h => Eq.mpr (e_digits_all_0fUnHex1_p5fhas__0 x0 Rv v0) (headL_of (Eq.mpr (l_digits_all_0fUnHex1_p5fhas__0 x0 Rv v0) h))
set_option maxRecDepth 100000 in
theorem c_digits_all_0fUnHex1_p5fhas_ (ls : List AV) (Rv : Bool → Prop) : callA E_digits_all_0fUnHex1_p5fhas_ Tryz.f60 (instL ls P_digits_all_0fUnHex1_p5fhas_ 0) (instH ls Q_digits_all_0fUnHex1_p5fhas_ 1) (outH O_digits_all_0fUnHex1_p5fhas_ OO_digits_all_0fUnHex1_p5fhas_ fun ls => Rv (tup_digits_all_0fUnHex1_p5fhas_ ls)) = (T_digits_all_0fUnHex1_p5fhas_ (getS (ls.getD 0 .junk))).fold False (Sum.elim (L_digits_all_0fUnHex1_p5fhas_ (getS (ls.getD 0 .junk)) Rv) Rv) := by kernel_rfl
end
noncomputable def S_digits_all_0fUnHex1_p5fhas_ : Go.Cx.Spec := heapS (patH P_digits_all_0fUnHex1_p5fhas_ Q_digits_all_0fUnHex1_p5fhas_ fun ls => opt (g_digits_all_0fUnHex1_p5fhas_ (getS (ls.getD 0 .junk))) fun x => .r (res_digits_all_0fUnHex1_p5fhas_ x))
set_option maxRecDepth 100000 in
theorem S_digits_all_0fUnHex1_p5fhas__ok : Sound Tryz.prog 60 S_digits_all_0fUnHex1_p5fhas_ :=
  heap_mach (E := E_digits_all_0fUnHex1_p5fhas_) (TblOK.enKB TYsG624t_ok _ _ _ _ _ _ _) mixed Tryz.func60 (c := Tryz.f60.body.getD .skip) (by kernel_rfl) (by kernel_rfl) (by decide) (by decide) (pats := P_digits_all_0fUnHex1_p5fhas_) (ops := Q_digits_all_0fUnHex1_p5fhas_) (OO := OO_digits_all_0fUnHex1_p5fhas_) (O := O_digits_all_0fUnHex1_p5fhas_) (tup := tup_digits_all_0fUnHex1_p5fhas_) (res := res_digits_all_0fUnHex1_p5fhas_) (g := fun ls => g_digits_all_0fUnHex1_p5fhas_ (getS (ls.getD 0 .junk))) (T := fun ls => T_digits_all_0fUnHex1_p5fhas_ (getS (ls.getD 0 .junk))) (step := fun ls => M_digits_all_0fUnHex1_p5fhas_ (getS (ls.getD 0 .junk))) (L := fun ls => L_digits_all_0fUnHex1_p5fhas_ (getS (ls.getD 0 .junk))) (fun _ => rfl) (fun ls => by kernel_rfl) c_digits_all_0fUnHex1_p5fhas_ (fun ls Rv => h_digits_all_0fUnHex1_p5fhas_ (getS (ls.getD 0 .junk)) Rv)
noncomputable def TYsG625t : FuncId → Option Go.Cx.Spec := addT TYsG624t 60 (orS (tagsB [0, 129]) S_digits_all_0fUnHex1_p5fhas_ S_digits_all_0fhas_)
theorem TYsG625t_ok : TblOK Tryz.prog TYsG625t := TYsG624t_ok.add (Sound.or _ S_digits_all_0fUnHex1_p5fhas__ok S_digits_all_0fhas__ok)
noncomputable def E_digits_UnHex : En := enK Tryz.prog TYsG625t [] [(6, ⟨[1, 2, 3, 4, 7, 8, 9, 10, 11, 12, 13, 14, 15, 16, 17, 18, 19, 20, 21, 22, 23, 24, 25, 26, 27, 28, 29, 30, 31, 32, 33, 34, 35, 36, 37, 38], [], [], none, [], [], [], [], true⟩)] [(6, [(5, 5, (.int .u8))])] [] 0
def P_digits_UnHex : List Pat := [.leaf .str]
def O_digits_UnHex : Pat := .tuple [.leaf (.slice 1 (.int .u8)), .leaf (.int .i64)]
def tup_digits_UnHex : List AV → List AV × Int := fun ls => (getXs (ls.getD 0 .junk), getI (ls.getD 1 .junk))
def res_digits_UnHex : List AV × Int → AV := fun x => .tuple [.slice 1 (.int .u8) (x.1) .ro, .int .i64 (x.2)]
noncomputable def T_digits_UnHex (x0 : List UInt8) : Tr ((Int × List AV) ⊕ (List AV × Int)) := (.c (Int.tmod (↑(List.length x0) : Int) (2 : Int) == (1 : Int)) (.r (.inr (([], (5 : Int))))) (opt (Go.Proofs.YtcnalhganahiiaaGreatDoor.g_digits_all_0fUnHex1_p5fhas_ x0) fun (y0 : Bool) => (.c (!y0) (.r (.inr (([], (5 : Int))))) (.r (.inl (((0 : Int), [])))))))
noncomputable def M_digits_UnHex (x0 : List UInt8) : Int × List AV → Tr ((Int × List AV) ⊕ (List AV × Int))
  | (i0, l0) => (.c (Decidable.decide (i0 < (↑(List.length x0) : Int))) (.c (Decidable.decide ((0 : Int) ≤ i0)) (.c (Decidable.decide (i0 < (↑(List.length x0) : Int))) (.c (Decidable.decide ((0 : Int) ≤ Go.IntKind.wrap Go.IntKind.i64 (i0 + (1 : Int)))) (.c (Decidable.decide (Go.IntKind.wrap Go.IntKind.i64 (i0 + (1 : Int)) < (↑(List.length x0) : Int))) (.c (List.length l0 == List.length l0) (.c (Decidable.decide (List.length (l0 ++ [Go.Cx.AV.int Go.IntKind.u8 (Go.IntKind.wrap Go.IntKind.u8 (Go.Cx.bitsA Go.BinOp.or Go.IntKind.i64 (Go.Cx.shlA Go.IntKind.i64 (Go.Lib.indexByte [(48 : UInt8), (49 : UInt8), (50 : UInt8), (51 : UInt8), (52 : UInt8), (53 : UInt8), (54 : UInt8), (55 : UInt8), (56 : UInt8), (57 : UInt8), (65 : UInt8), (66 : UInt8), (67 : UInt8), (68 : UInt8), (69 : UInt8), (70 : UInt8)] (Nat.toUInt8 (UInt8.toNat (List.getD x0 (Int.toNat i0) (0 : UInt8))))) (4 : Int)) (Go.Lib.indexByte [(48 : UInt8), (49 : UInt8), (50 : UInt8), (51 : UInt8), (52 : UInt8), (53 : UInt8), (54 : UInt8), (55 : UInt8), (56 : UInt8), (57 : UInt8), (65 : UInt8), (66 : UInt8), (67 : UInt8), (68 : UInt8), (69 : UInt8), (70 : UInt8)] (Nat.toUInt8 (UInt8.toNat (List.getD x0 (Int.toNat (Go.IntKind.wrap Go.IntKind.i64 (i0 + (1 : Int)))) (0 : UInt8)))))))]) * (2 : Nat) < (70368744177664 : Nat))) (.r (.inl ((Go.IntKind.wrap Go.IntKind.i64 (i0 + (2 : Int)), l0 ++ [Go.Cx.AV.int Go.IntKind.u8 (Go.IntKind.wrap Go.IntKind.u8 (Go.Cx.bitsA Go.BinOp.or Go.IntKind.i64 (Go.Cx.shlA Go.IntKind.i64 (Go.Lib.indexByte [(48 : UInt8), (49 : UInt8), (50 : UInt8), (51 : UInt8), (52 : UInt8), (53 : UInt8), (54 : UInt8), (55 : UInt8), (56 : UInt8), (57 : UInt8), (65 : UInt8), (66 : UInt8), (67 : UInt8), (68 : UInt8), (69 : UInt8), (70 : UInt8)] (Nat.toUInt8 (UInt8.toNat (List.getD x0 (Int.toNat i0) (0 : UInt8))))) (4 : Int)) (Go.Lib.indexByte [(48 : UInt8), (49 : UInt8), (50 : UInt8), (51 : UInt8), (52 : UInt8), (53 : UInt8), (54 : UInt8), (55 : UInt8), (56 : UInt8), (57 : UInt8), (65 : UInt8), (66 : UInt8), (67 : UInt8), (68 : UInt8), (69 : UInt8), (70 : UInt8)] (Nat.toUInt8 (UInt8.toNat (List.getD x0 (Int.toNat (Go.IntKind.wrap Go.IntKind.i64 (i0 + (1 : Int)))) (0 : UInt8)))))))])))) .bad) .bad) .bad) .bad) .bad) .bad) (.c (List.length l0 == List.length l0) (.r (.inr ((l0, (0 : Int))))) .bad))
noncomputable def g_digits_UnHex (x0 : List UInt8) : Option (List AV × Int) := run (M_digits_UnHex x0) (T_digits_UnHex x0)
noncomputable def b_digits_UnHex := Tryz.f91.body.getD .skip
noncomputable def st_digits_UnHex_0 (x0 : List UInt8) (i0 : Int) (l0 : List AV) : St := ⟨[Go.Cx.AV.str x0, Go.Cx.AV.junk, Go.Cx.AV.junk, Go.Cx.AV.junk, Go.Cx.AV.junk, Go.Cx.AV.oslice (0 : Nat) (0 : Nat) (List.length l0), Go.Cx.AV.int Go.IntKind.i64 i0, Go.Cx.AV.junk, Go.Cx.AV.junk, Go.Cx.AV.junk, Go.Cx.AV.junk, Go.Cx.AV.junk, Go.Cx.AV.junk, Go.Cx.AV.junk, Go.Cx.AV.junk, Go.Cx.AV.junk, Go.Cx.AV.junk, Go.Cx.AV.junk, Go.Cx.AV.junk, Go.Cx.AV.junk, Go.Cx.AV.junk, Go.Cx.AV.junk, Go.Cx.AV.junk, Go.Cx.AV.junk, Go.Cx.AV.junk, Go.Cx.AV.junk, Go.Cx.AV.junk, Go.Cx.AV.junk, Go.Cx.AV.junk, Go.Cx.AV.junk, Go.Cx.AV.junk, Go.Cx.AV.junk, Go.Cx.AV.junk, Go.Cx.AV.junk, Go.Cx.AV.junk, Go.Cx.AV.junk, Go.Cx.AV.junk, Go.Cx.AV.junk, Go.Cx.AV.junk], [Go.Cx.Ob.grow (5 : Nat) (0 : Nat) (1 : Nat) (Go.Cx.Sh.int Go.IntKind.u8) l0]⟩
noncomputable def L_digits_UnHex (x0 : List UInt8) (Rv : List AV × Int → Prop) : Int × List AV → Prop
  | (i0, l0) => headL E_digits_UnHex [.r, .r, .r, .r, .l, .r, .d] b_digits_UnHex 1000 (bodyK E_digits_UnHex Tryz.f91 (outP O_digits_UnHex fun ls => Rv (tup_digits_UnHex ls))) (st_digits_UnHex_0 x0 i0 l0)
set_option maxRecDepth 100000 in
theorem l_digits_UnHex_0 (x0 : List UInt8) (Rv : List AV × Int → Prop) (i0 : Int) (l0 : List AV) : stepL E_digits_UnHex [.r, .r, .r, .r, .l, .r, .d] b_digits_UnHex 1000 (bodyK E_digits_UnHex Tryz.f91 (outP O_digits_UnHex fun ls => Rv (tup_digits_UnHex ls))) (st_digits_UnHex_0 x0 i0 l0) =
  (M_digits_UnHex x0 ((i0, l0))).fold False (Sum.elim (L_digits_UnHex x0 Rv) Rv) := by kernel_rfl
set_option maxRecDepth 100000 in
theorem e_digits_UnHex_0 (x0 : List UInt8) (Rv : List AV × Int → Prop) (i0 : Int) (l0 : List AV) : L_digits_UnHex x0 Rv ((i0, l0)) = headL E_digits_UnHex [.r, .r, .r, .r, .l, .r, .d] b_digits_UnHex 1000 (bodyK E_digits_UnHex Tryz.f91 (outP O_digits_UnHex fun ls => Rv (tup_digits_UnHex ls))) (st_digits_UnHex_0 x0 i0 l0) := by kernel_rfl
section
attribute [local irreducible] Tr.fold M_digits_UnHex L_digits_UnHex T_digits_UnHex E_digits_UnHex b_digits_UnHex bodyK headC headL stepC stepL wpX callA
set_option maxRecDepth 100000 in
theorem h_digits_UnHex (x0 : List UInt8) (Rv : List AV × Int → Prop) : ∀ s, (M_digits_UnHex x0 s).fold False (Sum.elim (L_digits_UnHex x0 Rv) Rv) → L_digits_UnHex x0 Rv s := by
  rintro (⟨v0, v1⟩)
  · exact fun h => Eq.mpr (e_digits_UnHex_0 x0 Rv v0 v1) (headL_of (Eq.mpr (l_digits_UnHex_0 x0 Rv v0 v1) h))
set_option maxRecDepth 100000 in
theorem c_digits_UnHex (ls : List AV) (Rv : List AV × Int → Prop) : callA E_digits_UnHex Tryz.f91 (instL ls P_digits_UnHex 0) [] (outP O_digits_UnHex fun ls => Rv (tup_digits_UnHex ls)) = (T_digits_UnHex (getS (ls.getD 0 .junk))).fold False (Sum.elim (L_digits_UnHex (getS (ls.getD 0 .junk)) Rv) Rv) := by kernel_rfl
end
noncomputable def S_digits_UnHex : Go.Cx.Spec := pureS (patF P_digits_UnHex fun ls => opt (g_digits_UnHex (getS (ls.getD 0 .junk))) fun x => .r (res_digits_UnHex x))
set_option maxRecDepth 100000 in
theorem S_digits_UnHex_ok : Sound Tryz.prog 91 S_digits_UnHex :=
  pure_mach (E := E_digits_UnHex) (TblOK.enK TYsG625t_ok _ _ _ _ _) mixed rfl Tryz.func91 (c := Tryz.f91.body.getD .skip) (by kernel_rfl) (by kernel_rfl) (pats := P_digits_UnHex) (O := O_digits_UnHex) (tup := tup_digits_UnHex) (res := res_digits_UnHex) (g := fun ls => g_digits_UnHex (getS (ls.getD 0 .junk))) (T := fun ls => T_digits_UnHex (getS (ls.getD 0 .junk))) (step := fun ls => M_digits_UnHex (getS (ls.getD 0 .junk))) (L := fun ls => L_digits_UnHex (getS (ls.getD 0 .junk))) (fun _ => rfl) (fun ls => by kernel_rfl) c_digits_UnHex (fun ls Rv => h_digits_UnHex (getS (ls.getD 0 .junk)) Rv)
noncomputable def TYsG626t : FuncId → Option Go.Cx.Spec := addT TYsG625t 91 S_digits_UnHex
theorem TYsG626t_ok : TblOK Tryz.prog TYsG626t := TYsG625t_ok.add S_digits_UnHex_ok
noncomputable def E_simple_rule_hex : En := enK Tryz.prog TYsG626t [] [] [] [] 0
def P_simple_rule_hex : List Pat := [.agg [.leaf .str, .leaf (.int .i64), .leaf (.int .i64), .leaf (.int .i64), .leaf (.int .i64), .leaf (.int .i64)], .leaf .str]
def O_simple_rule_hex : Pat := .leaf .bool
def tup_simple_rule_hex : List AV → Bool := fun ls => getB (ls.getD 0 .junk)
def res_simple_rule_hex : Bool → AV := fun x => .bool (x)
noncomputable def T_simple_rule_hex (x0 : List UInt8) (x1 : Int) (x2 : Int) (x3 : Int) (x4 : Int) (x5 : Int) (x6 : List UInt8) : Tr (Bool) := (opt (Go.Proofs.YtcnalhganahiiaaGreatDoor.g_digits_UnHex x6) fun (y0 : List Go.Cx.AV × Int) => (.c (Prod.snd y0 == (0 : Int)) (.c (Decidable.decide ((↑(List.length x6) : Int) ≥ x4)) (.r (Decidable.decide ((↑(List.length x6) : Int) ≤ x5))) (.r (Bool.false))) (.r (Bool.false))))
noncomputable def g_simple_rule_hex (x0 : List UInt8) (x1 : Int) (x2 : Int) (x3 : Int) (x4 : Int) (x5 : Int) (x6 : List UInt8) : Option (Bool) := (T_simple_rule_hex x0 x1 x2 x3 x4 x5 x6).val
set_option maxRecDepth 100000 in
theorem c_simple_rule_hex (ls : List AV) (Rv : Bool → Prop) : callA E_simple_rule_hex Tryz.f68 (instL ls P_simple_rule_hex 0) [] (outP O_simple_rule_hex fun ls => Rv (tup_simple_rule_hex ls)) = (T_simple_rule_hex (getS (ls.getD 0 .junk)) (getI (ls.getD 1 .junk)) (getI (ls.getD 2 .junk)) (getI (ls.getD 3 .junk)) (getI (ls.getD 4 .junk)) (getI (ls.getD 5 .junk)) (getS (ls.getD 6 .junk))).fold False Rv := by kernel_rfl
noncomputable def S_simple_rule_hex : Go.Cx.Spec := pureS (patF P_simple_rule_hex fun ls => opt (g_simple_rule_hex (getS (ls.getD 0 .junk)) (getI (ls.getD 1 .junk)) (getI (ls.getD 2 .junk)) (getI (ls.getD 3 .junk)) (getI (ls.getD 4 .junk)) (getI (ls.getD 5 .junk)) (getS (ls.getD 6 .junk))) fun x => .r (res_simple_rule_hex x))
set_option maxRecDepth 100000 in
theorem S_simple_rule_hex_ok : Sound Tryz.prog 68 S_simple_rule_hex :=
  pure_flat (E := E_simple_rule_hex) (TblOK.enK TYsG626t_ok _ _ _ _ _) mixed rfl Tryz.func68 (c := Tryz.f68.body.getD .skip) (by kernel_rfl) (by kernel_rfl) (pats := P_simple_rule_hex) (O := O_simple_rule_hex) (tup := tup_simple_rule_hex) (res := res_simple_rule_hex) (g := fun ls => g_simple_rule_hex (getS (ls.getD 0 .junk)) (getI (ls.getD 1 .junk)) (getI (ls.getD 2 .junk)) (getI (ls.getD 3 .junk)) (getI (ls.getD 4 .junk)) (getI (ls.getD 5 .junk)) (getS (ls.getD 6 .junk))) (T := fun ls => T_simple_rule_hex (getS (ls.getD 0 .junk)) (getI (ls.getD 1 .junk)) (getI (ls.getD 2 .junk)) (getI (ls.getD 3 .junk)) (getI (ls.getD 4 .junk)) (getI (ls.getD 5 .junk)) (getS (ls.getD 6 .junk))) (fun _ => rfl) (fun ls => by kernel_rfl) c_simple_rule_hex
noncomputable def TYsG627t : FuncId → Option Go.Cx.Spec := addT TYsG626t 68 S_simple_rule_hex
theorem TYsG627t_ok : TblOK Tryz.prog TYsG627t := TYsG626t_ok.add S_simple_rule_hex_ok
noncomputable def E_simple_rule_none : En := enK Tryz.prog TYsG627t [] [] [] [] 0
def P_simple_rule_none : List Pat := [.agg [.leaf .str, .leaf (.int .i64), .leaf (.int .i64), .leaf (.int .i64), .leaf (.int .i64), .leaf (.int .i64)], .leaf .str]
def O_simple_rule_none : Pat := .leaf .bool
def tup_simple_rule_none : List AV → Bool := fun ls => getB (ls.getD 0 .junk)
def res_simple_rule_none : Bool → AV := fun x => .bool (x)
noncomputable def T_simple_rule_none (x0 : List UInt8) (x1 : Int) (x2 : Int) (x3 : Int) (x4 : Int) (x5 : Int) (x6 : List UInt8) : Tr (Bool) := (.r (Bool.false))
noncomputable def g_simple_rule_none (x0 : List UInt8) (x1 : Int) (x2 : Int) (x3 : Int) (x4 : Int) (x5 : Int) (x6 : List UInt8) : Option (Bool) := (T_simple_rule_none x0 x1 x2 x3 x4 x5 x6).val
set_option maxRecDepth 100000 in
theorem c_simple_rule_none (ls : List AV) (Rv : Bool → Prop) : callA E_simple_rule_none Tryz.f69 (instL ls P_simple_rule_none 0) [] (outP O_simple_rule_none fun ls => Rv (tup_simple_rule_none ls)) = (T_simple_rule_none (getS (ls.getD 0 .junk)) (getI (ls.getD 1 .junk)) (getI (ls.getD 2 .junk)) (getI (ls.getD 3 .junk)) (getI (ls.getD 4 .junk)) (getI (ls.getD 5 .junk)) (getS (ls.getD 6 .junk))).fold False Rv := by kernel_rfl
noncomputable def S_simple_rule_none : Go.Cx.Spec := pureS (patF P_simple_rule_none fun ls => opt (g_simple_rule_none (getS (ls.getD 0 .junk)) (getI (ls.getD 1 .junk)) (getI (ls.getD 2 .junk)) (getI (ls.getD 3 .junk)) (getI (ls.getD 4 .junk)) (getI (ls.getD 5 .junk)) (getS (ls.getD 6 .junk))) fun x => .r (res_simple_rule_none x))
set_option maxRecDepth 100000 in
theorem S_simple_rule_none_ok : Sound Tryz.prog 69 S_simple_rule_none :=
  pure_flat (E := E_simple_rule_none) (TblOK.enK TYsG627t_ok _ _ _ _ _) mixed rfl Tryz.func69 (c := Tryz.f69.body.getD .skip) (by kernel_rfl) (by kernel_rfl) (pats := P_simple_rule_none) (O := O_simple_rule_none) (tup := tup_simple_rule_none) (res := res_simple_rule_none) (g := fun ls => g_simple_rule_none (getS (ls.getD 0 .junk)) (getI (ls.getD 1 .junk)) (getI (ls.getD 2 .junk)) (getI (ls.getD 3 .junk)) (getI (ls.getD 4 .junk)) (getI (ls.getD 5 .junk)) (getS (ls.getD 6 .junk))) (T := fun ls => T_simple_rule_none (getS (ls.getD 0 .junk)) (getI (ls.getD 1 .junk)) (getI (ls.getD 2 .junk)) (getI (ls.getD 3 .junk)) (getI (ls.getD 4 .junk)) (getI (ls.getD 5 .junk)) (getS (ls.getD 6 .junk))) (fun _ => rfl) (fun ls => by kernel_rfl) c_simple_rule_none
noncomputable def TYsG628t : FuncId → Option Go.Cx.Spec := addT TYsG627t 69 S_simple_rule_none
theorem TYsG628t_ok : TblOK Tryz.prog TYsG628t := TYsG627t_ok.add S_simple_rule_none_ok
noncomputable def E_simple_Check : En := enK Tryz.prog TYsG628t [] [] [] [] 0
def P_simple_Check : List Pat := [.agg [.leaf .str, .leaf (.int .i64), .leaf (.int .i64), .leaf (.int .i64), .leaf (.int .i64), .leaf (.int .i64)], .leaf .str]
def O_simple_Check : Pat := .leaf (.int .i64)
def tup_simple_Check : List AV → Int := fun ls => getI (ls.getD 0 .junk)
def res_simple_Check : Int → AV := fun x => .int .i64 (x)
noncomputable def T_simple_Check (x0 : List UInt8) (x1 : Int) (x2 : Int) (x3 : Int) (x4 : Int) (x5 : Int) (x6 : List UInt8) : Tr (Int) := (.c (x3 == (1 : Int)) (opt (Go.Proofs.YtcnalhganahiiaaGreatDoor.g_simple_rule_number x0 x1 x2 x3 x4 x5 x6) fun (y0 : Bool) => (.c (!y0) (.r ((14 : Int))) (.r ((0 : Int))))) (.c (x3 == (2 : Int)) (opt (Go.Proofs.YtcnalhganahiiaaGreatDoor.g_simple_rule_text x0 x1 x2 x3 x4 x5 x6) fun (y0 : Bool) => (.c (!y0) (.r ((14 : Int))) (.r ((0 : Int))))) (.c (x3 == (3 : Int)) (opt (Go.Proofs.YtcnalhganahiiaaGreatDoor.g_simple_rule_code x0 x1 x2 x3 x4 x5 x6) fun (y0 : Bool) => (.c (!y0) (.r ((14 : Int))) (.r ((0 : Int))))) (.c (x3 == (4 : Int)) .bad (.c (x3 == (5 : Int)) .bad (.c (x3 == (6 : Int)) (opt (Go.Proofs.YtcnalhganahiiaaGreatDoor.g_simple_rule_alnum x0 x1 x2 x3 x4 x5 x6) fun (y0 : Bool) => (.c (!y0) (.r ((14 : Int))) (.r ((0 : Int))))) (.c (x3 == (7 : Int)) (opt (Go.Proofs.YtcnalhganahiiaaGreatDoor.g_simple_rule_hex x0 x1 x2 x3 x4 x5 x6) fun (y0 : Bool) => (.c (!y0) (.r ((14 : Int))) (.r ((0 : Int))))) (.r ((14 : Int))))))))))
noncomputable def g_simple_Check (x0 : List UInt8) (x1 : Int) (x2 : Int) (x3 : Int) (x4 : Int) (x5 : Int) (x6 : List UInt8) : Option (Int) := (T_simple_Check x0 x1 x2 x3 x4 x5 x6).val
set_option maxRecDepth 100000 in
theorem c_simple_Check (ls : List AV) (Rv : Int → Prop) : callA E_simple_Check Tryz.f19 (instL ls P_simple_Check 0) [] (outP O_simple_Check fun ls => Rv (tup_simple_Check ls)) = (T_simple_Check (getS (ls.getD 0 .junk)) (getI (ls.getD 1 .junk)) (getI (ls.getD 2 .junk)) (getI (ls.getD 3 .junk)) (getI (ls.getD 4 .junk)) (getI (ls.getD 5 .junk)) (getS (ls.getD 6 .junk))).fold False Rv := by kernel_rfl
noncomputable def S_simple_Check : Go.Cx.Spec := pureS (patF P_simple_Check fun ls => opt (g_simple_Check (getS (ls.getD 0 .junk)) (getI (ls.getD 1 .junk)) (getI (ls.getD 2 .junk)) (getI (ls.getD 3 .junk)) (getI (ls.getD 4 .junk)) (getI (ls.getD 5 .junk)) (getS (ls.getD 6 .junk))) fun x => .r (res_simple_Check x))
set_option maxRecDepth 100000 in
theorem S_simple_Check_ok : Sound Tryz.prog 19 S_simple_Check :=
  pure_flat (E := E_simple_Check) (TblOK.enK TYsG628t_ok _ _ _ _ _) mixed rfl Tryz.func19 (c := Tryz.f19.body.getD .skip) (by kernel_rfl) (by kernel_rfl) (pats := P_simple_Check) (O := O_simple_Check) (tup := tup_simple_Check) (res := res_simple_Check) (g := fun ls => g_simple_Check (getS (ls.getD 0 .junk)) (getI (ls.getD 1 .junk)) (getI (ls.getD 2 .junk)) (getI (ls.getD 3 .junk)) (getI (ls.getD 4 .junk)) (getI (ls.getD 5 .junk)) (getS (ls.getD 6 .junk))) (T := fun ls => T_simple_Check (getS (ls.getD 0 .junk)) (getI (ls.getD 1 .junk)) (getI (ls.getD 2 .junk)) (getI (ls.getD 3 .junk)) (getI (ls.getD 4 .junk)) (getI (ls.getD 5 .junk)) (getS (ls.getD 6 .junk))) (fun _ => rfl) (fun ls => by kernel_rfl) c_simple_Check
noncomputable def TYsG629t : FuncId → Option Go.Cx.Spec := addT TYsG628t 19 S_simple_Check
theorem TYsG629t_ok : TblOK Tryz.prog TYsG629t := TYsG628t_ok.add S_simple_Check_ok
noncomputable def E_comptoirlaw10_awake : En := enK Tryz.prog TYsG629t [] [] [] [] 0
def P_comptoirlaw10_awake : List Pat := []
def O_comptoirlaw10_awake : Pat := .leaf .bool
def tup_comptoirlaw10_awake : List AV → Bool := fun ls => getB (ls.getD 0 .junk)
def res_comptoirlaw10_awake : Bool → AV := fun x => .bool (x)
noncomputable def T_comptoirlaw10_awake : Tr (Bool) := (opt (Go.Proofs.YtcnalhganahiiaaGreatDoor.g_simple_TimeText [(50 : UInt8), (48 : UInt8), (50 : UInt8), (54 : UInt8), (48 : UInt8), (49 : UInt8), (48 : UInt8), (49 : UInt8), (49 : UInt8), (50 : UInt8), (48 : UInt8), (48 : UInt8), (48 : UInt8), (48 : UInt8)]) fun (y0 : List UInt8 × Int) => (.c (Prod.snd y0 == (0 : Int)) (.c (Prod.fst y0 == [(50 : UInt8), (48 : UInt8), (50 : UInt8), (54 : UInt8), (45 : UInt8), (48 : UInt8), (49 : UInt8), (45 : UInt8), (48 : UInt8), (49 : UInt8), (84 : UInt8), (49 : UInt8), (50 : UInt8), (58 : UInt8), (48 : UInt8), (48 : UInt8), (58 : UInt8), (48 : UInt8), (48 : UInt8)]) (.r (Bool.true)) (.r (Bool.false))) (.r (Bool.false))))
noncomputable def g_comptoirlaw10_awake : Option (Bool) := (T_comptoirlaw10_awake).val
set_option maxRecDepth 100000 in
theorem c_comptoirlaw10_awake (ls : List AV) (Rv : Bool → Prop) : callA E_comptoirlaw10_awake Tryz.f8 (instL ls P_comptoirlaw10_awake 0) [] (outP O_comptoirlaw10_awake fun ls => Rv (tup_comptoirlaw10_awake ls)) = (T_comptoirlaw10_awake).fold False Rv := by kernel_rfl
noncomputable def S_comptoirlaw10_awake : Go.Cx.Spec := pureS (patF P_comptoirlaw10_awake fun ls => opt (g_comptoirlaw10_awake) fun x => .r (res_comptoirlaw10_awake x))
set_option maxRecDepth 100000 in
theorem S_comptoirlaw10_awake_ok : Sound Tryz.prog 8 S_comptoirlaw10_awake :=
  pure_flat (E := E_comptoirlaw10_awake) (TblOK.enK TYsG629t_ok _ _ _ _ _) mixed rfl Tryz.func8 (c := Tryz.f8.body.getD .skip) (by kernel_rfl) (by kernel_rfl) (pats := P_comptoirlaw10_awake) (O := O_comptoirlaw10_awake) (tup := tup_comptoirlaw10_awake) (res := res_comptoirlaw10_awake) (g := fun ls => g_comptoirlaw10_awake) (T := fun ls => T_comptoirlaw10_awake) (fun _ => rfl) (fun ls => by kernel_rfl) c_comptoirlaw10_awake
noncomputable def TYsG630t : FuncId → Option Go.Cx.Spec := addT TYsG629t 8 S_comptoirlaw10_awake
theorem TYsG630t_ok : TblOK Tryz.prog TYsG630t := TYsG629t_ok.add S_comptoirlaw10_awake_ok
noncomputable def E_comptoirlaw10_SimpleChecks_1_0ppp : En := enK Tryz.prog TYsG630t [] [] [] [] 0
def P_comptoirlaw10_SimpleChecks_1_0ppp : List Pat := [.leaf (.int .i64), .rptr [.leaf (.int .i64)], .rptr [.leaf (.int .i64)], .rptr [.leaf .str]]
def O_comptoirlaw10_SimpleChecks_1_0ppp : Pat := .leaf .bool
def tup_comptoirlaw10_SimpleChecks_1_0ppp : List AV → Bool := fun ls => getB (ls.getD 0 .junk)
def res_comptoirlaw10_SimpleChecks_1_0ppp : Bool → AV := fun x => .bool (x)
noncomputable def T_comptoirlaw10_SimpleChecks_1_0ppp (x0 : Int) (x1 : Int) (x2 : Int) (x3 : List UInt8) : Tr (Bool) := (opt (Go.Proofs.YtcnalhganahiiaaGreatDoor.g_simple_Check [] (0 : Int) (0 : Int) x0 x1 x2 x3) fun (y0 : Int) => (.r (y0 == (0 : Int))))
noncomputable def g_comptoirlaw10_SimpleChecks_1_0ppp (x0 : Int) (x1 : Int) (x2 : Int) (x3 : List UInt8) : Option (Bool) := (T_comptoirlaw10_SimpleChecks_1_0ppp x0 x1 x2 x3).val
set_option maxRecDepth 100000 in
theorem c_comptoirlaw10_SimpleChecks_1_0ppp (ls : List AV) (Rv : Bool → Prop) : callA E_comptoirlaw10_SimpleChecks_1_0ppp Tryz.f24 (instL ls P_comptoirlaw10_SimpleChecks_1_0ppp 0) [] (outP O_comptoirlaw10_SimpleChecks_1_0ppp fun ls => Rv (tup_comptoirlaw10_SimpleChecks_1_0ppp ls)) = (T_comptoirlaw10_SimpleChecks_1_0ppp (getI (ls.getD 0 .junk)) (getI (ls.getD 1 .junk)) (getI (ls.getD 2 .junk)) (getS (ls.getD 3 .junk))).fold False Rv := by kernel_rfl
noncomputable def S_comptoirlaw10_SimpleChecks_1_0ppp : Go.Cx.Spec := pureS (patF P_comptoirlaw10_SimpleChecks_1_0ppp fun ls => opt (g_comptoirlaw10_SimpleChecks_1_0ppp (getI (ls.getD 0 .junk)) (getI (ls.getD 1 .junk)) (getI (ls.getD 2 .junk)) (getS (ls.getD 3 .junk))) fun x => .r (res_comptoirlaw10_SimpleChecks_1_0ppp x))
set_option maxRecDepth 100000 in
theorem S_comptoirlaw10_SimpleChecks_1_0ppp_ok : Sound Tryz.prog 24 S_comptoirlaw10_SimpleChecks_1_0ppp :=
  pure_flat (E := E_comptoirlaw10_SimpleChecks_1_0ppp) (TblOK.enK TYsG630t_ok _ _ _ _ _) mixed rfl Tryz.func24 (c := Tryz.f24.body.getD .skip) (by kernel_rfl) (by kernel_rfl) (pats := P_comptoirlaw10_SimpleChecks_1_0ppp) (O := O_comptoirlaw10_SimpleChecks_1_0ppp) (tup := tup_comptoirlaw10_SimpleChecks_1_0ppp) (res := res_comptoirlaw10_SimpleChecks_1_0ppp) (g := fun ls => g_comptoirlaw10_SimpleChecks_1_0ppp (getI (ls.getD 0 .junk)) (getI (ls.getD 1 .junk)) (getI (ls.getD 2 .junk)) (getS (ls.getD 3 .junk))) (T := fun ls => T_comptoirlaw10_SimpleChecks_1_0ppp (getI (ls.getD 0 .junk)) (getI (ls.getD 1 .junk)) (getI (ls.getD 2 .junk)) (getS (ls.getD 3 .junk))) (fun _ => rfl) (fun ls => by kernel_rfl) c_comptoirlaw10_SimpleChecks_1_0ppp
noncomputable def TYsG631t : FuncId → Option Go.Cx.Spec := addT TYsG630t 24 S_comptoirlaw10_SimpleChecks_1_0ppp
theorem TYsG631t_ok : TblOK Tryz.prog TYsG631t := TYsG630t_ok.add S_comptoirlaw10_SimpleChecks_1_0ppp_ok
noncomputable def E_comptoirlaw10_SimpleChecks : En := enK Tryz.prog TYsG631t [] [(4, ⟨[0, 1, 5, 6, 9, 10, 11, 12, 13, 14, 15, 16, 17, 18, 19, 20, 21, 22, 23, 24, 25, 26, 27, 28, 29, 30, 31, 32, 33, 34, 35, 36, 37, 38, 39, 40, 41, 42, 43, 44, 45, 46, 47, 48, 49, 50, 51, 52, 53, 54, 55, 56, 57, 58, 59, 60, 61, 62, 63, 64, 65, 66, 67, 68, 69, 70, 71, 72, 73, 74, 75, 76, 77, 78, 79, 80, 81, 82, 83, 84, 85, 86, 87, 88], [], [], none, [], [], [], [], true⟩)] [] [] 0
def P_comptoirlaw10_SimpleChecks : List Pat := [.leaf (.int .i64), .leaf (.int .i64), .leaf (.int .i64)]
def O_comptoirlaw10_SimpleChecks : Pat := .leaf .bool
def tup_comptoirlaw10_SimpleChecks : List AV → Bool := fun ls => getB (ls.getD 0 .junk)
def res_comptoirlaw10_SimpleChecks : Bool → AV := fun x => .bool (x)
noncomputable def T_comptoirlaw10_SimpleChecks (x0 : Int) (x1 : Int) (x2 : Int) : Tr ((Int × List UInt8) ⊕ (Bool)) := (.r (.inl (((0 : Int), []))))
noncomputable def M_comptoirlaw10_SimpleChecks (x0 : Int) (x1 : Int) (x2 : Int) : Int × List UInt8 → Tr ((Int × List UInt8) ⊕ (Bool))
  | (i0, s0) => (.c (Decidable.decide (i0 < Go.IntKind.wrap Go.IntKind.i64 (Int.tmod (Go.IntKind.wrap Go.IntKind.u64 x2) (24 : Int)))) (.c (Decidable.decide (List.length s0 + (1 : Nat) < (70368744177664 : Nat))) (.r (.inl ((Go.IntKind.wrap Go.IntKind.i64 (i0 + (1 : Int)), s0 ++ [(55 : UInt8)])))) .bad) (.c (Decidable.decide (Go.IntKind.wrap Go.IntKind.i64 (Int.tmod (Go.IntKind.wrap Go.IntKind.u64 x2) (24 : Int)) ≥ Go.IntKind.wrap Go.IntKind.i64 (Int.tmod (Go.IntKind.wrap Go.IntKind.u64 x0) (20 : Int)))) (opt (Go.Proofs.YtcnalhganahiiaaGreatDoor.g_comptoirlaw10_awake) fun (y0 : Bool) => (.c (y0) (opt (Go.Proofs.YtcnalhganahiiaaGreatDoor.g_comptoirlaw10_SimpleChecks_1_0ppp (1 : Int) (Go.IntKind.wrap Go.IntKind.i64 (Int.tmod (Go.IntKind.wrap Go.IntKind.u64 x0) (20 : Int))) (Go.IntKind.wrap Go.IntKind.i64 (Int.tmod (Go.IntKind.wrap Go.IntKind.u64 x1) (20 : Int))) s0) fun (y1 : Bool) => (.c (y1 == Decidable.decide (Go.IntKind.wrap Go.IntKind.i64 (Int.tmod (Go.IntKind.wrap Go.IntKind.u64 x2) (24 : Int)) ≤ Go.IntKind.wrap Go.IntKind.i64 (Int.tmod (Go.IntKind.wrap Go.IntKind.u64 x1) (20 : Int)))) (opt (Go.Proofs.YtcnalhganahiiaaGreatDoor.g_comptoirlaw10_SimpleChecks_1_0ppp (2 : Int) (Go.IntKind.wrap Go.IntKind.i64 (Int.tmod (Go.IntKind.wrap Go.IntKind.u64 x0) (20 : Int))) (Go.IntKind.wrap Go.IntKind.i64 (Int.tmod (Go.IntKind.wrap Go.IntKind.u64 x1) (20 : Int))) s0) fun (y2 : Bool) => (.c (y2 == Decidable.decide (Go.IntKind.wrap Go.IntKind.i64 (Int.tmod (Go.IntKind.wrap Go.IntKind.u64 x2) (24 : Int)) ≤ Go.IntKind.wrap Go.IntKind.i64 (Int.tmod (Go.IntKind.wrap Go.IntKind.u64 x1) (20 : Int)))) (opt (Go.Proofs.YtcnalhganahiiaaGreatDoor.g_comptoirlaw10_SimpleChecks_1_0ppp (6 : Int) (Go.IntKind.wrap Go.IntKind.i64 (Int.tmod (Go.IntKind.wrap Go.IntKind.u64 x0) (20 : Int))) (Go.IntKind.wrap Go.IntKind.i64 (Int.tmod (Go.IntKind.wrap Go.IntKind.u64 x1) (20 : Int))) s0) fun (y3 : Bool) => (.c (y3 == Decidable.decide (Go.IntKind.wrap Go.IntKind.i64 (Int.tmod (Go.IntKind.wrap Go.IntKind.u64 x2) (24 : Int)) ≤ Go.IntKind.wrap Go.IntKind.i64 (Int.tmod (Go.IntKind.wrap Go.IntKind.u64 x1) (20 : Int)))) (opt (Go.Proofs.YtcnalhganahiiaaGreatDoor.g_comptoirlaw10_SimpleChecks_1_0ppp (7 : Int) (Go.IntKind.wrap Go.IntKind.i64 (Int.tmod (Go.IntKind.wrap Go.IntKind.u64 x0) (20 : Int))) (Go.IntKind.wrap Go.IntKind.i64 (Int.tmod (Go.IntKind.wrap Go.IntKind.u64 x1) (20 : Int))) s0) fun (y4 : Bool) => (.c (Decidable.decide (Go.IntKind.wrap Go.IntKind.i64 (Int.tmod (Go.IntKind.wrap Go.IntKind.u64 x2) (24 : Int)) ≤ Go.IntKind.wrap Go.IntKind.i64 (Int.tmod (Go.IntKind.wrap Go.IntKind.u64 x1) (20 : Int)))) (.c (y4 == (Int.tmod (Go.IntKind.wrap Go.IntKind.i64 (Int.tmod (Go.IntKind.wrap Go.IntKind.u64 x2) (24 : Int))) (2 : Int) == (0 : Int))) (opt (Go.Proofs.YtcnalhganahiiaaGreatDoor.g_comptoirlaw10_SimpleChecks_1_0ppp (3 : Int) (Go.IntKind.wrap Go.IntKind.i64 (Int.tmod (Go.IntKind.wrap Go.IntKind.u64 x0) (20 : Int))) (Go.IntKind.wrap Go.IntKind.i64 (Int.tmod (Go.IntKind.wrap Go.IntKind.u64 x1) (20 : Int))) s0) fun (y5 : Bool) => (.c (!y5) (.r (.inr (Bool.true))) (.r (.inr (Bool.false))))) (.r (.inr (Bool.false)))) (.c (y4 == Bool.false) (opt (Go.Proofs.YtcnalhganahiiaaGreatDoor.g_comptoirlaw10_SimpleChecks_1_0ppp (3 : Int) (Go.IntKind.wrap Go.IntKind.i64 (Int.tmod (Go.IntKind.wrap Go.IntKind.u64 x0) (20 : Int))) (Go.IntKind.wrap Go.IntKind.i64 (Int.tmod (Go.IntKind.wrap Go.IntKind.u64 x1) (20 : Int))) s0) fun (y5 : Bool) => (.c (!y5) (.r (.inr (Bool.true))) (.r (.inr (Bool.false))))) (.r (.inr (Bool.false)))))) (.r (.inr (Bool.false))))) (.r (.inr (Bool.false))))) (.r (.inr (Bool.false))))) (.r (.inr (Bool.false))))) (opt (Go.Proofs.YtcnalhganahiiaaGreatDoor.g_comptoirlaw10_awake) fun (y0 : Bool) => (.c (y0) (opt (Go.Proofs.YtcnalhganahiiaaGreatDoor.g_comptoirlaw10_SimpleChecks_1_0ppp (1 : Int) (Go.IntKind.wrap Go.IntKind.i64 (Int.tmod (Go.IntKind.wrap Go.IntKind.u64 x0) (20 : Int))) (Go.IntKind.wrap Go.IntKind.i64 (Int.tmod (Go.IntKind.wrap Go.IntKind.u64 x1) (20 : Int))) s0) fun (y1 : Bool) => (.c (y1 == Bool.false) (opt (Go.Proofs.YtcnalhganahiiaaGreatDoor.g_comptoirlaw10_SimpleChecks_1_0ppp (2 : Int) (Go.IntKind.wrap Go.IntKind.i64 (Int.tmod (Go.IntKind.wrap Go.IntKind.u64 x0) (20 : Int))) (Go.IntKind.wrap Go.IntKind.i64 (Int.tmod (Go.IntKind.wrap Go.IntKind.u64 x1) (20 : Int))) s0) fun (y2 : Bool) => (.c (y2 == Bool.false) (opt (Go.Proofs.YtcnalhganahiiaaGreatDoor.g_comptoirlaw10_SimpleChecks_1_0ppp (6 : Int) (Go.IntKind.wrap Go.IntKind.i64 (Int.tmod (Go.IntKind.wrap Go.IntKind.u64 x0) (20 : Int))) (Go.IntKind.wrap Go.IntKind.i64 (Int.tmod (Go.IntKind.wrap Go.IntKind.u64 x1) (20 : Int))) s0) fun (y3 : Bool) => (.c (y3 == Bool.false) (opt (Go.Proofs.YtcnalhganahiiaaGreatDoor.g_comptoirlaw10_SimpleChecks_1_0ppp (7 : Int) (Go.IntKind.wrap Go.IntKind.i64 (Int.tmod (Go.IntKind.wrap Go.IntKind.u64 x0) (20 : Int))) (Go.IntKind.wrap Go.IntKind.i64 (Int.tmod (Go.IntKind.wrap Go.IntKind.u64 x1) (20 : Int))) s0) fun (y4 : Bool) => (.c (y4 == Bool.false) (opt (Go.Proofs.YtcnalhganahiiaaGreatDoor.g_comptoirlaw10_SimpleChecks_1_0ppp (3 : Int) (Go.IntKind.wrap Go.IntKind.i64 (Int.tmod (Go.IntKind.wrap Go.IntKind.u64 x0) (20 : Int))) (Go.IntKind.wrap Go.IntKind.i64 (Int.tmod (Go.IntKind.wrap Go.IntKind.u64 x1) (20 : Int))) s0) fun (y5 : Bool) => (.c (!y5) (.r (.inr (Bool.true))) (.r (.inr (Bool.false))))) (.r (.inr (Bool.false))))) (.r (.inr (Bool.false))))) (.r (.inr (Bool.false))))) (.r (.inr (Bool.false))))) (.r (.inr (Bool.false)))))))
noncomputable def g_comptoirlaw10_SimpleChecks (x0 : Int) (x1 : Int) (x2 : Int) : Option (Bool) := run (M_comptoirlaw10_SimpleChecks x0 x1 x2) (T_comptoirlaw10_SimpleChecks x0 x1 x2)
noncomputable def b_comptoirlaw10_SimpleChecks := Tryz.f6.body.getD .skip
noncomputable def st_comptoirlaw10_SimpleChecks_0 (x0 : Int) (x1 : Int) (x2 : Int) (i0 : Int) (s0 : List UInt8) : St := ⟨frOf 0 89 [(2, Go.Cx.AV.int Go.IntKind.i64 (Go.IntKind.wrap Go.IntKind.i64 (Int.tmod (Go.IntKind.wrap Go.IntKind.u64 x2) (24 : Int)))), (3, Go.Cx.AV.ptr (0 : Nat) (0 : Nat)), (4, Go.Cx.AV.ptr (1 : Nat) (0 : Nat)), (7, Go.Cx.AV.ptr (2 : Nat) (0 : Nat)), (8, Go.Cx.AV.int Go.IntKind.i64 i0)], [Go.Cx.Ob.fix (3 : Nat) [Go.Cx.AV.int Go.IntKind.i64 (Go.IntKind.wrap Go.IntKind.i64 (Int.tmod (Go.IntKind.wrap Go.IntKind.u64 x0) (20 : Int)))], Go.Cx.Ob.fix (3 : Nat) [Go.Cx.AV.int Go.IntKind.i64 (Go.IntKind.wrap Go.IntKind.i64 (Int.tmod (Go.IntKind.wrap Go.IntKind.u64 x1) (20 : Int)))], Go.Cx.Ob.fix (9 : Nat) [Go.Cx.AV.str s0]]⟩
noncomputable def L_comptoirlaw10_SimpleChecks (x0 : Int) (x1 : Int) (x2 : Int) (Rv : Bool → Prop) : Int × List UInt8 → Prop
  | (i0, s0) => headL E_comptoirlaw10_SimpleChecks [.r, .r, .r, .l, .r, .d] b_comptoirlaw10_SimpleChecks 1000 (bodyK E_comptoirlaw10_SimpleChecks Tryz.f6 (outP O_comptoirlaw10_SimpleChecks fun ls => Rv (tup_comptoirlaw10_SimpleChecks ls))) (st_comptoirlaw10_SimpleChecks_0 x0 x1 x2 i0 s0)
set_option maxRecDepth 100000 in
theorem l_comptoirlaw10_SimpleChecks_0 (x0 : Int) (x1 : Int) (x2 : Int) (Rv : Bool → Prop) (i0 : Int) (s0 : List UInt8) : stepL E_comptoirlaw10_SimpleChecks [.r, .r, .r, .l, .r, .d] b_comptoirlaw10_SimpleChecks 1000 (bodyK E_comptoirlaw10_SimpleChecks Tryz.f6 (outP O_comptoirlaw10_SimpleChecks fun ls => Rv (tup_comptoirlaw10_SimpleChecks ls))) (st_comptoirlaw10_SimpleChecks_0 x0 x1 x2 i0 s0) =
  (M_comptoirlaw10_SimpleChecks x0 x1 x2 ((i0, s0))).fold False (Sum.elim (L_comptoirlaw10_SimpleChecks x0 x1 x2 Rv) Rv) := by kernel_rfl
set_option maxRecDepth 100000 in
theorem e_comptoirlaw10_SimpleChecks_0 (x0 : Int) (x1 : Int) (x2 : Int) (Rv : Bool → Prop) (i0 : Int) (s0 : List UInt8) : L_comptoirlaw10_SimpleChecks x0 x1 x2 Rv ((i0, s0)) = headL E_comptoirlaw10_SimpleChecks [.r, .r, .r, .l, .r, .d] b_comptoirlaw10_SimpleChecks 1000 (bodyK E_comptoirlaw10_SimpleChecks Tryz.f6 (outP O_comptoirlaw10_SimpleChecks fun ls => Rv (tup_comptoirlaw10_SimpleChecks ls))) (st_comptoirlaw10_SimpleChecks_0 x0 x1 x2 i0 s0) := by kernel_rfl
section
attribute [local irreducible] Tr.fold M_comptoirlaw10_SimpleChecks L_comptoirlaw10_SimpleChecks T_comptoirlaw10_SimpleChecks E_comptoirlaw10_SimpleChecks b_comptoirlaw10_SimpleChecks bodyK headC headL stepC stepL wpX callA
set_option maxRecDepth 100000 in
theorem h_comptoirlaw10_SimpleChecks (x0 : Int) (x1 : Int) (x2 : Int) (Rv : Bool → Prop) : ∀ s, (M_comptoirlaw10_SimpleChecks x0 x1 x2 s).fold False (Sum.elim (L_comptoirlaw10_SimpleChecks x0 x1 x2 Rv) Rv) → L_comptoirlaw10_SimpleChecks x0 x1 x2 Rv s := by
  rintro (⟨v0, v1⟩)
  · exact fun h => Eq.mpr (e_comptoirlaw10_SimpleChecks_0 x0 x1 x2 Rv v0 v1) (headL_of (Eq.mpr (l_comptoirlaw10_SimpleChecks_0 x0 x1 x2 Rv v0 v1) h))
set_option maxRecDepth 100000 in
theorem c_comptoirlaw10_SimpleChecks (ls : List AV) (Rv : Bool → Prop) : callA E_comptoirlaw10_SimpleChecks Tryz.f6 (instL ls P_comptoirlaw10_SimpleChecks 0) [] (outP O_comptoirlaw10_SimpleChecks fun ls => Rv (tup_comptoirlaw10_SimpleChecks ls)) = (T_comptoirlaw10_SimpleChecks (getI (ls.getD 0 .junk)) (getI (ls.getD 1 .junk)) (getI (ls.getD 2 .junk))).fold False (Sum.elim (L_comptoirlaw10_SimpleChecks (getI (ls.getD 0 .junk)) (getI (ls.getD 1 .junk)) (getI (ls.getD 2 .junk)) Rv) Rv) := by kernel_rfl
end
theorem eok_comptoirlaw10_SimpleChecks : EnOK E_comptoirlaw10_SimpleChecks := TblOK.enK TYsG631t_ok _ _ _ _ _
end Go.Proofs.YtcnalhganahiiaaGreatDoor
