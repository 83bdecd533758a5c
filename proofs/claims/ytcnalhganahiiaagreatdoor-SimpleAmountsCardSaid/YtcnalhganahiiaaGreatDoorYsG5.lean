/- Printed: what the functions that a statement reaches come to. -/
import Derived.Test.YtcnalhganahiiaaGreatDoorYsB
namespace Go.Proofs.YtcnalhganahiiaaGreatDoor
open Go.Cx Go.Cx.AV
set_option linter.unusedVariables false
noncomputable def E_digits_Text : En := enK Tryz.prog T0t [] [] [] [] 0
def P_digits_Text : List Pat := [.leaf (.int .u64), .leaf (.int .i64)]
def O_digits_Text : Pat := .tuple [.leaf .str, .leaf (.int .i64)]
def tup_digits_Text : List AV → List UInt8 × Int := fun ls => (getS (ls.getD 0 .junk), getI (ls.getD 1 .junk))
def res_digits_Text : List UInt8 × Int → AV := fun x => .tuple [.str (x.1), .int .i64 (x.2)]
noncomputable def T_digits_Text (x0 : Int) (x1 : Int) : Tr (List UInt8 × Int) := (.c (Decidable.decide (x1 < (1 : Int))) (.r (([], (1 : Int)))) (.c (Decidable.decide (x1 > (20 : Int))) (.r (([], (1 : Int)))) (.c (Decidable.decide ((0 : Int) ≤ x0)) (.c (Decidable.decide (x0 < (18446744073709551616 : Int))) (.c (Decidable.decide ((↑(List.length (Go.Lib.decDigits (Int.toNat x0))) : Int) > x1)) (.r (([], (4 : Int)))) (.c (Decidable.decide ((0 : Int) ≤ Go.IntKind.wrap Go.IntKind.i64 (x1 - (↑(List.length (Go.Lib.decDigits (Int.toNat x0))) : Int)))) (.c (Decidable.decide (Go.IntKind.wrap Go.IntKind.i64 (x1 - (↑(List.length (Go.Lib.decDigits (Int.toNat x0))) : Int)) ≤ (1000000000 : Int))) (.c (Decidable.decide (List.length (Go.Lib.repeatL [(48 : UInt8)] (Int.toNat (Go.IntKind.wrap Go.IntKind.i64 (x1 - (↑(List.length (Go.Lib.decDigits (Int.toNat x0))) : Int))))) + List.length (Go.Lib.decDigits (Int.toNat x0)) < (70368744177664 : Nat))) (.r ((Go.Lib.repeatL [(48 : UInt8)] (Int.toNat (Go.IntKind.wrap Go.IntKind.i64 (x1 - (↑(List.length (Go.Lib.decDigits (Int.toNat x0))) : Int)))) ++ Go.Lib.decDigits (Int.toNat x0), (0 : Int)))) .bad) .bad) .bad)) .bad) .bad)))
noncomputable def g_digits_Text (x0 : Int) (x1 : Int) : Option (List UInt8 × Int) := (T_digits_Text x0 x1).val
set_option maxRecDepth 100000 in
theorem c_digits_Text (ls : List AV) (Rv : List UInt8 × Int → Prop) : callA E_digits_Text Tryz.f33 (instL ls P_digits_Text 0) [] (outP O_digits_Text fun ls => Rv (tup_digits_Text ls)) = (T_digits_Text (getI (ls.getD 0 .junk)) (getI (ls.getD 1 .junk))).fold False Rv := by kernel_rfl
noncomputable def S_digits_Text : Go.Cx.Spec := pureS (patF P_digits_Text fun ls => opt (g_digits_Text (getI (ls.getD 0 .junk)) (getI (ls.getD 1 .junk))) fun x => .r (res_digits_Text x))
set_option maxRecDepth 100000 in
theorem S_digits_Text_ok : Sound Tryz.prog 33 S_digits_Text :=
  pure_flat (E := E_digits_Text) (TblOK.enK T0t_ok _ _ _ _ _) mixed rfl Tryz.func33 (c := Tryz.f33.body.getD .skip) (by kernel_rfl) (by kernel_rfl) (pats := P_digits_Text) (O := O_digits_Text) (tup := tup_digits_Text) (res := res_digits_Text) (g := fun ls => g_digits_Text (getI (ls.getD 0 .junk)) (getI (ls.getD 1 .junk))) (T := fun ls => T_digits_Text (getI (ls.getD 0 .junk)) (getI (ls.getD 1 .junk))) (fun _ => rfl) (fun ls => by kernel_rfl) c_digits_Text
noncomputable def TYsG51t : FuncId → Option Go.Cx.Spec := addT T0t 33 S_digits_Text
theorem TYsG51t_ok : TblOK Tryz.prog TYsG51t := T0t_ok.add S_digits_Text_ok
noncomputable def E_simple_AmountText : En := enK Tryz.prog TYsG51t [] [] [] [] 0
def P_simple_AmountText : List Pat := [.leaf (.int .u64)]
def O_simple_AmountText : Pat := .tuple [.leaf .str, .leaf (.int .i64)]
def tup_simple_AmountText : List AV → List UInt8 × Int := fun ls => (getS (ls.getD 0 .junk), getI (ls.getD 1 .junk))
def res_simple_AmountText : List UInt8 × Int → AV := fun x => .tuple [.str (x.1), .int .i64 (x.2)]
noncomputable def T_simple_AmountText (x0 : Int) : Tr (List UInt8 × Int) := (.c (Decidable.decide (x0 > (999999999999 : Int))) (.r (([], (4 : Int)))) (opt (Go.Proofs.YtcnalhganahiiaaGreatDoor.g_digits_Text x0 (18 : Int)) fun (y0 : List UInt8 × Int) => (.c (Decidable.decide ((16 : Int) ≤ (↑(List.length (Prod.fst y0)) : Int))) (.c (Decidable.decide (List.length (Go.Lib.trimLeftS (List.drop (0 : Nat) (List.take (Int.toNat (16 : Int)) (Prod.fst y0))) [(48 : UInt8)]) + (1 : Nat) < (70368744177664 : Nat))) (.c (Decidable.decide ((↑(List.length (Prod.fst y0)) : Int) ≤ (↑(List.length (Prod.fst y0)) : Int))) (.c (Decidable.decide ((16 : Int) ≤ (↑(List.length (Prod.fst y0)) : Int))) (.c (Decidable.decide (List.length (Go.Lib.trimLeftS (List.drop (0 : Nat) (List.take (Int.toNat (16 : Int)) (Prod.fst y0))) [(48 : UInt8)] ++ [(46 : UInt8)]) + List.length (List.drop (16 : Nat) (List.take (List.length (Prod.fst y0)) (Prod.fst y0))) < (70368744177664 : Nat))) (.c (Decidable.decide ((0 : Int) < (↑(List.length (Go.Lib.trimLeftS (List.drop (0 : Nat) (List.take (Int.toNat (16 : Int)) (Prod.fst y0))) [(48 : UInt8)] ++ [(46 : UInt8)] ++ List.drop (16 : Nat) (List.take (List.length (Prod.fst y0)) (Prod.fst y0)))) : Int))) (.c ((↑(UInt8.toNat (List.getD (Go.Lib.trimLeftS (List.drop (0 : Nat) (List.take (Int.toNat (16 : Int)) (Prod.fst y0))) [(48 : UInt8)] ++ [(46 : UInt8)] ++ List.drop (16 : Nat) (List.take (List.length (Prod.fst y0)) (Prod.fst y0))) (0 : Nat) (0 : UInt8))) : Int) == (46 : Int)) (.c (Decidable.decide ((1 : Nat) + List.length (Go.Lib.trimLeftS (List.drop (0 : Nat) (List.take (Int.toNat (16 : Int)) (Prod.fst y0))) [(48 : UInt8)] ++ [(46 : UInt8)] ++ List.drop (16 : Nat) (List.take (List.length (Prod.fst y0)) (Prod.fst y0))) < (70368744177664 : Nat))) (.r (([(48 : UInt8)] ++ (Go.Lib.trimLeftS (List.drop (0 : Nat) (List.take (Int.toNat (16 : Int)) (Prod.fst y0))) [(48 : UInt8)] ++ [(46 : UInt8)] ++ List.drop (16 : Nat) (List.take (List.length (Prod.fst y0)) (Prod.fst y0))), (0 : Int)))) .bad) (.r ((Go.Lib.trimLeftS (List.drop (0 : Nat) (List.take (Int.toNat (16 : Int)) (Prod.fst y0))) [(48 : UInt8)] ++ [(46 : UInt8)] ++ List.drop (16 : Nat) (List.take (List.length (Prod.fst y0)) (Prod.fst y0)), (0 : Int))))) .bad) .bad) .bad) .bad) .bad) .bad)))
noncomputable def g_simple_AmountText (x0 : Int) : Option (List UInt8 × Int) := (T_simple_AmountText x0).val
set_option maxRecDepth 100000 in
theorem c_simple_AmountText (ls : List AV) (Rv : List UInt8 × Int → Prop) : callA E_simple_AmountText Tryz.f15 (instL ls P_simple_AmountText 0) [] (outP O_simple_AmountText fun ls => Rv (tup_simple_AmountText ls)) = (T_simple_AmountText (getI (ls.getD 0 .junk))).fold False Rv := by kernel_rfl
noncomputable def S_simple_AmountText : Go.Cx.Spec := pureS (patF P_simple_AmountText fun ls => opt (g_simple_AmountText (getI (ls.getD 0 .junk))) fun x => .r (res_simple_AmountText x))
set_option maxRecDepth 100000 in
theorem S_simple_AmountText_ok : Sound Tryz.prog 15 S_simple_AmountText :=
  pure_flat (E := E_simple_AmountText) (TblOK.enK TYsG51t_ok _ _ _ _ _) mixed rfl Tryz.func15 (c := Tryz.f15.body.getD .skip) (by kernel_rfl) (by kernel_rfl) (pats := P_simple_AmountText) (O := O_simple_AmountText) (tup := tup_simple_AmountText) (res := res_simple_AmountText) (g := fun ls => g_simple_AmountText (getI (ls.getD 0 .junk))) (T := fun ls => T_simple_AmountText (getI (ls.getD 0 .junk))) (fun _ => rfl) (fun ls => by kernel_rfl) c_simple_AmountText
noncomputable def TYsG52t : FuncId → Option Go.Cx.Spec := addT TYsG51t 15 S_simple_AmountText
theorem TYsG52t_ok : TblOK Tryz.prog TYsG52t := TYsG51t_ok.add S_simple_AmountText_ok
noncomputable def E_digits_signs_has : En := enK Tryz.prog TYsG52t [] [] [] [] 0
def P_digits_signs_has : List Pat := [.leaf .str, .leaf (.int .u8)]
def O_digits_signs_has : Pat := .leaf .bool
def tup_digits_signs_has : List AV → Bool := fun ls => getB (ls.getD 0 .junk)
def res_digits_signs_has : Bool → AV := fun x => .bool (x)
noncomputable def T_digits_signs_has (x0 : List UInt8) (x1 : Int) : Tr (Bool) := (.r (Decidable.decide (Go.Lib.indexByte x0 (Nat.toUInt8 (Int.toNat x1)) ≥ (0 : Int))))
noncomputable def g_digits_signs_has (x0 : List UInt8) (x1 : Int) : Option (Bool) := (T_digits_signs_has x0 x1).val
set_option maxRecDepth 100000 in
theorem c_digits_signs_has (ls : List AV) (Rv : Bool → Prop) : callA E_digits_signs_has Tryz.f61 (instL ls P_digits_signs_has 0) [] (outP O_digits_signs_has fun ls => Rv (tup_digits_signs_has ls)) = (T_digits_signs_has (getS (ls.getD 0 .junk)) (getI (ls.getD 1 .junk))).fold False Rv := by kernel_rfl
noncomputable def S_digits_signs_has : Go.Cx.Spec := pureS (patF P_digits_signs_has fun ls => opt (g_digits_signs_has (getS (ls.getD 0 .junk)) (getI (ls.getD 1 .junk))) fun x => .r (res_digits_signs_has x))
set_option maxRecDepth 100000 in
theorem S_digits_signs_has_ok : Sound Tryz.prog 61 S_digits_signs_has :=
  pure_flat (E := E_digits_signs_has) (TblOK.enK TYsG52t_ok _ _ _ _ _) mixed rfl Tryz.func61 (c := Tryz.f61.body.getD .skip) (by kernel_rfl) (by kernel_rfl) (pats := P_digits_signs_has) (O := O_digits_signs_has) (tup := tup_digits_signs_has) (res := res_digits_signs_has) (g := fun ls => g_digits_signs_has (getS (ls.getD 0 .junk)) (getI (ls.getD 1 .junk))) (T := fun ls => T_digits_signs_has (getS (ls.getD 0 .junk)) (getI (ls.getD 1 .junk))) (fun _ => rfl) (fun ls => by kernel_rfl) c_digits_signs_has
noncomputable def TYsG53t : FuncId → Option Go.Cx.Spec := addT TYsG52t 61 S_digits_signs_has
theorem TYsG53t_ok : TblOK Tryz.prog TYsG53t := TYsG52t_ok.add S_digits_signs_has_ok
noncomputable def E_digits_all_0fhas_ : En := enK Tryz.prog TYsG53t [] [(2, ⟨[2, 3, 4, 5, 6, 9, 10, 11, 12, 13, 14, 15, 16, 17], [], [], none, [], [], [], [], true⟩)] [] [] 0
def P_digits_all_0fhas_ : List Pat := [.leaf .str, .func 61 [.leaf .str] []]
def O_digits_all_0fhas_ : Pat := .leaf .bool
def tup_digits_all_0fhas_ : List AV → Bool := fun ls => getB (ls.getD 0 .junk)
def res_digits_all_0fhas_ : Bool → AV := fun x => .bool (x)
noncomputable def T_digits_all_0fhas_ (x0 : List UInt8) (x1 : List UInt8) : Tr ((Int) ⊕ (Bool)) := (.r (.inl ((0 : Int))))
noncomputable def M_digits_all_0fhas_ (x0 : List UInt8) (x1 : List UInt8) : Int → Tr ((Int) ⊕ (Bool))
  | i0 => (.c (Decidable.decide (i0 < (↑(List.length x0) : Int))) (.c (Decidable.decide ((0 : Int) ≤ i0)) (.c (Decidable.decide (i0 < (↑(List.length x0) : Int))) (.c (!Decidable.decide (Go.Lib.indexByte x1 (Nat.toUInt8 (UInt8.toNat (List.getD x0 (Int.toNat i0) (0 : UInt8)))) ≥ (0 : Int))) (.r (.inr (Bool.false))) (.r (.inl (Go.IntKind.wrap Go.IntKind.i64 (i0 + (1 : Int)))))) .bad) .bad) (.r (.inr (Bool.true))))
noncomputable def g_digits_all_0fhas_ (x0 : List UInt8) (x1 : List UInt8) : Option (Bool) := run (M_digits_all_0fhas_ x0 x1) (T_digits_all_0fhas_ x0 x1)
noncomputable def b_digits_all_0fhas_ := Tryz.f60.body.getD .skip
noncomputable def st_digits_all_0fhas__0 (x0 : List UInt8) (x1 : List UInt8) (i0 : Int) : St := ⟨[Go.Cx.AV.str x0, Go.Cx.AV.func (61 : Nat) [Go.Cx.AV.str x1] [], Go.Cx.AV.junk, Go.Cx.AV.junk, Go.Cx.AV.junk, Go.Cx.AV.junk, Go.Cx.AV.junk, Go.Cx.AV.int Go.IntKind.i64 (↑(List.length x0) : Int), Go.Cx.AV.int Go.IntKind.i64 i0, Go.Cx.AV.junk, Go.Cx.AV.junk, Go.Cx.AV.junk, Go.Cx.AV.junk, Go.Cx.AV.junk, Go.Cx.AV.junk, Go.Cx.AV.junk, Go.Cx.AV.junk, Go.Cx.AV.junk], []⟩
noncomputable def L_digits_all_0fhas_ (x0 : List UInt8) (x1 : List UInt8) (Rv : Bool → Prop) : Int → Prop
  | i0 => headL E_digits_all_0fhas_ [.r, .l, .r, .d] b_digits_all_0fhas_ 1000 (bodyK E_digits_all_0fhas_ Tryz.f60 (outP O_digits_all_0fhas_ fun ls => Rv (tup_digits_all_0fhas_ ls))) (st_digits_all_0fhas__0 x0 x1 i0)
set_option maxRecDepth 100000 in
theorem l_digits_all_0fhas__0 (x0 : List UInt8) (x1 : List UInt8) (Rv : Bool → Prop) (i0 : Int) : stepL E_digits_all_0fhas_ [.r, .l, .r, .d] b_digits_all_0fhas_ 1000 (bodyK E_digits_all_0fhas_ Tryz.f60 (outP O_digits_all_0fhas_ fun ls => Rv (tup_digits_all_0fhas_ ls))) (st_digits_all_0fhas__0 x0 x1 i0) =
  (M_digits_all_0fhas_ x0 x1 (i0)).fold False (Sum.elim (L_digits_all_0fhas_ x0 x1 Rv) Rv) := by kernel_rfl
set_option maxRecDepth 100000 in
theorem e_digits_all_0fhas__0 (x0 : List UInt8) (x1 : List UInt8) (Rv : Bool → Prop) (i0 : Int) : L_digits_all_0fhas_ x0 x1 Rv (i0) = headL E_digits_all_0fhas_ [.r, .l, .r, .d] b_digits_all_0fhas_ 1000 (bodyK E_digits_all_0fhas_ Tryz.f60 (outP O_digits_all_0fhas_ fun ls => Rv (tup_digits_all_0fhas_ ls))) (st_digits_all_0fhas__0 x0 x1 i0) := by kernel_rfl
section
attribute [local irreducible] Tr.fold M_digits_all_0fhas_ L_digits_all_0fhas_ T_digits_all_0fhas_ E_digits_all_0fhas_ b_digits_all_0fhas_ bodyK headC headL stepC stepL wpX callA
set_option maxRecDepth 100000 in
theorem h_digits_all_0fhas_ (x0 : List UInt8) (x1 : List UInt8) (Rv : Bool → Prop) : ∀ s, (M_digits_all_0fhas_ x0 x1 s).fold False (Sum.elim (L_digits_all_0fhas_ x0 x1 Rv) Rv) → L_digits_all_0fhas_ x0 x1 Rv s := by
  rintro (v0)
  · exact fun h => Eq.mpr (e_digits_all_0fhas__0 x0 x1 Rv v0) (headL_of (Eq.mpr (l_digits_all_0fhas__0 x0 x1 Rv v0) h))
set_option maxRecDepth 100000 in
theorem c_digits_all_0fhas_ (ls : List AV) (Rv : Bool → Prop) : callA E_digits_all_0fhas_ Tryz.f60 (instL ls P_digits_all_0fhas_ 0) [] (outP O_digits_all_0fhas_ fun ls => Rv (tup_digits_all_0fhas_ ls)) = (T_digits_all_0fhas_ (getS (ls.getD 0 .junk)) (getS (ls.getD 1 .junk))).fold False (Sum.elim (L_digits_all_0fhas_ (getS (ls.getD 0 .junk)) (getS (ls.getD 1 .junk)) Rv) Rv) := by kernel_rfl
end
noncomputable def S_digits_all_0fhas_ : Go.Cx.Spec := pureS (patF P_digits_all_0fhas_ fun ls => opt (g_digits_all_0fhas_ (getS (ls.getD 0 .junk)) (getS (ls.getD 1 .junk))) fun x => .r (res_digits_all_0fhas_ x))
set_option maxRecDepth 100000 in
theorem S_digits_all_0fhas__ok : Sound Tryz.prog 60 S_digits_all_0fhas_ :=
  pure_mach (E := E_digits_all_0fhas_) (TblOK.enK TYsG53t_ok _ _ _ _ _) mixed rfl Tryz.func60 (c := Tryz.f60.body.getD .skip) (by kernel_rfl) (by kernel_rfl) (pats := P_digits_all_0fhas_) (O := O_digits_all_0fhas_) (tup := tup_digits_all_0fhas_) (res := res_digits_all_0fhas_) (g := fun ls => g_digits_all_0fhas_ (getS (ls.getD 0 .junk)) (getS (ls.getD 1 .junk))) (T := fun ls => T_digits_all_0fhas_ (getS (ls.getD 0 .junk)) (getS (ls.getD 1 .junk))) (step := fun ls => M_digits_all_0fhas_ (getS (ls.getD 0 .junk)) (getS (ls.getD 1 .junk))) (L := fun ls => L_digits_all_0fhas_ (getS (ls.getD 0 .junk)) (getS (ls.getD 1 .junk))) (fun _ => rfl) (fun ls => by kernel_rfl) c_digits_all_0fhas_ (fun ls Rv => h_digits_all_0fhas_ (getS (ls.getD 0 .junk)) (getS (ls.getD 1 .junk)) Rv)
noncomputable def TYsG54t : FuncId → Option Go.Cx.Spec := addT TYsG53t 60 S_digits_all_0fhas_
theorem TYsG54t_ok : TblOK Tryz.prog TYsG54t := TYsG53t_ok.add S_digits_all_0fhas__ok
noncomputable def E_digits_Right : En := enK Tryz.prog TYsG54t [] [] [] [] 0
def P_digits_Right : List Pat := [.leaf .str, .leaf (.int .i64), .leaf (.int .i64)]
def O_digits_Right : Pat := .leaf .bool
def tup_digits_Right : List AV → Bool := fun ls => getB (ls.getD 0 .junk)
def res_digits_Right : Bool → AV := fun x => .bool (x)
noncomputable def T_digits_Right (x0 : List UInt8) (x1 : Int) (x2 : Int) : Tr (Bool) := (.c (Decidable.decide ((↑(List.length x0) : Int) ≥ x1)) (.c (Decidable.decide ((↑(List.length x0) : Int) ≤ x2)) (opt (Go.Proofs.YtcnalhganahiiaaGreatDoor.g_digits_all_0fhas_ x0 [(48 : UInt8), (49 : UInt8), (50 : UInt8), (51 : UInt8), (52 : UInt8), (53 : UInt8), (54 : UInt8), (55 : UInt8), (56 : UInt8), (57 : UInt8)]) fun (y0 : Bool) => (.r (y0))) (.r (Bool.false))) (.r (Bool.false)))
noncomputable def g_digits_Right (x0 : List UInt8) (x1 : Int) (x2 : Int) : Option (Bool) := (T_digits_Right x0 x1 x2).val
set_option maxRecDepth 100000 in
theorem c_digits_Right (ls : List AV) (Rv : Bool → Prop) : callA E_digits_Right Tryz.f35 (instL ls P_digits_Right 0) [] (outP O_digits_Right fun ls => Rv (tup_digits_Right ls)) = (T_digits_Right (getS (ls.getD 0 .junk)) (getI (ls.getD 1 .junk)) (getI (ls.getD 2 .junk))).fold False Rv := by kernel_rfl
noncomputable def S_digits_Right : Go.Cx.Spec := pureS (patF P_digits_Right fun ls => opt (g_digits_Right (getS (ls.getD 0 .junk)) (getI (ls.getD 1 .junk)) (getI (ls.getD 2 .junk))) fun x => .r (res_digits_Right x))
set_option maxRecDepth 100000 in
theorem S_digits_Right_ok : Sound Tryz.prog 35 S_digits_Right :=
  pure_flat (E := E_digits_Right) (TblOK.enK TYsG54t_ok _ _ _ _ _) mixed rfl Tryz.func35 (c := Tryz.f35.body.getD .skip) (by kernel_rfl) (by kernel_rfl) (pats := P_digits_Right) (O := O_digits_Right) (tup := tup_digits_Right) (res := res_digits_Right) (g := fun ls => g_digits_Right (getS (ls.getD 0 .junk)) (getI (ls.getD 1 .junk)) (getI (ls.getD 2 .junk))) (T := fun ls => T_digits_Right (getS (ls.getD 0 .junk)) (getI (ls.getD 1 .junk)) (getI (ls.getD 2 .junk))) (fun _ => rfl) (fun ls => by kernel_rfl) c_digits_Right
noncomputable def TYsG55t : FuncId → Option Go.Cx.Spec := addT TYsG54t 35 S_digits_Right
theorem TYsG55t_ok : TblOK Tryz.prog TYsG55t := TYsG54t_ok.add S_digits_Right_ok
noncomputable def E_digits_Number : En := enK Tryz.prog TYsG55t [] [(5, ⟨[1, 2, 3, 5, 6, 7, 8, 9, 12, 13, 14, 15, 16, 17, 18, 19, 20, 21, 22, 23], [], [], none, [], [], [], [], true⟩)] [] [] 0
def P_digits_Number : List Pat := [.leaf .str]
def O_digits_Number : Pat := .tuple [.leaf (.int .u64), .leaf (.int .i64)]
def tup_digits_Number : List AV → Int × Int := fun ls => (getI (ls.getD 0 .junk), getI (ls.getD 1 .junk))
def res_digits_Number : Int × Int → AV := fun x => .tuple [.int .u64 (x.1), .int .i64 (x.2)]
noncomputable def T_digits_Number (x0 : List UInt8) : Tr ((Int × Int) ⊕ (Int × Int)) := (opt (Go.Proofs.YtcnalhganahiiaaGreatDoor.g_digits_Right x0 (1 : Int) (18 : Int)) fun (y0 : Bool) => (.c (!y0) (.r (.inr (((0 : Int), (5 : Int))))) (.r (.inl (((0 : Int), (0 : Int)))))))
noncomputable def M_digits_Number (x0 : List UInt8) : Int × Int → Tr ((Int × Int) ⊕ (Int × Int))
  | (i0, i1) => (.c (Decidable.decide (i1 < (↑(List.length x0) : Int))) (.c (Decidable.decide ((0 : Int) ≤ i1)) (.c (Decidable.decide (i1 < (↑(List.length x0) : Int))) (.r (.inl ((Go.IntKind.wrap Go.IntKind.u64 (Go.IntKind.wrap Go.IntKind.u64 (i0 * (10 : Int)) + Go.IntKind.wrap Go.IntKind.u64 (Go.IntKind.wrap Go.IntKind.u8 ((↑(UInt8.toNat (List.getD x0 (Int.toNat i1) (0 : UInt8))) : Int) - (48 : Int)))), Go.IntKind.wrap Go.IntKind.i64 (i1 + (1 : Int)))))) .bad) .bad) (.r (.inr ((i0, (0 : Int))))))
noncomputable def g_digits_Number (x0 : List UInt8) : Option (Int × Int) := run (M_digits_Number x0) (T_digits_Number x0)
noncomputable def b_digits_Number := Tryz.f31.body.getD .skip
noncomputable def st_digits_Number_0 (x0 : List UInt8) (i0 : Int) (i1 : Int) : St := ⟨[Go.Cx.AV.str x0, Go.Cx.AV.junk, Go.Cx.AV.junk, Go.Cx.AV.junk, Go.Cx.AV.int Go.IntKind.u64 i0, Go.Cx.AV.junk, Go.Cx.AV.junk, Go.Cx.AV.junk, Go.Cx.AV.junk, Go.Cx.AV.junk, Go.Cx.AV.int Go.IntKind.i64 (↑(List.length x0) : Int), Go.Cx.AV.int Go.IntKind.i64 i1, Go.Cx.AV.junk, Go.Cx.AV.junk, Go.Cx.AV.junk, Go.Cx.AV.junk, Go.Cx.AV.junk, Go.Cx.AV.junk, Go.Cx.AV.junk, Go.Cx.AV.junk, Go.Cx.AV.junk, Go.Cx.AV.junk, Go.Cx.AV.junk, Go.Cx.AV.junk], []⟩
noncomputable def L_digits_Number (x0 : List UInt8) (Rv : Int × Int → Prop) : Int × Int → Prop
  | (i0, i1) => headL E_digits_Number [.r, .r, .r, .l, .r, .d] b_digits_Number 1000 (bodyK E_digits_Number Tryz.f31 (outP O_digits_Number fun ls => Rv (tup_digits_Number ls))) (st_digits_Number_0 x0 i0 i1)
set_option maxRecDepth 100000 in
theorem l_digits_Number_0 (x0 : List UInt8) (Rv : Int × Int → Prop) (i0 : Int) (i1 : Int) : stepL E_digits_Number [.r, .r, .r, .l, .r, .d] b_digits_Number 1000 (bodyK E_digits_Number Tryz.f31 (outP O_digits_Number fun ls => Rv (tup_digits_Number ls))) (st_digits_Number_0 x0 i0 i1) =
  (M_digits_Number x0 ((i0, i1))).fold False (Sum.elim (L_digits_Number x0 Rv) Rv) := by kernel_rfl
set_option maxRecDepth 100000 in
theorem e_digits_Number_0 (x0 : List UInt8) (Rv : Int × Int → Prop) (i0 : Int) (i1 : Int) : L_digits_Number x0 Rv ((i0, i1)) = headL E_digits_Number [.r, .r, .r, .l, .r, .d] b_digits_Number 1000 (bodyK E_digits_Number Tryz.f31 (outP O_digits_Number fun ls => Rv (tup_digits_Number ls))) (st_digits_Number_0 x0 i0 i1) := by kernel_rfl
section
attribute [local irreducible] Tr.fold M_digits_Number L_digits_Number T_digits_Number E_digits_Number b_digits_Number bodyK headC headL stepC stepL wpX callA
set_option maxRecDepth 100000 in
theorem h_digits_Number (x0 : List UInt8) (Rv : Int × Int → Prop) : ∀ s, (M_digits_Number x0 s).fold False (Sum.elim (L_digits_Number x0 Rv) Rv) → L_digits_Number x0 Rv s := by
  rintro (⟨v0, v1⟩)
  · exact fun h => Eq.mpr (e_digits_Number_0 x0 Rv v0 v1) (headL_of (Eq.mpr (l_digits_Number_0 x0 Rv v0 v1) h))
set_option maxRecDepth 100000 in
theorem c_digits_Number (ls : List AV) (Rv : Int × Int → Prop) : callA E_digits_Number Tryz.f31 (instL ls P_digits_Number 0) [] (outP O_digits_Number fun ls => Rv (tup_digits_Number ls)) = (T_digits_Number (getS (ls.getD 0 .junk))).fold False (Sum.elim (L_digits_Number (getS (ls.getD 0 .junk)) Rv) Rv) := by kernel_rfl
end
noncomputable def S_digits_Number : Go.Cx.Spec := pureS (patF P_digits_Number fun ls => opt (g_digits_Number (getS (ls.getD 0 .junk))) fun x => .r (res_digits_Number x))
set_option maxRecDepth 100000 in
theorem S_digits_Number_ok : Sound Tryz.prog 31 S_digits_Number :=
  pure_mach (E := E_digits_Number) (TblOK.enK TYsG55t_ok _ _ _ _ _) mixed rfl Tryz.func31 (c := Tryz.f31.body.getD .skip) (by kernel_rfl) (by kernel_rfl) (pats := P_digits_Number) (O := O_digits_Number) (tup := tup_digits_Number) (res := res_digits_Number) (g := fun ls => g_digits_Number (getS (ls.getD 0 .junk))) (T := fun ls => T_digits_Number (getS (ls.getD 0 .junk))) (step := fun ls => M_digits_Number (getS (ls.getD 0 .junk))) (L := fun ls => L_digits_Number (getS (ls.getD 0 .junk))) (fun _ => rfl) (fun ls => by kernel_rfl) c_digits_Number (fun ls Rv => h_digits_Number (getS (ls.getD 0 .junk)) Rv)
noncomputable def TYsG56t : FuncId → Option Go.Cx.Spec := addT TYsG55t 31 S_digits_Number
theorem TYsG56t_ok : TblOK Tryz.prog TYsG56t := TYsG55t_ok.add S_digits_Number_ok
noncomputable def E_simple_part : En := enK Tryz.prog TYsG56t [] [] [] [] 0
def P_simple_part : List Pat := [.leaf .str, .leaf (.int .i64), .leaf (.int .i64)]
def O_simple_part : Pat := .leaf (.int .i64)
def tup_simple_part : List AV → Int := fun ls => getI (ls.getD 0 .junk)
def res_simple_part : Int → AV := fun x => .int .i64 (x)
noncomputable def T_simple_part (x0 : List UInt8) (x1 : Int) (x2 : Int) : Tr (Int) := (.c (Decidable.decide ((0 : Int) ≤ x2)) (.c (Decidable.decide (x2 ≤ (↑(List.length x0) : Int))) (.c (Decidable.decide ((0 : Int) ≤ x1)) (.c (Decidable.decide (x1 ≤ x2)) (opt (Go.Proofs.YtcnalhganahiiaaGreatDoor.g_digits_Number (List.drop (Int.toNat x1) (List.take (Int.toNat x2) x0))) fun (y0 : Int × Int) => (.r (Go.IntKind.wrap Go.IntKind.i64 (Prod.fst y0)))) .bad) .bad) .bad) .bad)
noncomputable def g_simple_part (x0 : List UInt8) (x1 : Int) (x2 : Int) : Option (Int) := (T_simple_part x0 x1 x2).val
set_option maxRecDepth 100000 in
theorem c_simple_part (ls : List AV) (Rv : Int → Prop) : callA E_simple_part Tryz.f36 (instL ls P_simple_part 0) [] (outP O_simple_part fun ls => Rv (tup_simple_part ls)) = (T_simple_part (getS (ls.getD 0 .junk)) (getI (ls.getD 1 .junk)) (getI (ls.getD 2 .junk))).fold False Rv := by kernel_rfl
noncomputable def S_simple_part : Go.Cx.Spec := pureS (patF P_simple_part fun ls => opt (g_simple_part (getS (ls.getD 0 .junk)) (getI (ls.getD 1 .junk)) (getI (ls.getD 2 .junk))) fun x => .r (res_simple_part x))
set_option maxRecDepth 100000 in
theorem S_simple_part_ok : Sound Tryz.prog 36 S_simple_part :=
  pure_flat (E := E_simple_part) (TblOK.enK TYsG56t_ok _ _ _ _ _) mixed rfl Tryz.func36 (c := Tryz.f36.body.getD .skip) (by kernel_rfl) (by kernel_rfl) (pats := P_simple_part) (O := O_simple_part) (tup := tup_simple_part) (res := res_simple_part) (g := fun ls => g_simple_part (getS (ls.getD 0 .junk)) (getI (ls.getD 1 .junk)) (getI (ls.getD 2 .junk))) (T := fun ls => T_simple_part (getS (ls.getD 0 .junk)) (getI (ls.getD 1 .junk)) (getI (ls.getD 2 .junk))) (fun _ => rfl) (fun ls => by kernel_rfl) c_simple_part
noncomputable def TYsG57t : FuncId → Option Go.Cx.Spec := addT TYsG56t 36 S_simple_part
theorem TYsG57t_ok : TblOK Tryz.prog TYsG57t := TYsG56t_ok.add S_simple_part_ok
noncomputable def E_simple_days : En := enK Tryz.prog TYsG57t [] [] [] [] 0
def P_simple_days : List Pat := [.leaf (.int .i64), .leaf (.int .i64)]
def O_simple_days : Pat := .leaf (.int .i64)
def tup_simple_days : List AV → Int := fun ls => getI (ls.getD 0 .junk)
def res_simple_days : Int → AV := fun x => .int .i64 (x)
noncomputable def T_simple_days (x0 : Int) (x1 : Int) : Tr (Int) := (.c (x1 == (4 : Int)) (.c (x1 == (4 : Int)) (.r ((30 : Int))) (.c (x1 == (2 : Int)) (.c (Int.tmod x0 (4 : Int) == (0 : Int)) (.c (Int.tmod x0 (100 : Int) != (0 : Int)) (.r ((29 : Int))) (.c (Int.tmod x0 (400 : Int) == (0 : Int)) (.r ((29 : Int))) (.r ((28 : Int))))) (.r ((28 : Int)))) (.r ((31 : Int))))) (.c (x1 == (6 : Int)) (.c (x1 == (6 : Int)) (.r ((30 : Int))) (.c (x1 == (2 : Int)) (.c (Int.tmod x0 (4 : Int) == (0 : Int)) (.c (Int.tmod x0 (100 : Int) != (0 : Int)) (.r ((29 : Int))) (.c (Int.tmod x0 (400 : Int) == (0 : Int)) (.r ((29 : Int))) (.r ((28 : Int))))) (.r ((28 : Int)))) (.r ((31 : Int))))) (.c (x1 == (9 : Int)) (.c (x1 == (9 : Int)) (.r ((30 : Int))) (.c (x1 == (2 : Int)) (.c (Int.tmod x0 (4 : Int) == (0 : Int)) (.c (Int.tmod x0 (100 : Int) != (0 : Int)) (.r ((29 : Int))) (.c (Int.tmod x0 (400 : Int) == (0 : Int)) (.r ((29 : Int))) (.r ((28 : Int))))) (.r ((28 : Int)))) (.r ((31 : Int))))) (.c (x1 == (11 : Int)) (.r ((30 : Int))) (.c (x1 == (2 : Int)) (.c (Int.tmod x0 (4 : Int) == (0 : Int)) (.c (Int.tmod x0 (100 : Int) != (0 : Int)) (.r ((29 : Int))) (.c (Int.tmod x0 (400 : Int) == (0 : Int)) (.r ((29 : Int))) (.r ((28 : Int))))) (.r ((28 : Int)))) (.r ((31 : Int))))))))
noncomputable def g_simple_days (x0 : Int) (x1 : Int) : Option (Int) := (T_simple_days x0 x1).val
set_option maxRecDepth 100000 in
theorem c_simple_days (ls : List AV) (Rv : Int → Prop) : callA E_simple_days Tryz.f37 (instL ls P_simple_days 0) [] (outP O_simple_days fun ls => Rv (tup_simple_days ls)) = (T_simple_days (getI (ls.getD 0 .junk)) (getI (ls.getD 1 .junk))).fold False Rv := by kernel_rfl
noncomputable def S_simple_days : Go.Cx.Spec := pureS (patF P_simple_days fun ls => opt (g_simple_days (getI (ls.getD 0 .junk)) (getI (ls.getD 1 .junk))) fun x => .r (res_simple_days x))
set_option maxRecDepth 100000 in
theorem S_simple_days_ok : Sound Tryz.prog 37 S_simple_days :=
  pure_flat (E := E_simple_days) (TblOK.enK TYsG57t_ok _ _ _ _ _) mixed rfl Tryz.func37 (c := Tryz.f37.body.getD .skip) (by kernel_rfl) (by kernel_rfl) (pats := P_simple_days) (O := O_simple_days) (tup := tup_simple_days) (res := res_simple_days) (g := fun ls => g_simple_days (getI (ls.getD 0 .junk)) (getI (ls.getD 1 .junk))) (T := fun ls => T_simple_days (getI (ls.getD 0 .junk)) (getI (ls.getD 1 .junk))) (fun _ => rfl) (fun ls => by kernel_rfl) c_simple_days
noncomputable def TYsG58t : FuncId → Option Go.Cx.Spec := addT TYsG57t 37 S_simple_days
theorem TYsG58t_ok : TblOK Tryz.prog TYsG58t := TYsG57t_ok.add S_simple_days_ok
noncomputable def E_simple_Time : En := enK Tryz.prog TYsG58t [] [] [] [] 0
def P_simple_Time : List Pat := [.leaf .str]
def O_simple_Time : Pat := .leaf .bool
def tup_simple_Time : List AV → Bool := fun ls => getB (ls.getD 0 .junk)
def res_simple_Time : Bool → AV := fun x => .bool (x)
noncomputable def T_simple_Time (x0 : List UInt8) : Tr (Bool) := (opt (Go.Proofs.YtcnalhganahiiaaGreatDoor.g_digits_Right x0 (14 : Int) (14 : Int)) fun (y0 : Bool) => (.c (!y0) (.r (Bool.false)) (opt (Go.Proofs.YtcnalhganahiiaaGreatDoor.g_simple_part x0 (0 : Int) (4 : Int)) fun (y1 : Int) => (opt (Go.Proofs.YtcnalhganahiiaaGreatDoor.g_simple_part x0 (4 : Int) (6 : Int)) fun (y2 : Int) => (opt (Go.Proofs.YtcnalhganahiiaaGreatDoor.g_simple_part x0 (6 : Int) (8 : Int)) fun (y3 : Int) => (.c (Decidable.decide (y1 > (0 : Int))) (.c (Decidable.decide (y2 ≥ (1 : Int))) (.c (Decidable.decide (y2 ≤ (12 : Int))) (.c (Decidable.decide (y3 ≥ (1 : Int))) (opt (Go.Proofs.YtcnalhganahiiaaGreatDoor.g_simple_days y1 y2) fun (y4 : Int) => (.c (Decidable.decide (y3 ≤ y4)) (opt (Go.Proofs.YtcnalhganahiiaaGreatDoor.g_simple_part x0 (8 : Int) (10 : Int)) fun (y5 : Int) => (.c (Decidable.decide (y5 < (24 : Int))) (opt (Go.Proofs.YtcnalhganahiiaaGreatDoor.g_simple_part x0 (10 : Int) (12 : Int)) fun (y6 : Int) => (.c (Decidable.decide (y6 < (60 : Int))) (opt (Go.Proofs.YtcnalhganahiiaaGreatDoor.g_simple_part x0 (12 : Int) (14 : Int)) fun (y7 : Int) => (.r (Decidable.decide (y7 < (60 : Int))))) (.r (Bool.false)))) (.r (Bool.false)))) (.r (Bool.false)))) (.r (Bool.false))) (.r (Bool.false))) (.r (Bool.false))) (.r (Bool.false))))))))
noncomputable def g_simple_Time (x0 : List UInt8) : Option (Bool) := (T_simple_Time x0).val
set_option maxRecDepth 100000 in
theorem c_simple_Time (ls : List AV) (Rv : Bool → Prop) : callA E_simple_Time Tryz.f17 (instL ls P_simple_Time 0) [] (outP O_simple_Time fun ls => Rv (tup_simple_Time ls)) = (T_simple_Time (getS (ls.getD 0 .junk))).fold False Rv := by kernel_rfl
noncomputable def S_simple_Time : Go.Cx.Spec := pureS (patF P_simple_Time fun ls => opt (g_simple_Time (getS (ls.getD 0 .junk))) fun x => .r (res_simple_Time x))
set_option maxRecDepth 100000 in
theorem S_simple_Time_ok : Sound Tryz.prog 17 S_simple_Time :=
  pure_flat (E := E_simple_Time) (TblOK.enK TYsG58t_ok _ _ _ _ _) mixed rfl Tryz.func17 (c := Tryz.f17.body.getD .skip) (by kernel_rfl) (by kernel_rfl) (pats := P_simple_Time) (O := O_simple_Time) (tup := tup_simple_Time) (res := res_simple_Time) (g := fun ls => g_simple_Time (getS (ls.getD 0 .junk))) (T := fun ls => T_simple_Time (getS (ls.getD 0 .junk))) (fun _ => rfl) (fun ls => by kernel_rfl) c_simple_Time
noncomputable def TYsG59t : FuncId → Option Go.Cx.Spec := addT TYsG58t 17 S_simple_Time
theorem TYsG59t_ok : TblOK Tryz.prog TYsG59t := TYsG58t_ok.add S_simple_Time_ok
noncomputable def E_simple_TimeText : En := enK Tryz.prog TYsG59t [] [] [] [] 0
def P_simple_TimeText : List Pat := [.leaf .str]
def O_simple_TimeText : Pat := .tuple [.leaf .str, .leaf (.int .i64)]
def tup_simple_TimeText : List AV → List UInt8 × Int := fun ls => (getS (ls.getD 0 .junk), getI (ls.getD 1 .junk))
def res_simple_TimeText : List UInt8 × Int → AV := fun x => .tuple [.str (x.1), .int .i64 (x.2)]
noncomputable def T_simple_TimeText (x0 : List UInt8) : Tr (List UInt8 × Int) := (opt (Go.Proofs.YtcnalhganahiiaaGreatDoor.g_simple_Time x0) fun (y0 : Bool) => (.c (!y0) (.r (([], (14 : Int)))) (.c (Decidable.decide ((4 : Int) ≤ (↑(List.length x0) : Int))) (.c (Decidable.decide (List.length (List.drop (0 : Nat) (List.take (Int.toNat (4 : Int)) x0)) + (1 : Nat) < (70368744177664 : Nat))) (.c (Decidable.decide ((6 : Int) ≤ (↑(List.length x0) : Int))) (.c (Decidable.decide (List.length (List.drop (0 : Nat) (List.take (Int.toNat (4 : Int)) x0) ++ [(45 : UInt8)]) + List.length (List.drop (4 : Nat) (List.take (Int.toNat (6 : Int)) x0)) < (70368744177664 : Nat))) (.c (Decidable.decide (List.length (List.drop (0 : Nat) (List.take (Int.toNat (4 : Int)) x0) ++ [(45 : UInt8)] ++ List.drop (4 : Nat) (List.take (Int.toNat (6 : Int)) x0)) + (1 : Nat) < (70368744177664 : Nat))) (.c (Decidable.decide ((8 : Int) ≤ (↑(List.length x0) : Int))) (.c (Decidable.decide (List.length (List.drop (0 : Nat) (List.take (Int.toNat (4 : Int)) x0) ++ [(45 : UInt8)] ++ List.drop (4 : Nat) (List.take (Int.toNat (6 : Int)) x0) ++ [(45 : UInt8)]) + List.length (List.drop (6 : Nat) (List.take (Int.toNat (8 : Int)) x0)) < (70368744177664 : Nat))) (.c (Decidable.decide (List.length (List.drop (0 : Nat) (List.take (Int.toNat (4 : Int)) x0) ++ [(45 : UInt8)] ++ List.drop (4 : Nat) (List.take (Int.toNat (6 : Int)) x0) ++ [(45 : UInt8)] ++ List.drop (6 : Nat) (List.take (Int.toNat (8 : Int)) x0)) + (1 : Nat) < (70368744177664 : Nat))) (.c (Decidable.decide ((10 : Int) ≤ (↑(List.length x0) : Int))) (.c (Decidable.decide (List.length (List.drop (0 : Nat) (List.take (Int.toNat (4 : Int)) x0) ++ [(45 : UInt8)] ++ List.drop (4 : Nat) (List.take (Int.toNat (6 : Int)) x0) ++ [(45 : UInt8)] ++ List.drop (6 : Nat) (List.take (Int.toNat (8 : Int)) x0) ++ [(84 : UInt8)]) + List.length (List.drop (8 : Nat) (List.take (Int.toNat (10 : Int)) x0)) < (70368744177664 : Nat))) (.c (Decidable.decide (List.length (List.drop (0 : Nat) (List.take (Int.toNat (4 : Int)) x0) ++ [(45 : UInt8)] ++ List.drop (4 : Nat) (List.take (Int.toNat (6 : Int)) x0) ++ [(45 : UInt8)] ++ List.drop (6 : Nat) (List.take (Int.toNat (8 : Int)) x0) ++ [(84 : UInt8)] ++ List.drop (8 : Nat) (List.take (Int.toNat (10 : Int)) x0)) + (1 : Nat) < (70368744177664 : Nat))) (.c (Decidable.decide ((12 : Int) ≤ (↑(List.length x0) : Int))) (.c (Decidable.decide (List.length (List.drop (0 : Nat) (List.take (Int.toNat (4 : Int)) x0) ++ [(45 : UInt8)] ++ List.drop (4 : Nat) (List.take (Int.toNat (6 : Int)) x0) ++ [(45 : UInt8)] ++ List.drop (6 : Nat) (List.take (Int.toNat (8 : Int)) x0) ++ [(84 : UInt8)] ++ List.drop (8 : Nat) (List.take (Int.toNat (10 : Int)) x0) ++ [(58 : UInt8)]) + List.length (List.drop (10 : Nat) (List.take (Int.toNat (12 : Int)) x0)) < (70368744177664 : Nat))) (.c (Decidable.decide (List.length (List.drop (0 : Nat) (List.take (Int.toNat (4 : Int)) x0) ++ [(45 : UInt8)] ++ List.drop (4 : Nat) (List.take (Int.toNat (6 : Int)) x0) ++ [(45 : UInt8)] ++ List.drop (6 : Nat) (List.take (Int.toNat (8 : Int)) x0) ++ [(84 : UInt8)] ++ List.drop (8 : Nat) (List.take (Int.toNat (10 : Int)) x0) ++ [(58 : UInt8)] ++ List.drop (10 : Nat) (List.take (Int.toNat (12 : Int)) x0)) + (1 : Nat) < (70368744177664 : Nat))) (.c (Decidable.decide ((↑(List.length x0) : Int) ≤ (↑(List.length x0) : Int))) (.c (Decidable.decide ((12 : Int) ≤ (↑(List.length x0) : Int))) (.c (Decidable.decide (List.length (List.drop (0 : Nat) (List.take (Int.toNat (4 : Int)) x0) ++ [(45 : UInt8)] ++ List.drop (4 : Nat) (List.take (Int.toNat (6 : Int)) x0) ++ [(45 : UInt8)] ++ List.drop (6 : Nat) (List.take (Int.toNat (8 : Int)) x0) ++ [(84 : UInt8)] ++ List.drop (8 : Nat) (List.take (Int.toNat (10 : Int)) x0) ++ [(58 : UInt8)] ++ List.drop (10 : Nat) (List.take (Int.toNat (12 : Int)) x0) ++ [(58 : UInt8)]) + List.length (List.drop (12 : Nat) (List.take (List.length x0) x0)) < (70368744177664 : Nat))) (.r ((List.drop (0 : Nat) (List.take (Int.toNat (4 : Int)) x0) ++ [(45 : UInt8)] ++ List.drop (4 : Nat) (List.take (Int.toNat (6 : Int)) x0) ++ [(45 : UInt8)] ++ List.drop (6 : Nat) (List.take (Int.toNat (8 : Int)) x0) ++ [(84 : UInt8)] ++ List.drop (8 : Nat) (List.take (Int.toNat (10 : Int)) x0) ++ [(58 : UInt8)] ++ List.drop (10 : Nat) (List.take (Int.toNat (12 : Int)) x0) ++ [(58 : UInt8)] ++ List.drop (12 : Nat) (List.take (List.length x0) x0), (0 : Int)))) .bad) .bad) .bad) .bad) .bad) .bad) .bad) .bad) .bad) .bad) .bad) .bad) .bad) .bad) .bad) .bad) .bad)))
noncomputable def g_simple_TimeText (x0 : List UInt8) : Option (List UInt8 × Int) := (T_simple_TimeText x0).val
set_option maxRecDepth 100000 in
theorem c_simple_TimeText (ls : List AV) (Rv : List UInt8 × Int → Prop) : callA E_simple_TimeText Tryz.f9 (instL ls P_simple_TimeText 0) [] (outP O_simple_TimeText fun ls => Rv (tup_simple_TimeText ls)) = (T_simple_TimeText (getS (ls.getD 0 .junk))).fold False Rv := by kernel_rfl
noncomputable def S_simple_TimeText : Go.Cx.Spec := pureS (patF P_simple_TimeText fun ls => opt (g_simple_TimeText (getS (ls.getD 0 .junk))) fun x => .r (res_simple_TimeText x))
set_option maxRecDepth 100000 in
theorem S_simple_TimeText_ok : Sound Tryz.prog 9 S_simple_TimeText :=
  pure_flat (E := E_simple_TimeText) (TblOK.enK TYsG59t_ok _ _ _ _ _) mixed rfl Tryz.func9 (c := Tryz.f9.body.getD .skip) (by kernel_rfl) (by kernel_rfl) (pats := P_simple_TimeText) (O := O_simple_TimeText) (tup := tup_simple_TimeText) (res := res_simple_TimeText) (g := fun ls => g_simple_TimeText (getS (ls.getD 0 .junk))) (T := fun ls => T_simple_TimeText (getS (ls.getD 0 .junk))) (fun _ => rfl) (fun ls => by kernel_rfl) c_simple_TimeText
noncomputable def TYsG510t : FuncId → Option Go.Cx.Spec := addT TYsG59t 9 S_simple_TimeText
theorem TYsG510t_ok : TblOK Tryz.prog TYsG510t := TYsG59t_ok.add S_simple_TimeText_ok
noncomputable def E_simple_test : En := enK Tryz.prog TYsG510t [] [] [] [] 0
def P_simple_test : List Pat := [.leaf (.int .i64)]
def O_simple_test : Pat := .leaf .any
def tup_simple_test : List AV → AV := fun ls => id (ls.getD 0 .junk)
def res_simple_test : AV → AV := fun x => (x)
noncomputable def T_simple_test (x0 : Int) : Tr (AV) := (.c (x0 == (1 : Int)) (.r (Go.Cx.AV.func (62 : Nat) [] [])) (.c (x0 == (2 : Int)) (.r (Go.Cx.AV.func (63 : Nat) [] [])) (.c (x0 == (3 : Int)) (.r (Go.Cx.AV.func (64 : Nat) [] [])) (.c (x0 == (4 : Int)) (.r (Go.Cx.AV.func (65 : Nat) [] [])) (.c (x0 == (5 : Int)) (.r (Go.Cx.AV.func (66 : Nat) [] [])) (.c (x0 == (6 : Int)) (.r (Go.Cx.AV.func (67 : Nat) [] [])) (.c (x0 == (7 : Int)) (.r (Go.Cx.AV.func (68 : Nat) [] [])) (.r (Go.Cx.AV.func (69 : Nat) [] [])))))))))
noncomputable def g_simple_test (x0 : Int) : Option (AV) := (T_simple_test x0).val
set_option maxRecDepth 100000 in
theorem c_simple_test (ls : List AV) (Rv : AV → Prop) : callA E_simple_test Tryz.f41 (instL ls P_simple_test 0) [] (outP O_simple_test fun ls => Rv (tup_simple_test ls)) = (T_simple_test (getI (ls.getD 0 .junk))).fold False Rv := by kernel_rfl
noncomputable def S_simple_test : Go.Cx.Spec := pureS (patF P_simple_test fun ls => (T_simple_test (getI (ls.getD 0 .junk))).map res_simple_test)
set_option maxRecDepth 100000 in
theorem S_simple_test_ok : Sound Tryz.prog 41 S_simple_test :=
  pure_fork (E := E_simple_test) (TblOK.enK TYsG510t_ok _ _ _ _ _) mixed rfl Tryz.func41 (c := Tryz.f41.body.getD .skip) (by kernel_rfl) (by kernel_rfl) (pats := P_simple_test) (O := O_simple_test) (tup := tup_simple_test) (res := res_simple_test) (T := fun ls => T_simple_test (getI (ls.getD 0 .junk))) (fun ls => by kernel_rfl) c_simple_test
noncomputable def TYsG511t : FuncId → Option Go.Cx.Spec := addT TYsG510t 41 S_simple_test
theorem TYsG511t_ok : TblOK Tryz.prog TYsG511t := TYsG510t_ok.add S_simple_test_ok
noncomputable def E_simple_rule_number : En := enK Tryz.prog TYsG511t [] [] [] [] 0
def P_simple_rule_number : List Pat := [.agg [.leaf .str, .leaf (.int .i64), .leaf (.int .i64), .leaf (.int .i64), .leaf (.int .i64), .leaf (.int .i64)], .leaf .str]
def O_simple_rule_number : Pat := .leaf .bool
def tup_simple_rule_number : List AV → Bool := fun ls => getB (ls.getD 0 .junk)
def res_simple_rule_number : Bool → AV := fun x => .bool (x)
noncomputable def T_simple_rule_number (x0 : List UInt8) (x1 : Int) (x2 : Int) (x3 : Int) (x4 : Int) (x5 : Int) (x6 : List UInt8) : Tr (Bool) := (opt (Go.Proofs.YtcnalhganahiiaaGreatDoor.g_digits_Right x6 x4 x5) fun (y0 : Bool) => (.r (y0)))
noncomputable def g_simple_rule_number (x0 : List UInt8) (x1 : Int) (x2 : Int) (x3 : Int) (x4 : Int) (x5 : Int) (x6 : List UInt8) : Option (Bool) := (T_simple_rule_number x0 x1 x2 x3 x4 x5 x6).val
set_option maxRecDepth 100000 in
theorem c_simple_rule_number (ls : List AV) (Rv : Bool → Prop) : callA E_simple_rule_number Tryz.f62 (instL ls P_simple_rule_number 0) [] (outP O_simple_rule_number fun ls => Rv (tup_simple_rule_number ls)) = (T_simple_rule_number (getS (ls.getD 0 .junk)) (getI (ls.getD 1 .junk)) (getI (ls.getD 2 .junk)) (getI (ls.getD 3 .junk)) (getI (ls.getD 4 .junk)) (getI (ls.getD 5 .junk)) (getS (ls.getD 6 .junk))).fold False Rv := by kernel_rfl
noncomputable def S_simple_rule_number : Go.Cx.Spec := pureS (patF P_simple_rule_number fun ls => opt (g_simple_rule_number (getS (ls.getD 0 .junk)) (getI (ls.getD 1 .junk)) (getI (ls.getD 2 .junk)) (getI (ls.getD 3 .junk)) (getI (ls.getD 4 .junk)) (getI (ls.getD 5 .junk)) (getS (ls.getD 6 .junk))) fun x => .r (res_simple_rule_number x))
set_option maxRecDepth 100000 in
theorem S_simple_rule_number_ok : Sound Tryz.prog 62 S_simple_rule_number :=
  pure_flat (E := E_simple_rule_number) (TblOK.enK TYsG511t_ok _ _ _ _ _) mixed rfl Tryz.func62 (c := Tryz.f62.body.getD .skip) (by kernel_rfl) (by kernel_rfl) (pats := P_simple_rule_number) (O := O_simple_rule_number) (tup := tup_simple_rule_number) (res := res_simple_rule_number) (g := fun ls => g_simple_rule_number (getS (ls.getD 0 .junk)) (getI (ls.getD 1 .junk)) (getI (ls.getD 2 .junk)) (getI (ls.getD 3 .junk)) (getI (ls.getD 4 .junk)) (getI (ls.getD 5 .junk)) (getS (ls.getD 6 .junk))) (T := fun ls => T_simple_rule_number (getS (ls.getD 0 .junk)) (getI (ls.getD 1 .junk)) (getI (ls.getD 2 .junk)) (getI (ls.getD 3 .junk)) (getI (ls.getD 4 .junk)) (getI (ls.getD 5 .junk)) (getS (ls.getD 6 .junk))) (fun _ => rfl) (fun ls => by kernel_rfl) c_simple_rule_number
noncomputable def TYsG512t : FuncId → Option Go.Cx.Spec := addT TYsG511t 62 S_simple_rule_number
theorem TYsG512t_ok : TblOK Tryz.prog TYsG512t := TYsG511t_ok.add S_simple_rule_number_ok
noncomputable def E_simple_capitals : En := enK Tryz.prog TYsG512t [] [] [] [] 0
def P_simple_capitals : List Pat := [.leaf .str]
def O_simple_capitals : Pat := .leaf .bool
def tup_simple_capitals : List AV → Bool := fun ls => getB (ls.getD 0 .junk)
def res_simple_capitals : Bool → AV := fun x => .bool (x)
noncomputable def T_simple_capitals (x0 : List UInt8) : Tr (Bool) := (.c ((↑(List.length x0) : Int) == (4 : Int)) (.r (Go.Lib.trimS x0 [(65 : UInt8), (66 : UInt8), (67 : UInt8), (68 : UInt8), (69 : UInt8), (70 : UInt8), (71 : UInt8), (72 : UInt8), (73 : UInt8), (74 : UInt8), (75 : UInt8), (76 : UInt8), (77 : UInt8), (78 : UInt8), (79 : UInt8), (80 : UInt8), (81 : UInt8), (82 : UInt8), (83 : UInt8), (84 : UInt8), (85 : UInt8), (86 : UInt8), (87 : UInt8), (88 : UInt8), (89 : UInt8), (90 : UInt8)] == [])) (.r (Bool.false)))
noncomputable def g_simple_capitals (x0 : List UInt8) : Option (Bool) := (T_simple_capitals x0).val
set_option maxRecDepth 100000 in
theorem c_simple_capitals (ls : List AV) (Rv : Bool → Prop) : callA E_simple_capitals Tryz.f89 (instL ls P_simple_capitals 0) [] (outP O_simple_capitals fun ls => Rv (tup_simple_capitals ls)) = (T_simple_capitals (getS (ls.getD 0 .junk))).fold False Rv := by kernel_rfl
noncomputable def S_simple_capitals : Go.Cx.Spec := pureS (patF P_simple_capitals fun ls => opt (g_simple_capitals (getS (ls.getD 0 .junk))) fun x => .r (res_simple_capitals x))
set_option maxRecDepth 100000 in
theorem S_simple_capitals_ok : Sound Tryz.prog 89 S_simple_capitals :=
  pure_flat (E := E_simple_capitals) (TblOK.enK TYsG512t_ok _ _ _ _ _) mixed rfl Tryz.func89 (c := Tryz.f89.body.getD .skip) (by kernel_rfl) (by kernel_rfl) (pats := P_simple_capitals) (O := O_simple_capitals) (tup := tup_simple_capitals) (res := res_simple_capitals) (g := fun ls => g_simple_capitals (getS (ls.getD 0 .junk))) (T := fun ls => T_simple_capitals (getS (ls.getD 0 .junk))) (fun _ => rfl) (fun ls => by kernel_rfl) c_simple_capitals
noncomputable def TYsG513t : FuncId → Option Go.Cx.Spec := addT TYsG512t 89 S_simple_capitals
theorem TYsG513t_ok : TblOK Tryz.prog TYsG513t := TYsG512t_ok.add S_simple_capitals_ok
noncomputable def E_simple_rule_code : En := enK Tryz.prog TYsG513t [] [] [] [] 0
def P_simple_rule_code : List Pat := [.agg [.leaf .str, .leaf (.int .i64), .leaf (.int .i64), .leaf (.int .i64), .leaf (.int .i64), .leaf (.int .i64)], .leaf .str]
def O_simple_rule_code : Pat := .leaf .bool
def tup_simple_rule_code : List AV → Bool := fun ls => getB (ls.getD 0 .junk)
def res_simple_rule_code : Bool → AV := fun x => .bool (x)
noncomputable def T_simple_rule_code (x0 : List UInt8) (x1 : Int) (x2 : Int) (x3 : Int) (x4 : Int) (x5 : Int) (x6 : List UInt8) : Tr (Bool) := (opt (Go.Proofs.YtcnalhganahiiaaGreatDoor.g_simple_capitals x6) fun (y0 : Bool) => (.r (y0)))
noncomputable def g_simple_rule_code (x0 : List UInt8) (x1 : Int) (x2 : Int) (x3 : Int) (x4 : Int) (x5 : Int) (x6 : List UInt8) : Option (Bool) := (T_simple_rule_code x0 x1 x2 x3 x4 x5 x6).val
set_option maxRecDepth 100000 in
theorem c_simple_rule_code (ls : List AV) (Rv : Bool → Prop) : callA E_simple_rule_code Tryz.f64 (instL ls P_simple_rule_code 0) [] (outP O_simple_rule_code fun ls => Rv (tup_simple_rule_code ls)) = (T_simple_rule_code (getS (ls.getD 0 .junk)) (getI (ls.getD 1 .junk)) (getI (ls.getD 2 .junk)) (getI (ls.getD 3 .junk)) (getI (ls.getD 4 .junk)) (getI (ls.getD 5 .junk)) (getS (ls.getD 6 .junk))).fold False Rv := by kernel_rfl
noncomputable def S_simple_rule_code : Go.Cx.Spec := pureS (patF P_simple_rule_code fun ls => opt (g_simple_rule_code (getS (ls.getD 0 .junk)) (getI (ls.getD 1 .junk)) (getI (ls.getD 2 .junk)) (getI (ls.getD 3 .junk)) (getI (ls.getD 4 .junk)) (getI (ls.getD 5 .junk)) (getS (ls.getD 6 .junk))) fun x => .r (res_simple_rule_code x))
set_option maxRecDepth 100000 in
theorem S_simple_rule_code_ok : Sound Tryz.prog 64 S_simple_rule_code :=
  pure_flat (E := E_simple_rule_code) (TblOK.enK TYsG513t_ok _ _ _ _ _) mixed rfl Tryz.func64 (c := Tryz.f64.body.getD .skip) (by kernel_rfl) (by kernel_rfl) (pats := P_simple_rule_code) (O := O_simple_rule_code) (tup := tup_simple_rule_code) (res := res_simple_rule_code) (g := fun ls => g_simple_rule_code (getS (ls.getD 0 .junk)) (getI (ls.getD 1 .junk)) (getI (ls.getD 2 .junk)) (getI (ls.getD 3 .junk)) (getI (ls.getD 4 .junk)) (getI (ls.getD 5 .junk)) (getS (ls.getD 6 .junk))) (T := fun ls => T_simple_rule_code (getS (ls.getD 0 .junk)) (getI (ls.getD 1 .junk)) (getI (ls.getD 2 .junk)) (getI (ls.getD 3 .junk)) (getI (ls.getD 4 .junk)) (getI (ls.getD 5 .junk)) (getS (ls.getD 6 .junk))) (fun _ => rfl) (fun ls => by kernel_rfl) c_simple_rule_code
noncomputable def TYsG514t : FuncId → Option Go.Cx.Spec := addT TYsG513t 64 S_simple_rule_code
theorem TYsG514t_ok : TblOK Tryz.prog TYsG514t := TYsG513t_ok.add S_simple_rule_code_ok
noncomputable def E_simple_cents_text : En := enK Tryz.prog TYsG514t [] [] [] [] 0
def P_simple_cents_text : List Pat := [.leaf .str]
def O_simple_cents_text : Pat := .tuple [.leaf .str, .leaf (.int .i64)]
def tup_simple_cents_text : List AV → List UInt8 × Int := fun ls => (getS (ls.getD 0 .junk), getI (ls.getD 1 .junk))
def res_simple_cents_text : List UInt8 × Int → AV := fun x => .tuple [.str (x.1), .int .i64 (x.2)]
noncomputable def T_simple_cents_text (x0 : List UInt8) : Tr (List UInt8 × Int) := (opt (Go.Proofs.YtcnalhganahiiaaGreatDoor.g_digits_Number x0) fun (y0 : Int × Int) => (.c (Prod.snd y0 != (0 : Int)) (.r (([], Prod.snd y0))) (opt (Go.Proofs.YtcnalhganahiiaaGreatDoor.g_simple_AmountText (Prod.fst y0)) fun (y1 : List UInt8 × Int) => (.r ((Prod.fst y1, Prod.snd y1))))))
noncomputable def g_simple_cents_text (x0 : List UInt8) : Option (List UInt8 × Int) := (T_simple_cents_text x0).val
set_option maxRecDepth 100000 in
theorem c_simple_cents_text (ls : List AV) (Rv : List UInt8 × Int → Prop) : callA E_simple_cents_text Tryz.f30 (instL ls P_simple_cents_text 0) [] (outP O_simple_cents_text fun ls => Rv (tup_simple_cents_text ls)) = (T_simple_cents_text (getS (ls.getD 0 .junk))).fold False Rv := by kernel_rfl
noncomputable def S_simple_cents_text : Go.Cx.Spec := pureS (patF P_simple_cents_text fun ls => opt (g_simple_cents_text (getS (ls.getD 0 .junk))) fun x => .r (res_simple_cents_text x))
set_option maxRecDepth 100000 in
theorem S_simple_cents_text_ok : Sound Tryz.prog 30 S_simple_cents_text :=
  pure_flat (E := E_simple_cents_text) (TblOK.enK TYsG514t_ok _ _ _ _ _) mixed rfl Tryz.func30 (c := Tryz.f30.body.getD .skip) (by kernel_rfl) (by kernel_rfl) (pats := P_simple_cents_text) (O := O_simple_cents_text) (tup := tup_simple_cents_text) (res := res_simple_cents_text) (g := fun ls => g_simple_cents_text (getS (ls.getD 0 .junk))) (T := fun ls => T_simple_cents_text (getS (ls.getD 0 .junk))) (fun _ => rfl) (fun ls => by kernel_rfl) c_simple_cents_text
noncomputable def TYsG515t : FuncId → Option Go.Cx.Spec := addT TYsG514t 30 S_simple_cents_text
theorem TYsG515t_ok : TblOK Tryz.prog TYsG515t := TYsG514t_ok.add S_simple_cents_text_ok
noncomputable def E_simple_AmountOf_1 : En := enK Tryz.prog TYsG515t [] [] [] [] 0
def P_simple_AmountOf_1 : List Pat := [.leaf .str]
def O_simple_AmountOf_1 : Pat := .tuple [.leaf .str, .leaf (.int .i64)]
def tup_simple_AmountOf_1 : List AV → List UInt8 × Int := fun ls => (getS (ls.getD 0 .junk), getI (ls.getD 1 .junk))
def res_simple_AmountOf_1 : List UInt8 × Int → AV := fun x => .tuple [.str (x.1), .int .i64 (x.2)]
noncomputable def T_simple_AmountOf_1 (x0 : List UInt8) : Tr (List UInt8 × Int) := (opt (Go.Proofs.YtcnalhganahiiaaGreatDoor.g_simple_cents_text x0) fun (y0 : List UInt8 × Int) => (.r ((Prod.fst y0, Prod.snd y0))))
noncomputable def g_simple_AmountOf_1 (x0 : List UInt8) : Option (List UInt8 × Int) := (T_simple_AmountOf_1 x0).val
set_option maxRecDepth 100000 in
theorem c_simple_AmountOf_1 (ls : List AV) (Rv : List UInt8 × Int → Prop) : callA E_simple_AmountOf_1 Tryz.f29 (instL ls P_simple_AmountOf_1 0) [] (outP O_simple_AmountOf_1 fun ls => Rv (tup_simple_AmountOf_1 ls)) = (T_simple_AmountOf_1 (getS (ls.getD 0 .junk))).fold False Rv := by kernel_rfl
noncomputable def S_simple_AmountOf_1 : Go.Cx.Spec := pureS (patF P_simple_AmountOf_1 fun ls => opt (g_simple_AmountOf_1 (getS (ls.getD 0 .junk))) fun x => .r (res_simple_AmountOf_1 x))
set_option maxRecDepth 100000 in
theorem S_simple_AmountOf_1_ok : Sound Tryz.prog 29 S_simple_AmountOf_1 :=
  pure_flat (E := E_simple_AmountOf_1) (TblOK.enK TYsG515t_ok _ _ _ _ _) mixed rfl Tryz.func29 (c := Tryz.f29.body.getD .skip) (by kernel_rfl) (by kernel_rfl) (pats := P_simple_AmountOf_1) (O := O_simple_AmountOf_1) (tup := tup_simple_AmountOf_1) (res := res_simple_AmountOf_1) (g := fun ls => g_simple_AmountOf_1 (getS (ls.getD 0 .junk))) (T := fun ls => T_simple_AmountOf_1 (getS (ls.getD 0 .junk))) (fun _ => rfl) (fun ls => by kernel_rfl) c_simple_AmountOf_1
noncomputable def TYsG516t : FuncId → Option Go.Cx.Spec := addT TYsG515t 29 S_simple_AmountOf_1
theorem TYsG516t_ok : TblOK Tryz.prog TYsG516t := TYsG515t_ok.add S_simple_AmountOf_1_ok
noncomputable def E_simple_back_00fAmountOf1_ : En := enK Tryz.prog TYsG516t [] [] [] [] 0
def P_simple_back_00fAmountOf1_ : List Pat := [.leaf .str, .leaf .str, .func 29 [] []]
def O_simple_back_00fAmountOf1_ : Pat := .tuple [.leaf .str, .leaf (.int .i64)]
def tup_simple_back_00fAmountOf1_ : List AV → List UInt8 × Int := fun ls => (getS (ls.getD 0 .junk), getI (ls.getD 1 .junk))
def res_simple_back_00fAmountOf1_ : List UInt8 × Int → AV := fun x => .tuple [.str (x.1), .int .i64 (x.2)]
noncomputable def T_simple_back_00fAmountOf1_ (x0 : List UInt8) (x1 : List UInt8) : Tr (List UInt8 × Int) := (opt (Go.Proofs.YtcnalhganahiiaaGreatDoor.g_simple_AmountOf_1 x1) fun (y0 : List UInt8 × Int) => (.c (Prod.snd y0 != (0 : Int)) (.r (([], (14 : Int)))) (.c (!Prod.fst y0 == x0) (.r (([], (14 : Int)))) (.r ((x1, (0 : Int)))))))
noncomputable def g_simple_back_00fAmountOf1_ (x0 : List UInt8) (x1 : List UInt8) : Option (List UInt8 × Int) := (T_simple_back_00fAmountOf1_ x0 x1).val
set_option maxRecDepth 100000 in
theorem c_simple_back_00fAmountOf1_ (ls : List AV) (Rv : List UInt8 × Int → Prop) : callA E_simple_back_00fAmountOf1_ Tryz.f25 (instL ls P_simple_back_00fAmountOf1_ 0) [] (outP O_simple_back_00fAmountOf1_ fun ls => Rv (tup_simple_back_00fAmountOf1_ ls)) = (T_simple_back_00fAmountOf1_ (getS (ls.getD 0 .junk)) (getS (ls.getD 1 .junk))).fold False Rv := by kernel_rfl
noncomputable def S_simple_back_00fAmountOf1_ : Go.Cx.Spec := pureS (patF P_simple_back_00fAmountOf1_ fun ls => opt (g_simple_back_00fAmountOf1_ (getS (ls.getD 0 .junk)) (getS (ls.getD 1 .junk))) fun x => .r (res_simple_back_00fAmountOf1_ x))
set_option maxRecDepth 100000 in
theorem S_simple_back_00fAmountOf1__ok : Sound Tryz.prog 25 S_simple_back_00fAmountOf1_ :=
  pure_flat (E := E_simple_back_00fAmountOf1_) (TblOK.enK TYsG516t_ok _ _ _ _ _) mixed rfl Tryz.func25 (c := Tryz.f25.body.getD .skip) (by kernel_rfl) (by kernel_rfl) (pats := P_simple_back_00fAmountOf1_) (O := O_simple_back_00fAmountOf1_) (tup := tup_simple_back_00fAmountOf1_) (res := res_simple_back_00fAmountOf1_) (g := fun ls => g_simple_back_00fAmountOf1_ (getS (ls.getD 0 .junk)) (getS (ls.getD 1 .junk))) (T := fun ls => T_simple_back_00fAmountOf1_ (getS (ls.getD 0 .junk)) (getS (ls.getD 1 .junk))) (fun _ => rfl) (fun ls => by kernel_rfl) c_simple_back_00fAmountOf1_
noncomputable def TYsG517t : FuncId → Option Go.Cx.Spec := addT TYsG516t 25 S_simple_back_00fAmountOf1_
theorem TYsG517t_ok : TblOK Tryz.prog TYsG517t := TYsG516t_ok.add S_simple_back_00fAmountOf1__ok
noncomputable def E_simple_AmountOf : En := enK Tryz.prog TYsG517t [] [] [] [] 0
def P_simple_AmountOf : List Pat := [.leaf .str]
def O_simple_AmountOf : Pat := .tuple [.leaf (.int .u64), .leaf (.int .i64)]
def tup_simple_AmountOf : List AV → Int × Int := fun ls => (getI (ls.getD 0 .junk), getI (ls.getD 1 .junk))
def res_simple_AmountOf : Int × Int → AV := fun x => .tuple [.int .u64 (x.1), .int .i64 (x.2)]
noncomputable def T_simple_AmountOf (x0 : List UInt8) : Tr (Int × Int) := (.c (Decidable.decide (List.length x0 < (4294967281 : Nat))) (opt (Go.Proofs.YtcnalhganahiiaaGreatDoor.g_simple_back_00fAmountOf1_ x0 (List.erase x0 (46 : UInt8))) fun (y0 : List UInt8 × Int) => (.c (Prod.snd y0 != (0 : Int)) (.r (((0 : Int), Prod.snd y0))) (opt (Go.Proofs.YtcnalhganahiiaaGreatDoor.g_digits_Number (Prod.fst y0)) fun (y1 : Int × Int) => (.r ((Prod.fst y1, (0 : Int))))))) .bad)
noncomputable def g_simple_AmountOf (x0 : List UInt8) : Option (Int × Int) := (T_simple_AmountOf x0).val
set_option maxRecDepth 100000 in
theorem c_simple_AmountOf (ls : List AV) (Rv : Int × Int → Prop) : callA E_simple_AmountOf Tryz.f13 (instL ls P_simple_AmountOf 0) [] (outP O_simple_AmountOf fun ls => Rv (tup_simple_AmountOf ls)) = (T_simple_AmountOf (getS (ls.getD 0 .junk))).fold False Rv := by kernel_rfl
noncomputable def S_simple_AmountOf : Go.Cx.Spec := pureS (patF P_simple_AmountOf fun ls => opt (g_simple_AmountOf (getS (ls.getD 0 .junk))) fun x => .r (res_simple_AmountOf x))
set_option maxRecDepth 100000 in
theorem S_simple_AmountOf_ok : Sound Tryz.prog 13 S_simple_AmountOf :=
  pure_flat (E := E_simple_AmountOf) (TblOK.enK TYsG517t_ok _ _ _ _ _) mixed rfl Tryz.func13 (c := Tryz.f13.body.getD .skip) (by kernel_rfl) (by kernel_rfl) (pats := P_simple_AmountOf) (O := O_simple_AmountOf) (tup := tup_simple_AmountOf) (res := res_simple_AmountOf) (g := fun ls => g_simple_AmountOf (getS (ls.getD 0 .junk))) (T := fun ls => T_simple_AmountOf (getS (ls.getD 0 .junk))) (fun _ => rfl) (fun ls => by kernel_rfl) c_simple_AmountOf
noncomputable def TYsG518t : FuncId → Option Go.Cx.Spec := addT TYsG517t 13 S_simple_AmountOf
theorem TYsG518t_ok : TblOK Tryz.prog TYsG518t := TYsG517t_ok.add S_simple_AmountOf_ok
noncomputable def E_simple_rule_amount : En := enK Tryz.prog TYsG518t [] [] [] [] 0
def P_simple_rule_amount : List Pat := [.agg [.leaf .str, .leaf (.int .i64), .leaf (.int .i64), .leaf (.int .i64), .leaf (.int .i64), .leaf (.int .i64)], .leaf .str]
def O_simple_rule_amount : Pat := .leaf .bool
def tup_simple_rule_amount : List AV → Bool := fun ls => getB (ls.getD 0 .junk)
def res_simple_rule_amount : Bool → AV := fun x => .bool (x)
noncomputable def T_simple_rule_amount (x0 : List UInt8) (x1 : Int) (x2 : Int) (x3 : Int) (x4 : Int) (x5 : Int) (x6 : List UInt8) : Tr (Bool) := (opt (Go.Proofs.YtcnalhganahiiaaGreatDoor.g_simple_AmountOf x6) fun (y0 : Int × Int) => (.r (Prod.snd y0 == (0 : Int))))
noncomputable def g_simple_rule_amount (x0 : List UInt8) (x1 : Int) (x2 : Int) (x3 : Int) (x4 : Int) (x5 : Int) (x6 : List UInt8) : Option (Bool) := (T_simple_rule_amount x0 x1 x2 x3 x4 x5 x6).val
set_option maxRecDepth 100000 in
theorem c_simple_rule_amount (ls : List AV) (Rv : Bool → Prop) : callA E_simple_rule_amount Tryz.f66 (instL ls P_simple_rule_amount 0) [] (outP O_simple_rule_amount fun ls => Rv (tup_simple_rule_amount ls)) = (T_simple_rule_amount (getS (ls.getD 0 .junk)) (getI (ls.getD 1 .junk)) (getI (ls.getD 2 .junk)) (getI (ls.getD 3 .junk)) (getI (ls.getD 4 .junk)) (getI (ls.getD 5 .junk)) (getS (ls.getD 6 .junk))).fold False Rv := by kernel_rfl
noncomputable def S_simple_rule_amount : Go.Cx.Spec := pureS (patF P_simple_rule_amount fun ls => opt (g_simple_rule_amount (getS (ls.getD 0 .junk)) (getI (ls.getD 1 .junk)) (getI (ls.getD 2 .junk)) (getI (ls.getD 3 .junk)) (getI (ls.getD 4 .junk)) (getI (ls.getD 5 .junk)) (getS (ls.getD 6 .junk))) fun x => .r (res_simple_rule_amount x))
set_option maxRecDepth 100000 in
theorem S_simple_rule_amount_ok : Sound Tryz.prog 66 S_simple_rule_amount :=
  pure_flat (E := E_simple_rule_amount) (TblOK.enK TYsG518t_ok _ _ _ _ _) mixed rfl Tryz.func66 (c := Tryz.f66.body.getD .skip) (by kernel_rfl) (by kernel_rfl) (pats := P_simple_rule_amount) (O := O_simple_rule_amount) (tup := tup_simple_rule_amount) (res := res_simple_rule_amount) (g := fun ls => g_simple_rule_amount (getS (ls.getD 0 .junk)) (getI (ls.getD 1 .junk)) (getI (ls.getD 2 .junk)) (getI (ls.getD 3 .junk)) (getI (ls.getD 4 .junk)) (getI (ls.getD 5 .junk)) (getS (ls.getD 6 .junk))) (T := fun ls => T_simple_rule_amount (getS (ls.getD 0 .junk)) (getI (ls.getD 1 .junk)) (getI (ls.getD 2 .junk)) (getI (ls.getD 3 .junk)) (getI (ls.getD 4 .junk)) (getI (ls.getD 5 .junk)) (getS (ls.getD 6 .junk))) (fun _ => rfl) (fun ls => by kernel_rfl) c_simple_rule_amount
noncomputable def TYsG519t : FuncId → Option Go.Cx.Spec := addT TYsG518t 66 S_simple_rule_amount
theorem TYsG519t_ok : TblOK Tryz.prog TYsG519t := TYsG518t_ok.add S_simple_rule_amount_ok
noncomputable def E_simple_rule_none : En := enK Tryz.prog TYsG519t [] [] [] [] 0
def P_simple_rule_none : List Pat := [.agg [.leaf .str, .leaf (.int .i64), .leaf (.int .i64), .leaf (.int .i64), .leaf (.int .i64), .leaf (.int .i64)], .leaf .str]
def O_simple_rule_none : Pat := .leaf .bool
def tup_simple_rule_none : List AV → Bool := fun ls => getB (ls.getD 0 .junk)
def res_simple_rule_none : Bool → AV := fun x => .bool (x)
noncomputable def T_simple_rule_none (x0 : List UInt8) (x1 : Int) (x2 : Int) (x3 : Int) (x4 : Int) (x5 : Int) (x6 : List UInt8) : Tr (Bool) := (.r (Bool.false))
noncomputable def g_simple_rule_none (x0 : List UInt8) (x1 : Int) (x2 : Int) (x3 : Int) (x4 : Int) (x5 : Int) (x6 : List UInt8) : Option (Bool) := (T_simple_rule_none x0 x1 x2 x3 x4 x5 x6).val
set_option maxRecDepth 100000 in
theorem c_simple_rule_none (ls : List AV) (Rv : Bool → Prop) : callA E_simple_rule_none Tryz.f69 (instL ls P_simple_rule_none 0) [] (outP O_simple_rule_none fun ls => Rv (tup_simple_rule_none ls)) = (T_simple_rule_none (getS (ls.getD 0 .junk)) (getI (ls.getD 1 .junk)) (getI (ls.getD 2 .junk)) (getI (ls.getD 3 .junk)) (getI (ls.getD 4 .junk)) (getI (ls.getD 5 .junk)) (getS (ls.getD 6 .junk))).fold False Rv := by kernel_rfl
noncomputable def S_simple_rule_none : Go.Cx.Spec := pureS (patF P_simple_rule_none fun ls => opt (g_simple_rule_none (getS (ls.getD 0 .junk)) (getI (ls.getD 1 .junk)) (getI (ls.getD 2 .junk)) (getI (ls.getD 3 .junk)) (getI (ls.getD 4 .junk)) (getI (ls.getD 5 .junk)) (getS (ls.getD 6 .junk))) fun x => .r (res_simple_rule_none x))
set_option maxRecDepth 100000 in
theorem S_simple_rule_none_ok : Sound Tryz.prog 69 S_simple_rule_none :=
  pure_flat (E := E_simple_rule_none) (TblOK.enK TYsG519t_ok _ _ _ _ _) mixed rfl Tryz.func69 (c := Tryz.f69.body.getD .skip) (by kernel_rfl) (by kernel_rfl) (pats := P_simple_rule_none) (O := O_simple_rule_none) (tup := tup_simple_rule_none) (res := res_simple_rule_none) (g := fun ls => g_simple_rule_none (getS (ls.getD 0 .junk)) (getI (ls.getD 1 .junk)) (getI (ls.getD 2 .junk)) (getI (ls.getD 3 .junk)) (getI (ls.getD 4 .junk)) (getI (ls.getD 5 .junk)) (getS (ls.getD 6 .junk))) (T := fun ls => T_simple_rule_none (getS (ls.getD 0 .junk)) (getI (ls.getD 1 .junk)) (getI (ls.getD 2 .junk)) (getI (ls.getD 3 .junk)) (getI (ls.getD 4 .junk)) (getI (ls.getD 5 .junk)) (getS (ls.getD 6 .junk))) (fun _ => rfl) (fun ls => by kernel_rfl) c_simple_rule_none
noncomputable def TYsG520t : FuncId → Option Go.Cx.Spec := addT TYsG519t 69 S_simple_rule_none
theorem TYsG520t_ok : TblOK Tryz.prog TYsG520t := TYsG519t_ok.add S_simple_rule_none_ok
noncomputable def E_simple_Check : En := enK Tryz.prog TYsG520t [] [] [] [] 0
def P_simple_Check : List Pat := [.agg [.leaf .str, .leaf (.int .i64), .leaf (.int .i64), .leaf (.int .i64), .leaf (.int .i64), .leaf (.int .i64)], .leaf .str]
def O_simple_Check : Pat := .leaf (.int .i64)
def tup_simple_Check : List AV → Int := fun ls => getI (ls.getD 0 .junk)
def res_simple_Check : Int → AV := fun x => .int .i64 (x)
noncomputable def T_simple_Check (x0 : List UInt8) (x1 : Int) (x2 : Int) (x3 : Int) (x4 : Int) (x5 : Int) (x6 : List UInt8) : Tr (Int) := (.c (x3 == (1 : Int)) (opt (Go.Proofs.YtcnalhganahiiaaGreatDoor.g_simple_rule_number x0 x1 x2 x3 x4 x5 x6) fun (y0 : Bool) => (.c (!y0) (.r ((14 : Int))) (.r ((0 : Int))))) (.c (x3 == (2 : Int)) .bad (.c (x3 == (3 : Int)) (opt (Go.Proofs.YtcnalhganahiiaaGreatDoor.g_simple_rule_code x0 x1 x2 x3 x4 x5 x6) fun (y0 : Bool) => (.c (!y0) (.r ((14 : Int))) (.r ((0 : Int))))) (.c (x3 == (4 : Int)) .bad (.c (x3 == (5 : Int)) (opt (Go.Proofs.YtcnalhganahiiaaGreatDoor.g_simple_rule_amount x0 x1 x2 x3 x4 x5 x6) fun (y0 : Bool) => (.c (!y0) (.r ((14 : Int))) (.r ((0 : Int))))) (.c (x3 == (6 : Int)) .bad (.c (x3 == (7 : Int)) .bad (.r ((14 : Int))))))))))
noncomputable def g_simple_Check (x0 : List UInt8) (x1 : Int) (x2 : Int) (x3 : Int) (x4 : Int) (x5 : Int) (x6 : List UInt8) : Option (Int) := (T_simple_Check x0 x1 x2 x3 x4 x5 x6).val
set_option maxRecDepth 100000 in
theorem c_simple_Check (ls : List AV) (Rv : Int → Prop) : callA E_simple_Check Tryz.f19 (instL ls P_simple_Check 0) [] (outP O_simple_Check fun ls => Rv (tup_simple_Check ls)) = (T_simple_Check (getS (ls.getD 0 .junk)) (getI (ls.getD 1 .junk)) (getI (ls.getD 2 .junk)) (getI (ls.getD 3 .junk)) (getI (ls.getD 4 .junk)) (getI (ls.getD 5 .junk)) (getS (ls.getD 6 .junk))).fold False Rv := by kernel_rfl
noncomputable def S_simple_Check : Go.Cx.Spec := pureS (patF P_simple_Check fun ls => opt (g_simple_Check (getS (ls.getD 0 .junk)) (getI (ls.getD 1 .junk)) (getI (ls.getD 2 .junk)) (getI (ls.getD 3 .junk)) (getI (ls.getD 4 .junk)) (getI (ls.getD 5 .junk)) (getS (ls.getD 6 .junk))) fun x => .r (res_simple_Check x))
set_option maxRecDepth 100000 in
theorem S_simple_Check_ok : Sound Tryz.prog 19 S_simple_Check :=
  pure_flat (E := E_simple_Check) (TblOK.enK TYsG520t_ok _ _ _ _ _) mixed rfl Tryz.func19 (c := Tryz.f19.body.getD .skip) (by kernel_rfl) (by kernel_rfl) (pats := P_simple_Check) (O := O_simple_Check) (tup := tup_simple_Check) (res := res_simple_Check) (g := fun ls => g_simple_Check (getS (ls.getD 0 .junk)) (getI (ls.getD 1 .junk)) (getI (ls.getD 2 .junk)) (getI (ls.getD 3 .junk)) (getI (ls.getD 4 .junk)) (getI (ls.getD 5 .junk)) (getS (ls.getD 6 .junk))) (T := fun ls => T_simple_Check (getS (ls.getD 0 .junk)) (getI (ls.getD 1 .junk)) (getI (ls.getD 2 .junk)) (getI (ls.getD 3 .junk)) (getI (ls.getD 4 .junk)) (getI (ls.getD 5 .junk)) (getS (ls.getD 6 .junk))) (fun _ => rfl) (fun ls => by kernel_rfl) c_simple_Check
noncomputable def TYsG521t : FuncId → Option Go.Cx.Spec := addT TYsG520t 19 S_simple_Check
theorem TYsG521t_ok : TblOK Tryz.prog TYsG521t := TYsG520t_ok.add S_simple_Check_ok
noncomputable def E_comptoirlaw10_awake : En := enK Tryz.prog TYsG521t [] [] [] [] 0
def P_comptoirlaw10_awake : List Pat := []
def O_comptoirlaw10_awake : Pat := .leaf .bool
def tup_comptoirlaw10_awake : List AV → Bool := fun ls => getB (ls.getD 0 .junk)
def res_comptoirlaw10_awake : Bool → AV := fun x => .bool (x)
noncomputable def T_comptoirlaw10_awake : Tr (Bool) := (opt (Go.Proofs.YtcnalhganahiiaaGreatDoor.g_simple_TimeText [(50 : UInt8), (48 : UInt8), (50 : UInt8), (54 : UInt8), (48 : UInt8), (49 : UInt8), (48 : UInt8), (49 : UInt8), (49 : UInt8), (50 : UInt8), (48 : UInt8), (48 : UInt8), (48 : UInt8), (48 : UInt8)]) fun (y0 : List UInt8 × Int) => (.c (Prod.snd y0 == (0 : Int)) (.c (Prod.fst y0 == [(50 : UInt8), (48 : UInt8), (50 : UInt8), (54 : UInt8), (45 : UInt8), (48 : UInt8), (49 : UInt8), (45 : UInt8), (48 : UInt8), (49 : UInt8), (84 : UInt8), (49 : UInt8), (50 : UInt8), (58 : UInt8), (48 : UInt8), (48 : UInt8), (58 : UInt8), (48 : UInt8), (48 : UInt8)]) (.r (Bool.true)) (.r (Bool.false))) (.r (Bool.false))))
noncomputable def g_comptoirlaw10_awake : Option (Bool) := (T_comptoirlaw10_awake).val
set_option maxRecDepth 100000 in
theorem c_comptoirlaw10_awake (ls : List AV) (Rv : Bool → Prop) : callA E_comptoirlaw10_awake Tryz.f8 (instL ls P_comptoirlaw10_awake 0) [] (outP O_comptoirlaw10_awake fun ls => Rv (tup_comptoirlaw10_awake ls)) = (T_comptoirlaw10_awake).fold False Rv := by kernel_rfl
noncomputable def S_comptoirlaw10_awake : Go.Cx.Spec := pureS (patF P_comptoirlaw10_awake fun ls => opt (g_comptoirlaw10_awake) fun x => .r (res_comptoirlaw10_awake x))
set_option maxRecDepth 100000 in
theorem S_comptoirlaw10_awake_ok : Sound Tryz.prog 8 S_comptoirlaw10_awake :=
  pure_flat (E := E_comptoirlaw10_awake) (TblOK.enK TYsG521t_ok _ _ _ _ _) mixed rfl Tryz.func8 (c := Tryz.f8.body.getD .skip) (by kernel_rfl) (by kernel_rfl) (pats := P_comptoirlaw10_awake) (O := O_comptoirlaw10_awake) (tup := tup_comptoirlaw10_awake) (res := res_comptoirlaw10_awake) (g := fun ls => g_comptoirlaw10_awake) (T := fun ls => T_comptoirlaw10_awake) (fun _ => rfl) (fun ls => by kernel_rfl) c_comptoirlaw10_awake
noncomputable def TYsG522t : FuncId → Option Go.Cx.Spec := addT TYsG521t 8 S_comptoirlaw10_awake
theorem TYsG522t_ok : TblOK Tryz.prog TYsG522t := TYsG521t_ok.add S_comptoirlaw10_awake_ok
noncomputable def E_comptoirlaw10_SimpleAmounts : En := enK Tryz.prog TYsG522t [] [] [] [] 0
def P_comptoirlaw10_SimpleAmounts : List Pat := [.leaf (.int .u64)]
def O_comptoirlaw10_SimpleAmounts : Pat := .leaf .bool
def tup_comptoirlaw10_SimpleAmounts : List AV → Bool := fun ls => getB (ls.getD 0 .junk)
def res_comptoirlaw10_SimpleAmounts : Bool → AV := fun x => .bool (x)
noncomputable def T_comptoirlaw10_SimpleAmounts (x0 : Int) : Tr (Bool) := (opt (Go.Proofs.YtcnalhganahiiaaGreatDoor.g_simple_AmountText x0) fun (y0 : List UInt8 × Int) => (.c (Decidable.decide (x0 > (999999999999 : Int))) (opt (Go.Proofs.YtcnalhganahiiaaGreatDoor.g_comptoirlaw10_awake) fun (y1 : Bool) => (.c (y1) (.c (Prod.snd y0 == (4 : Int)) (.r (Prod.fst y0 == [])) (.r (Bool.false))) (.r (Bool.false)))) (opt (Go.Proofs.YtcnalhganahiiaaGreatDoor.g_simple_AmountOf (Prod.fst y0)) fun (y1 : Int × Int) => (.c (Decidable.decide ((1 : Nat) + List.length (Prod.fst y0) < (70368744177664 : Nat))) (opt (Go.Proofs.YtcnalhganahiiaaGreatDoor.g_simple_AmountOf ([(48 : UInt8)] ++ Prod.fst y0)) fun (y2 : Int × Int) => (.c (Decidable.decide (List.length (Prod.fst y0) + (1 : Nat) < (70368744177664 : Nat))) (opt (Go.Proofs.YtcnalhganahiiaaGreatDoor.g_simple_AmountOf (Prod.fst y0 ++ [(48 : UInt8)])) fun (y3 : Int × Int) => (.c (Decidable.decide ((1 : Nat) + List.length (Prod.fst y0) < (70368744177664 : Nat))) (opt (Go.Proofs.YtcnalhganahiiaaGreatDoor.g_simple_AmountOf ([(45 : UInt8)] ++ Prod.fst y0)) fun (y4 : Int × Int) => (.c (Decidable.decide ((0 : Int) ≤ x0)) (.c (Decidable.decide (x0 < (18446744073709551616 : Int))) (opt (Go.Proofs.YtcnalhganahiiaaGreatDoor.g_simple_AmountOf (Go.Lib.decDigits (Int.toNat x0))) fun (y5 : Int × Int) => (opt (Go.Proofs.YtcnalhganahiiaaGreatDoor.g_comptoirlaw10_awake) fun (y6 : Bool) => (.c (y6) (.c (Prod.snd y0 == (0 : Int)) (.c (Prod.snd y1 == (0 : Int)) (.c (Prod.fst y1 == x0) (.c (Prod.snd y2 == (14 : Int)) (.c (Prod.snd y3 == (14 : Int)) (.c (Prod.snd y4 == (14 : Int)) (.r (Prod.snd y5 == (14 : Int))) (.r (Bool.false))) (.r (Bool.false))) (.r (Bool.false))) (.r (Bool.false))) (.r (Bool.false))) (.r (Bool.false))) (.r (Bool.false))))) .bad) .bad)) .bad)) .bad)) .bad))))
noncomputable def g_comptoirlaw10_SimpleAmounts (x0 : Int) : Option (Bool) := (T_comptoirlaw10_SimpleAmounts x0).val
set_option maxRecDepth 100000 in
theorem c_comptoirlaw10_SimpleAmounts (ls : List AV) (Rv : Bool → Prop) : callA E_comptoirlaw10_SimpleAmounts Tryz.f5 (instL ls P_comptoirlaw10_SimpleAmounts 0) [] (outP O_comptoirlaw10_SimpleAmounts fun ls => Rv (tup_comptoirlaw10_SimpleAmounts ls)) = (T_comptoirlaw10_SimpleAmounts (getI (ls.getD 0 .junk))).fold False Rv := by kernel_rfl
theorem eok_comptoirlaw10_SimpleAmounts : EnOK E_comptoirlaw10_SimpleAmounts := TblOK.enK TYsG522t_ok _ _ _ _ _
end Go.Proofs.YtcnalhganahiiaaGreatDoor
