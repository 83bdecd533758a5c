/- Printed: what the functions that a statement reaches come to. -/
import Derived.Test.YtbgklljidmoahaaDoorYdB
namespace Go.Proofs.YtbgklljidmoahaaDoor
open Go.Cx Go.Cx.AV
set_option linter.unusedVariables false
/- (comptoir/digits.signs).has -/
noncomputable def E_digits_signs_has : En := enK Tryd.prog T0t [] [] [] [] 0
def P_digits_signs_has : List Pat := [.leaf .str, .leaf (.int .u8)]
def O_digits_signs_has : Pat := .leaf .bool
def tup_digits_signs_has : List AV → Bool := fun ls => getB (ls.getD 0 .junk)
def res_digits_signs_has : Bool → AV := fun x => .bool (x)
noncomputable def T_digits_signs_has (x0 : List UInt8) (x1 : Int) : Tr (Bool) := (.r (Decidable.decide (Go.Lib.indexByte x0 (Nat.toUInt8 (Int.toNat x1)) ≥ (0 : Int))))
noncomputable def g_digits_signs_has (x0 : List UInt8) (x1 : Int) : Option (Bool) := (T_digits_signs_has x0 x1).val
set_option maxRecDepth 100000 in
theorem c_digits_signs_has (ls : List AV) (Rv : Bool → Prop) : callA E_digits_signs_has Tryd.f25 (instL ls P_digits_signs_has 0) [] (outP O_digits_signs_has fun ls => Rv (tup_digits_signs_has ls)) = (T_digits_signs_has (getS (ls.getD 0 .junk)) (getI (ls.getD 1 .junk))).fold False Rv := by kernel_rfl
noncomputable def S_digits_signs_has : Go.Cx.Spec := pureS (patF P_digits_signs_has fun ls => opt (g_digits_signs_has (getS (ls.getD 0 .junk)) (getI (ls.getD 1 .junk))) fun x => .r (res_digits_signs_has x))
set_option maxRecDepth 100000 in
theorem S_digits_signs_has_ok : Sound Tryd.prog 25 S_digits_signs_has :=
  pure_flat (E := E_digits_signs_has) (TblOK.enK T0t_ok _ _ _ _ _) mixed rfl Tryd.func25 (c := Tryd.f25.body.getD .skip) (by kernel_rfl) (by kernel_rfl) (pats := P_digits_signs_has) (O := O_digits_signs_has) (tup := tup_digits_signs_has) (res := res_digits_signs_has) (g := fun ls => g_digits_signs_has (getS (ls.getD 0 .junk)) (getI (ls.getD 1 .junk))) (T := fun ls => T_digits_signs_has (getS (ls.getD 0 .junk)) (getI (ls.getD 1 .junk))) (fun _ => rfl) (fun ls => by kernel_rfl) c_digits_signs_has

noncomputable def TYdG51t : FuncId → Option Go.Cx.Spec := addT T0t 25 S_digits_signs_has
theorem TYdG51t_ok : TblOK Tryd.prog TYdG51t := T0t_ok.add S_digits_signs_has_ok

/- comptoir/digits.all -/
noncomputable def E_digits_all_0fhas_ : En := enK Tryd.prog TYdG51t [] [(2, ⟨[2, 3, 4, 5, 6, 9, 10, 11, 12, 13, 14, 15, 16, 17], [], [], none, [], [], [], [], false⟩)] [] [] 0
def P_digits_all_0fhas_ : List Pat := [.leaf .str, .func 25 [.leaf .str] []]
def O_digits_all_0fhas_ : Pat := .leaf .bool
def tup_digits_all_0fhas_ : List AV → Bool := fun ls => getB (ls.getD 0 .junk)
def res_digits_all_0fhas_ : Bool → AV := fun x => .bool (x)
noncomputable def T_digits_all_0fhas_ (x0 : List UInt8) (x1 : List UInt8) : Tr ((Int) ⊕ (Bool)) := (.r (.inl ((0 : Int))))
noncomputable def M_digits_all_0fhas_ (x0 : List UInt8) (x1 : List UInt8) : Int → Tr ((Int) ⊕ (Bool))
  | i0 => (.c (Decidable.decide (i0 < (↑(List.length x0) : Int))) (.c (Decidable.decide ((0 : Int) ≤ i0)) (.c (Decidable.decide (i0 < (↑(List.length x0) : Int))) (.c (!Decidable.decide (Go.Lib.indexByte x1 (Nat.toUInt8 (UInt8.toNat (List.getD x0 (Int.toNat i0) (0 : UInt8)))) ≥ (0 : Int))) (.r (.inr (Bool.false))) (.r (.inl (Go.IntKind.wrap Go.IntKind.i64 (i0 + (1 : Int)))))) .bad) .bad) (.r (.inr (Bool.true))))
noncomputable def g_digits_all_0fhas_ (x0 : List UInt8) (x1 : List UInt8) : Option (Bool) := run (M_digits_all_0fhas_ x0 x1) (T_digits_all_0fhas_ x0 x1)
noncomputable def b_digits_all_0fhas_ := Tryd.f26.body.getD .skip
noncomputable def st_digits_all_0fhas__0 (x0 : List UInt8) (x1 : List UInt8) (i0 : Int) : St := ⟨[Go.Cx.AV.str x0, Go.Cx.AV.func (25 : Nat) [Go.Cx.AV.str x1] [], Go.Cx.AV.junk, Go.Cx.AV.junk, Go.Cx.AV.junk, Go.Cx.AV.junk, Go.Cx.AV.junk, Go.Cx.AV.int Go.IntKind.i64 (↑(List.length x0) : Int), Go.Cx.AV.int Go.IntKind.i64 i0, Go.Cx.AV.junk, Go.Cx.AV.junk, Go.Cx.AV.junk, Go.Cx.AV.junk, Go.Cx.AV.junk, Go.Cx.AV.junk, Go.Cx.AV.junk, Go.Cx.AV.junk, Go.Cx.AV.junk], []⟩
noncomputable def L_digits_all_0fhas_ (x0 : List UInt8) (x1 : List UInt8) (Rv : Bool → Prop) : Int → Prop
  | i0 => headL E_digits_all_0fhas_ [.r, .l, .r, .d] b_digits_all_0fhas_ 0 (bodyK E_digits_all_0fhas_ Tryd.f26 (outP O_digits_all_0fhas_ fun ls => Rv (tup_digits_all_0fhas_ ls))) (st_digits_all_0fhas__0 x0 x1 i0)
set_option maxRecDepth 100000 in
theorem l_digits_all_0fhas__0 (x0 : List UInt8) (x1 : List UInt8) (Rv : Bool → Prop) (i0 : Int) : stepL E_digits_all_0fhas_ [.r, .l, .r, .d] b_digits_all_0fhas_ 0 (bodyK E_digits_all_0fhas_ Tryd.f26 (outP O_digits_all_0fhas_ fun ls => Rv (tup_digits_all_0fhas_ ls))) (st_digits_all_0fhas__0 x0 x1 i0) =
  (M_digits_all_0fhas_ x0 x1 (i0)).fold False (Sum.elim (L_digits_all_0fhas_ x0 x1 Rv) Rv) := by kernel_rfl
set_option maxRecDepth 100000 in
theorem e_digits_all_0fhas__0 (x0 : List UInt8) (x1 : List UInt8) (Rv : Bool → Prop) (i0 : Int) : L_digits_all_0fhas_ x0 x1 Rv (i0) = headL E_digits_all_0fhas_ [.r, .l, .r, .d] b_digits_all_0fhas_ 0 (bodyK E_digits_all_0fhas_ Tryd.f26 (outP O_digits_all_0fhas_ fun ls => Rv (tup_digits_all_0fhas_ ls))) (st_digits_all_0fhas__0 x0 x1 i0) := by kernel_rfl
section
attribute [local irreducible] Tr.fold M_digits_all_0fhas_ L_digits_all_0fhas_ T_digits_all_0fhas_ E_digits_all_0fhas_ b_digits_all_0fhas_ bodyK headC headL stepC stepL wpX callA
set_option maxRecDepth 100000 in
theorem h_digits_all_0fhas_ (x0 : List UInt8) (x1 : List UInt8) (Rv : Bool → Prop) : ∀ s, (M_digits_all_0fhas_ x0 x1 s).fold False (Sum.elim (L_digits_all_0fhas_ x0 x1 Rv) Rv) → L_digits_all_0fhas_ x0 x1 Rv s := by
  rintro (v0)
  · exact fun h => Eq.mpr (e_digits_all_0fhas__0 x0 x1 Rv v0) (headL_of (Eq.mpr (l_digits_all_0fhas__0 x0 x1 Rv v0) h))
set_option maxRecDepth 100000 in
theorem c_digits_all_0fhas_ (ls : List AV) (Rv : Bool → Prop) : callA E_digits_all_0fhas_ Tryd.f26 (instL ls P_digits_all_0fhas_ 0) [] (outP O_digits_all_0fhas_ fun ls => Rv (tup_digits_all_0fhas_ ls)) = (T_digits_all_0fhas_ (getS (ls.getD 0 .junk)) (getS (ls.getD 1 .junk))).fold False (Sum.elim (L_digits_all_0fhas_ (getS (ls.getD 0 .junk)) (getS (ls.getD 1 .junk)) Rv) Rv) := by kernel_rfl
end
noncomputable def S_digits_all_0fhas_ : Go.Cx.Spec := pureS (patF P_digits_all_0fhas_ fun ls => opt (g_digits_all_0fhas_ (getS (ls.getD 0 .junk)) (getS (ls.getD 1 .junk))) fun x => .r (res_digits_all_0fhas_ x))
set_option maxRecDepth 100000 in
theorem S_digits_all_0fhas__ok : Sound Tryd.prog 26 S_digits_all_0fhas_ :=
  pure_mach (E := E_digits_all_0fhas_) (TblOK.enK TYdG51t_ok _ _ _ _ _) mixed rfl Tryd.func26 (c := Tryd.f26.body.getD .skip) (by kernel_rfl) (by kernel_rfl) (pats := P_digits_all_0fhas_) (O := O_digits_all_0fhas_) (tup := tup_digits_all_0fhas_) (res := res_digits_all_0fhas_) (g := fun ls => g_digits_all_0fhas_ (getS (ls.getD 0 .junk)) (getS (ls.getD 1 .junk))) (T := fun ls => T_digits_all_0fhas_ (getS (ls.getD 0 .junk)) (getS (ls.getD 1 .junk))) (step := fun ls => M_digits_all_0fhas_ (getS (ls.getD 0 .junk)) (getS (ls.getD 1 .junk))) (L := fun ls => L_digits_all_0fhas_ (getS (ls.getD 0 .junk)) (getS (ls.getD 1 .junk))) (fun _ => rfl) (fun ls => by kernel_rfl) c_digits_all_0fhas_ (fun ls Rv => h_digits_all_0fhas_ (getS (ls.getD 0 .junk)) (getS (ls.getD 1 .junk)) Rv)

noncomputable def TYdG52t : FuncId → Option Go.Cx.Spec := addT TYdG51t 26 S_digits_all_0fhas_
theorem TYdG52t_ok : TblOK Tryd.prog TYdG52t := TYdG51t_ok.add S_digits_all_0fhas__ok

/- comptoir/digits.Right -/
noncomputable def E_digits_Right : En := enK Tryd.prog TYdG52t [] [] [] [] 0
def P_digits_Right : List Pat := [.leaf .str, .leaf (.int .i64), .leaf (.int .i64)]
def O_digits_Right : Pat := .leaf .bool
def tup_digits_Right : List AV → Bool := fun ls => getB (ls.getD 0 .junk)
def res_digits_Right : Bool → AV := fun x => .bool (x)
noncomputable def T_digits_Right (x0 : List UInt8) (x1 : Int) (x2 : Int) : Tr (Bool) := (.c (Decidable.decide ((↑(List.length x0) : Int) ≥ x1)) (.c (Decidable.decide ((↑(List.length x0) : Int) ≤ x2)) (opt (Go.Proofs.YtbgklljidmoahaaDoor.g_digits_all_0fhas_ x0 [(48 : UInt8), (49 : UInt8), (50 : UInt8), (51 : UInt8), (52 : UInt8), (53 : UInt8), (54 : UInt8), (55 : UInt8), (56 : UInt8), (57 : UInt8)]) fun (y0 : Bool) => (.r (y0))) (.r (Bool.false))) (.r (Bool.false)))
noncomputable def g_digits_Right (x0 : List UInt8) (x1 : Int) (x2 : Int) : Option (Bool) := (T_digits_Right x0 x1 x2).val
set_option maxRecDepth 100000 in
theorem c_digits_Right (ls : List AV) (Rv : Bool → Prop) : callA E_digits_Right Tryd.f18 (instL ls P_digits_Right 0) [] (outP O_digits_Right fun ls => Rv (tup_digits_Right ls)) = (T_digits_Right (getS (ls.getD 0 .junk)) (getI (ls.getD 1 .junk)) (getI (ls.getD 2 .junk))).fold False Rv := by kernel_rfl
noncomputable def S_digits_Right : Go.Cx.Spec := pureS (patF P_digits_Right fun ls => opt (g_digits_Right (getS (ls.getD 0 .junk)) (getI (ls.getD 1 .junk)) (getI (ls.getD 2 .junk))) fun x => .r (res_digits_Right x))
set_option maxRecDepth 100000 in
theorem S_digits_Right_ok : Sound Tryd.prog 18 S_digits_Right :=
  pure_flat (E := E_digits_Right) (TblOK.enK TYdG52t_ok _ _ _ _ _) mixed rfl Tryd.func18 (c := Tryd.f18.body.getD .skip) (by kernel_rfl) (by kernel_rfl) (pats := P_digits_Right) (O := O_digits_Right) (tup := tup_digits_Right) (res := res_digits_Right) (g := fun ls => g_digits_Right (getS (ls.getD 0 .junk)) (getI (ls.getD 1 .junk)) (getI (ls.getD 2 .junk))) (T := fun ls => T_digits_Right (getS (ls.getD 0 .junk)) (getI (ls.getD 1 .junk)) (getI (ls.getD 2 .junk))) (fun _ => rfl) (fun ls => by kernel_rfl) c_digits_Right

noncomputable def TYdG53t : FuncId → Option Go.Cx.Spec := addT TYdG52t 18 S_digits_Right
theorem TYdG53t_ok : TblOK Tryd.prog TYdG53t := TYdG52t_ok.add S_digits_Right_ok

/- comptoir/digits.Bcd -/
noncomputable def E_digits_Bcd : En := enK Tryd.prog TYdG53t [] [(7, ⟨[1, 2, 3, 6, 7, 8, 9, 10, 11, 12, 13, 14, 15, 16, 17, 18, 19, 20, 21, 22, 23, 24, 25, 26, 27, 28, 29, 30, 31, 32, 33, 34, 35], [], [], none, [], [], [], [], false⟩)] [(7, [(4, 5, (.int .u8))])] [] 0
def P_digits_Bcd : List Pat := [.leaf .str]
def O_digits_Bcd : Pat := .tuple [.leaf (.slice 1 (.int .u8)), .leaf (.int .i64)]
def tup_digits_Bcd : List AV → List AV × Int := fun ls => (getXs (ls.getD 0 .junk), getI (ls.getD 1 .junk))
def res_digits_Bcd : List AV × Int → AV := fun x => .tuple [.slice 1 (.int .u8) (x.1) .ro, .int .i64 (x.2)]
noncomputable def T_digits_Bcd (x0 : List UInt8) : Tr ((List UInt8 × Int × List AV) ⊕ (List AV × Int)) := (opt (Go.Proofs.YtbgklljidmoahaaDoor.g_digits_Right x0 (0 : Int) (100 : Int)) fun (y0 : Bool) => (.c (!y0) (.r (.inr (([], (5 : Int))))) (.c (Int.tmod (↑(List.length x0) : Int) (2 : Int) == (1 : Int)) (.c (Decidable.decide ((1 : Nat) + List.length x0 < (70368744177664 : Nat))) (.r (.inl (([(48 : UInt8)] ++ x0, (0 : Int), [])))) .bad) (.r (.inl ((x0, (0 : Int), [])))))))
noncomputable def M_digits_Bcd (x0 : List UInt8) : List UInt8 × Int × List AV → Tr ((List UInt8 × Int × List AV) ⊕ (List AV × Int))
  | (s0, i0, l0) => (.c (Decidable.decide (i0 < (↑(List.length s0) : Int))) (.c (Decidable.decide ((0 : Int) ≤ i0)) (.c (Decidable.decide (i0 < (↑(List.length s0) : Int))) (.c (Decidable.decide ((0 : Int) ≤ Go.IntKind.wrap Go.IntKind.i64 (i0 + (1 : Int)))) (.c (Decidable.decide (Go.IntKind.wrap Go.IntKind.i64 (i0 + (1 : Int)) < (↑(List.length s0) : Int))) (.c (List.length l0 == List.length l0) (.c (Decidable.decide (List.length (l0 ++ [Go.Cx.AV.int Go.IntKind.u8 (Go.Cx.bitsA Go.BinOp.or Go.IntKind.u8 (Go.Cx.shlA Go.IntKind.u8 (Go.IntKind.wrap Go.IntKind.u8 ((↑(UInt8.toNat (List.getD s0 (Int.toNat i0) (0 : UInt8))) : Int) - (48 : Int))) (4 : Int)) (Go.IntKind.wrap Go.IntKind.u8 ((↑(UInt8.toNat (List.getD s0 (Int.toNat (Go.IntKind.wrap Go.IntKind.i64 (i0 + (1 : Int)))) (0 : UInt8))) : Int) - (48 : Int))))]) * (2 : Nat) < (70368744177664 : Nat))) (.r (.inl ((s0, Go.IntKind.wrap Go.IntKind.i64 (i0 + (2 : Int)), l0 ++ [Go.Cx.AV.int Go.IntKind.u8 (Go.Cx.bitsA Go.BinOp.or Go.IntKind.u8 (Go.Cx.shlA Go.IntKind.u8 (Go.IntKind.wrap Go.IntKind.u8 ((↑(UInt8.toNat (List.getD s0 (Int.toNat i0) (0 : UInt8))) : Int) - (48 : Int))) (4 : Int)) (Go.IntKind.wrap Go.IntKind.u8 ((↑(UInt8.toNat (List.getD s0 (Int.toNat (Go.IntKind.wrap Go.IntKind.i64 (i0 + (1 : Int)))) (0 : UInt8))) : Int) - (48 : Int))))])))) .bad) .bad) .bad) .bad) .bad) .bad) (.c (List.length l0 == List.length l0) (.r (.inr ((l0, (0 : Int))))) .bad))
noncomputable def g_digits_Bcd (x0 : List UInt8) : Option (List AV × Int) := run (M_digits_Bcd x0) (T_digits_Bcd x0)
noncomputable def b_digits_Bcd := Tryd.f12.body.getD .skip
noncomputable def st_digits_Bcd_0 (x0 : List UInt8) (s0 : List UInt8) (i0 : Int) (l0 : List AV) : St := ⟨[Go.Cx.AV.str s0, Go.Cx.AV.junk, Go.Cx.AV.junk, Go.Cx.AV.junk, Go.Cx.AV.oslice (0 : Nat) (0 : Nat) (List.length l0), Go.Cx.AV.int Go.IntKind.i64 i0, Go.Cx.AV.junk, Go.Cx.AV.junk, Go.Cx.AV.junk, Go.Cx.AV.junk, Go.Cx.AV.junk, Go.Cx.AV.junk, Go.Cx.AV.junk, Go.Cx.AV.junk, Go.Cx.AV.junk, Go.Cx.AV.junk, Go.Cx.AV.junk, Go.Cx.AV.junk, Go.Cx.AV.junk, Go.Cx.AV.junk, Go.Cx.AV.junk, Go.Cx.AV.junk, Go.Cx.AV.junk, Go.Cx.AV.junk, Go.Cx.AV.junk, Go.Cx.AV.junk, Go.Cx.AV.junk, Go.Cx.AV.junk, Go.Cx.AV.junk, Go.Cx.AV.junk, Go.Cx.AV.junk, Go.Cx.AV.junk, Go.Cx.AV.junk, Go.Cx.AV.junk, Go.Cx.AV.junk, Go.Cx.AV.junk], [Go.Cx.Ob.grow (5 : Nat) (0 : Nat) (1 : Nat) (Go.Cx.Sh.int Go.IntKind.u8) l0]⟩
noncomputable def L_digits_Bcd (x0 : List UInt8) (Rv : List AV × Int → Prop) : List UInt8 × Int × List AV → Prop
  | (s0, i0, l0) => headL E_digits_Bcd [.r, .r, .r, .r, .l, .r, .d] b_digits_Bcd 1 (bodyK E_digits_Bcd Tryd.f12 (outP O_digits_Bcd fun ls => Rv (tup_digits_Bcd ls))) (st_digits_Bcd_0 x0 s0 i0 l0)
set_option maxRecDepth 100000 in
theorem l_digits_Bcd_0 (x0 : List UInt8) (Rv : List AV × Int → Prop) (s0 : List UInt8) (i0 : Int) (l0 : List AV) : stepL E_digits_Bcd [.r, .r, .r, .r, .l, .r, .d] b_digits_Bcd 1 (bodyK E_digits_Bcd Tryd.f12 (outP O_digits_Bcd fun ls => Rv (tup_digits_Bcd ls))) (st_digits_Bcd_0 x0 s0 i0 l0) =
  (M_digits_Bcd x0 ((s0, i0, l0))).fold False (Sum.elim (L_digits_Bcd x0 Rv) Rv) := by kernel_rfl
set_option maxRecDepth 100000 in
theorem e_digits_Bcd_0 (x0 : List UInt8) (Rv : List AV × Int → Prop) (s0 : List UInt8) (i0 : Int) (l0 : List AV) : L_digits_Bcd x0 Rv ((s0, i0, l0)) = headL E_digits_Bcd [.r, .r, .r, .r, .l, .r, .d] b_digits_Bcd 1 (bodyK E_digits_Bcd Tryd.f12 (outP O_digits_Bcd fun ls => Rv (tup_digits_Bcd ls))) (st_digits_Bcd_0 x0 s0 i0 l0) := by kernel_rfl
section
attribute [local irreducible] Tr.fold M_digits_Bcd L_digits_Bcd T_digits_Bcd E_digits_Bcd b_digits_Bcd bodyK headC headL stepC stepL wpX callA
set_option maxRecDepth 100000 in
theorem h_digits_Bcd (x0 : List UInt8) (Rv : List AV × Int → Prop) : ∀ s, (M_digits_Bcd x0 s).fold False (Sum.elim (L_digits_Bcd x0 Rv) Rv) → L_digits_Bcd x0 Rv s := by
  rintro (⟨v0, v1, v2⟩)
  · exact fun h => Eq.mpr (e_digits_Bcd_0 x0 Rv v0 v1 v2) (headL_of (Eq.mpr (l_digits_Bcd_0 x0 Rv v0 v1 v2) h))
set_option maxRecDepth 100000 in
theorem c_digits_Bcd (ls : List AV) (Rv : List AV × Int → Prop) : callA E_digits_Bcd Tryd.f12 (instL ls P_digits_Bcd 0) [] (outP O_digits_Bcd fun ls => Rv (tup_digits_Bcd ls)) = (T_digits_Bcd (getS (ls.getD 0 .junk))).fold False (Sum.elim (L_digits_Bcd (getS (ls.getD 0 .junk)) Rv) Rv) := by kernel_rfl
end
noncomputable def S_digits_Bcd : Go.Cx.Spec := pureS (patF P_digits_Bcd fun ls => opt (g_digits_Bcd (getS (ls.getD 0 .junk))) fun x => .r (res_digits_Bcd x))
set_option maxRecDepth 100000 in
theorem S_digits_Bcd_ok : Sound Tryd.prog 12 S_digits_Bcd :=
  pure_mach (E := E_digits_Bcd) (TblOK.enK TYdG53t_ok _ _ _ _ _) mixed rfl Tryd.func12 (c := Tryd.f12.body.getD .skip) (by kernel_rfl) (by kernel_rfl) (pats := P_digits_Bcd) (O := O_digits_Bcd) (tup := tup_digits_Bcd) (res := res_digits_Bcd) (g := fun ls => g_digits_Bcd (getS (ls.getD 0 .junk))) (T := fun ls => T_digits_Bcd (getS (ls.getD 0 .junk))) (step := fun ls => M_digits_Bcd (getS (ls.getD 0 .junk))) (L := fun ls => L_digits_Bcd (getS (ls.getD 0 .junk))) (fun _ => rfl) (fun ls => by kernel_rfl) c_digits_Bcd (fun ls Rv => h_digits_Bcd (getS (ls.getD 0 .junk)) Rv)

noncomputable def TYdG54t : FuncId → Option Go.Cx.Spec := addT TYdG53t 12 S_digits_Bcd
theorem TYdG54t_ok : TblOK Tryd.prog TYdG54t := TYdG53t_ok.add S_digits_Bcd_ok

/- comptoir/comptoirhelp.Bytes -/
noncomputable def E_comptoirhelp_Bytes : En := enK Tryd.prog TYdG54t [] [] [] [] 0
def P_comptoirhelp_Bytes : List Pat := [.leaf (.slice 1 (.int .u8)), .leaf (.slice 1 (.int .u8))]
def O_comptoirhelp_Bytes : Pat := .leaf .bool
def tup_comptoirhelp_Bytes : List AV → Bool := fun ls => getB (ls.getD 0 .junk)
def res_comptoirhelp_Bytes : Bool → AV := fun x => .bool (x)
noncomputable def T_comptoirhelp_Bytes (x0 : List AV) (x1 : List AV) : Tr (Bool) := (.r (Go.Cx.bytesOf x0 == Go.Cx.bytesOf x1))
noncomputable def g_comptoirhelp_Bytes (x0 : List AV) (x1 : List AV) : Option (Bool) := (T_comptoirhelp_Bytes x0 x1).val
set_option maxRecDepth 100000 in
theorem c_comptoirhelp_Bytes (ls : List AV) (Rv : Bool → Prop) : callA E_comptoirhelp_Bytes Tryd.f20 (instL ls P_comptoirhelp_Bytes 0) [] (outP O_comptoirhelp_Bytes fun ls => Rv (tup_comptoirhelp_Bytes ls)) = (T_comptoirhelp_Bytes (getXs (ls.getD 0 .junk)) (getXs (ls.getD 1 .junk))).fold False Rv := by kernel_rfl
noncomputable def S_comptoirhelp_Bytes : Go.Cx.Spec := pureS (patF P_comptoirhelp_Bytes fun ls => opt (g_comptoirhelp_Bytes (getXs (ls.getD 0 .junk)) (getXs (ls.getD 1 .junk))) fun x => .r (res_comptoirhelp_Bytes x))
set_option maxRecDepth 100000 in
theorem S_comptoirhelp_Bytes_ok : Sound Tryd.prog 20 S_comptoirhelp_Bytes :=
  pure_flat (E := E_comptoirhelp_Bytes) (TblOK.enK TYdG54t_ok _ _ _ _ _) mixed rfl Tryd.func20 (c := Tryd.f20.body.getD .skip) (by kernel_rfl) (by kernel_rfl) (pats := P_comptoirhelp_Bytes) (O := O_comptoirhelp_Bytes) (tup := tup_comptoirhelp_Bytes) (res := res_comptoirhelp_Bytes) (g := fun ls => g_comptoirhelp_Bytes (getXs (ls.getD 0 .junk)) (getXs (ls.getD 1 .junk))) (T := fun ls => T_comptoirhelp_Bytes (getXs (ls.getD 0 .junk)) (getXs (ls.getD 1 .junk))) (fun _ => rfl) (fun ls => by kernel_rfl) c_comptoirhelp_Bytes

noncomputable def TYdG55t : FuncId → Option Go.Cx.Spec := addT TYdG54t 20 S_comptoirhelp_Bytes
theorem TYdG55t_ok : TblOK Tryd.prog TYdG55t := TYdG54t_ok.add S_comptoirhelp_Bytes_ok

/- (*strings.Builder).WriteByte -/
noncomputable def E_strings_Builder_WriteByte_p05n0 : En := enKB Tryd.prog TYdG55t [] [] [] [] 2 2 false
def P_strings_Builder_WriteByte_p05n0 : List Pat := [.lit (.ptr 0 0), .leaf (.int .u8)]
def Q_strings_Builder_WriteByte_p05n0 : List OPat := [.fix 51 [.lit .nilptr, .own 1 0 1], .grow 5 0 1 (.int .u8)]
def O_strings_Builder_WriteByte_p05n0 : Pat := .lit .nilIface
def OO_strings_Builder_WriteByte_p05n0 : List OPat := [.fix 51 [.lit (.ptr 0 0), .own 1 0 0], .grow 5 0 1 (.int .u8)]
def tup_strings_Builder_WriteByte_p05n0 : List AV → List AV := fun ls => getXs (ls.getD 0 .junk)
def res_strings_Builder_WriteByte_p05n0 : List AV → AV × List Ob := fun x => (.nilIface, [.fix 51 [.ptr 0 0, .oslice 1 0 (List.length (x))], .grow 5 0 1 (.int .u8) (x)])
noncomputable def T_strings_Builder_WriteByte_p05n0 (x0 : Int) (x1 : List AV) : Tr (List AV) := (.c (List.length x1 == List.length x1) (.c (Decidable.decide (List.length (x1 ++ [Go.Cx.AV.int Go.IntKind.u8 x0]) * (2 : Nat) < (70368744177664 : Nat))) (.c (List.length (x1 ++ [Go.Cx.AV.int Go.IntKind.u8 x0]) == List.length (x1 ++ [Go.Cx.AV.int Go.IntKind.u8 x0] : List AV)) (.r (x1 ++ [Go.Cx.AV.int Go.IntKind.u8 x0])) .bad) .bad) .bad)
noncomputable def g_strings_Builder_WriteByte_p05n0 (x0 : Int) (x1 : List AV) : Option (List AV) := (T_strings_Builder_WriteByte_p05n0 x0 x1).val
set_option maxRecDepth 100000 in
theorem c_strings_Builder_WriteByte_p05n0 (ls : List AV) (Rv : List AV → Prop) : callA E_strings_Builder_WriteByte_p05n0 Tryd.f30 (instL ls P_strings_Builder_WriteByte_p05n0 0) (instH ls Q_strings_Builder_WriteByte_p05n0 1) (outH O_strings_Builder_WriteByte_p05n0 OO_strings_Builder_WriteByte_p05n0 fun ls => Rv (tup_strings_Builder_WriteByte_p05n0 ls)) = (T_strings_Builder_WriteByte_p05n0 (getI (ls.getD 0 .junk)) (getXs (ls.getD 1 .junk))).fold False Rv := by kernel_rfl
noncomputable def S_strings_Builder_WriteByte_p05n0 : Go.Cx.Spec := heapS (patH P_strings_Builder_WriteByte_p05n0 Q_strings_Builder_WriteByte_p05n0 fun ls => opt (g_strings_Builder_WriteByte_p05n0 (getI (ls.getD 0 .junk)) (getXs (ls.getD 1 .junk))) fun x => .r (res_strings_Builder_WriteByte_p05n0 x))
set_option maxRecDepth 100000 in
theorem S_strings_Builder_WriteByte_p05n0_ok : Sound Tryd.prog 30 S_strings_Builder_WriteByte_p05n0 :=
  heap_flat (E := E_strings_Builder_WriteByte_p05n0) (TblOK.enKB TYdG55t_ok _ _ _ _ _ _ _) mixed Tryd.func30 (c := Tryd.f30.body.getD .skip) (by kernel_rfl) (by kernel_rfl) (by decide) (by decide) (pats := P_strings_Builder_WriteByte_p05n0) (ops := Q_strings_Builder_WriteByte_p05n0) (OO := OO_strings_Builder_WriteByte_p05n0) (O := O_strings_Builder_WriteByte_p05n0) (tup := tup_strings_Builder_WriteByte_p05n0) (res := res_strings_Builder_WriteByte_p05n0) (g := fun ls => g_strings_Builder_WriteByte_p05n0 (getI (ls.getD 0 .junk)) (getXs (ls.getD 1 .junk))) (T := fun ls => T_strings_Builder_WriteByte_p05n0 (getI (ls.getD 0 .junk)) (getXs (ls.getD 1 .junk))) (fun _ => rfl) (fun ls => by kernel_rfl) c_strings_Builder_WriteByte_p05n0

noncomputable def TYdG56t : FuncId → Option Go.Cx.Spec := addT TYdG55t 30 S_strings_Builder_WriteByte_p05n0
theorem TYdG56t_ok : TblOK Tryd.prog TYdG56t := TYdG55t_ok.add S_strings_Builder_WriteByte_p05n0_ok

/- (*strings.Builder).WriteByte -/
noncomputable def E_strings_Builder_WriteByte_p05p0 : En := enKB Tryd.prog TYdG56t [] [] [] [] 2 2 false
def P_strings_Builder_WriteByte_p05p0 : List Pat := [.lit (.ptr 0 0), .leaf (.int .u8)]
def Q_strings_Builder_WriteByte_p05p0 : List OPat := [.fix 51 [.lit (.ptr 0 0), .own 1 0 1], .grow 5 0 1 (.int .u8)]
def O_strings_Builder_WriteByte_p05p0 : Pat := .lit .nilIface
def OO_strings_Builder_WriteByte_p05p0 : List OPat := [.fix 51 [.lit (.ptr 0 0), .own 1 0 0], .grow 5 0 1 (.int .u8)]
def tup_strings_Builder_WriteByte_p05p0 : List AV → List AV := fun ls => getXs (ls.getD 0 .junk)
def res_strings_Builder_WriteByte_p05p0 : List AV → AV × List Ob := fun x => (.nilIface, [.fix 51 [.ptr 0 0, .oslice 1 0 (List.length (x))], .grow 5 0 1 (.int .u8) (x)])
noncomputable def T_strings_Builder_WriteByte_p05p0 (x0 : Int) (x1 : List AV) : Tr (List AV) := (.c (List.length x1 == List.length x1) (.c (Decidable.decide (List.length (x1 ++ [Go.Cx.AV.int Go.IntKind.u8 x0]) * (2 : Nat) < (70368744177664 : Nat))) (.c (List.length (x1 ++ [Go.Cx.AV.int Go.IntKind.u8 x0]) == List.length (x1 ++ [Go.Cx.AV.int Go.IntKind.u8 x0] : List AV)) (.r (x1 ++ [Go.Cx.AV.int Go.IntKind.u8 x0])) .bad) .bad) .bad)
noncomputable def g_strings_Builder_WriteByte_p05p0 (x0 : Int) (x1 : List AV) : Option (List AV) := (T_strings_Builder_WriteByte_p05p0 x0 x1).val
set_option maxRecDepth 100000 in
theorem c_strings_Builder_WriteByte_p05p0 (ls : List AV) (Rv : List AV → Prop) : callA E_strings_Builder_WriteByte_p05p0 Tryd.f30 (instL ls P_strings_Builder_WriteByte_p05p0 0) (instH ls Q_strings_Builder_WriteByte_p05p0 1) (outH O_strings_Builder_WriteByte_p05p0 OO_strings_Builder_WriteByte_p05p0 fun ls => Rv (tup_strings_Builder_WriteByte_p05p0 ls)) = (T_strings_Builder_WriteByte_p05p0 (getI (ls.getD 0 .junk)) (getXs (ls.getD 1 .junk))).fold False Rv := by kernel_rfl
noncomputable def S_strings_Builder_WriteByte_p05p0 : Go.Cx.Spec := heapS (patH P_strings_Builder_WriteByte_p05p0 Q_strings_Builder_WriteByte_p05p0 fun ls => opt (g_strings_Builder_WriteByte_p05p0 (getI (ls.getD 0 .junk)) (getXs (ls.getD 1 .junk))) fun x => .r (res_strings_Builder_WriteByte_p05p0 x))
set_option maxRecDepth 100000 in
theorem S_strings_Builder_WriteByte_p05p0_ok : Sound Tryd.prog 30 S_strings_Builder_WriteByte_p05p0 :=
  heap_flat (E := E_strings_Builder_WriteByte_p05p0) (TblOK.enKB TYdG56t_ok _ _ _ _ _ _ _) mixed Tryd.func30 (c := Tryd.f30.body.getD .skip) (by kernel_rfl) (by kernel_rfl) (by decide) (by decide) (pats := P_strings_Builder_WriteByte_p05p0) (ops := Q_strings_Builder_WriteByte_p05p0) (OO := OO_strings_Builder_WriteByte_p05p0) (O := O_strings_Builder_WriteByte_p05p0) (tup := tup_strings_Builder_WriteByte_p05p0) (res := res_strings_Builder_WriteByte_p05p0) (g := fun ls => g_strings_Builder_WriteByte_p05p0 (getI (ls.getD 0 .junk)) (getXs (ls.getD 1 .junk))) (T := fun ls => T_strings_Builder_WriteByte_p05p0 (getI (ls.getD 0 .junk)) (getXs (ls.getD 1 .junk))) (fun _ => rfl) (fun ls => by kernel_rfl) c_strings_Builder_WriteByte_p05p0

noncomputable def TYdG57t : FuncId → Option Go.Cx.Spec := addT TYdG56t 30 (orH [3, 0, 5, 3, 0] S_strings_Builder_WriteByte_p05p0 S_strings_Builder_WriteByte_p05n0)
theorem TYdG57t_ok : TblOK Tryd.prog TYdG57t := TYdG56t_ok.add (Sound.orH [3, 0, 5, 3, 0] (Writes.heapS _) (Writes.heapS _) S_strings_Builder_WriteByte_p05p0_ok S_strings_Builder_WriteByte_p05n0_ok)

/- comptoir/digits.Hex -/
noncomputable def E_digits_Hex : En := enK Tryd.prog TYdG57t [] [(3, ⟨[0, 1, 2, 4, 5, 9, 10, 11, 12, 13, 14, 15, 16, 17, 18, 19, 20, 21], [], [], none, [], [], [], [], false⟩)] [] [(3, [(1, 5, (.int .u8))])] 0
def P_digits_Hex : List Pat := [.leaf (.slice 1 (.int .u8))]
def O_digits_Hex : Pat := .leaf .str
def tup_digits_Hex : List AV → List UInt8 := fun ls => getS (ls.getD 0 .junk)
def res_digits_Hex : List UInt8 → AV := fun x => .str (x)
noncomputable def T_digits_Hex (x0 : List AV) : Tr (((Unit) ⊕ (Int × List AV)) ⊕ (List UInt8)) := (.r (.inl (.inl (()))))
noncomputable def M_digits_Hex (x0 : List AV) : (Unit) ⊕ (Int × List AV) → Tr (((Unit) ⊕ (Int × List AV)) ⊕ (List UInt8))
  | .inl (()) => (.c (Decidable.decide ((0 : Int) < (↑(List.length x0) : Int))) (.c (Decidable.decide ((0 : Int) < (↑(List.length x0) : Int))) (.c (Decidable.decide ((0 : Int) ≤ Go.Cx.shrA Go.IntKind.u8 (Go.Cx.getI (List.getD x0 (0 : Nat) (Go.Cx.AV.int Go.IntKind.u8 (0 : Int)))) (4 : Int))) (.c (Decidable.decide (Go.Cx.shrA Go.IntKind.u8 (Go.Cx.getI (List.getD x0 (0 : Nat) (Go.Cx.AV.int Go.IntKind.u8 (0 : Int)))) (4 : Int) < (16 : Int))) (.c (Decidable.decide (Go.Cx.bitsA Go.BinOp.and Go.IntKind.u8 (Go.Cx.getI (List.getD x0 (0 : Nat) (Go.Cx.AV.int Go.IntKind.u8 (0 : Int)))) (15 : Int) < (16 : Int))) (.r (.inl (.inr (((1 : Int), [Go.Cx.AV.int Go.IntKind.u8 (↑(UInt8.toNat (List.getD [(48 : UInt8), (49 : UInt8), (50 : UInt8), (51 : UInt8), (52 : UInt8), (53 : UInt8), (54 : UInt8), (55 : UInt8), (56 : UInt8), (57 : UInt8), (65 : UInt8), (66 : UInt8), (67 : UInt8), (68 : UInt8), (69 : UInt8), (70 : UInt8)] (Int.toNat (Go.Cx.shrA Go.IntKind.u8 (Go.Cx.getI (List.getD x0 (0 : Nat) (Go.Cx.AV.int Go.IntKind.u8 (0 : Int)))) (4 : Int))) (0 : UInt8))) : Int), Go.Cx.AV.int Go.IntKind.u8 (↑(UInt8.toNat (List.getD [(48 : UInt8), (49 : UInt8), (50 : UInt8), (51 : UInt8), (52 : UInt8), (53 : UInt8), (54 : UInt8), (55 : UInt8), (56 : UInt8), (57 : UInt8), (65 : UInt8), (66 : UInt8), (67 : UInt8), (68 : UInt8), (69 : UInt8), (70 : UInt8)] (Int.toNat (Go.Cx.bitsA Go.BinOp.and Go.IntKind.u8 (Go.Cx.getI (List.getD x0 (0 : Nat) (Go.Cx.AV.int Go.IntKind.u8 (0 : Int)))) (15 : Int))) (0 : UInt8))) : Int)]))))) .bad) .bad) .bad) .bad) (.r (.inr ([]))))
  | .inr ((i2, l0)) => (.c (Decidable.decide (i2 < (↑(List.length x0) : Int))) (.c (Decidable.decide ((0 : Int) ≤ i2)) (.c (Decidable.decide (i2 < (↑(List.length x0) : Int))) (.c (Decidable.decide ((0 : Int) ≤ Go.Cx.shrA Go.IntKind.u8 (Go.Cx.getI (List.getD x0 (Int.toNat i2) (Go.Cx.AV.int Go.IntKind.u8 (0 : Int)))) (4 : Int))) (.c (Decidable.decide (Go.Cx.shrA Go.IntKind.u8 (Go.Cx.getI (List.getD x0 (Int.toNat i2) (Go.Cx.AV.int Go.IntKind.u8 (0 : Int)))) (4 : Int) < (16 : Int))) (.c (List.length l0 == List.length l0) (opt (Go.Proofs.YtbgklljidmoahaaDoor.g_strings_Builder_WriteByte_p05p0 (↑(UInt8.toNat (List.getD [(48 : UInt8), (49 : UInt8), (50 : UInt8), (51 : UInt8), (52 : UInt8), (53 : UInt8), (54 : UInt8), (55 : UInt8), (56 : UInt8), (57 : UInt8), (65 : UInt8), (66 : UInt8), (67 : UInt8), (68 : UInt8), (69 : UInt8), (70 : UInt8)] (Int.toNat (Go.Cx.shrA Go.IntKind.u8 (Go.Cx.getI (List.getD x0 (Int.toNat i2) (Go.Cx.AV.int Go.IntKind.u8 (0 : Int)))) (4 : Int))) (0 : UInt8))) : Int) l0) fun (y0 : List Go.Cx.AV) => (.c (Decidable.decide (Go.Cx.bitsA Go.BinOp.and Go.IntKind.u8 (Go.Cx.getI (List.getD x0 (Int.toNat i2) (Go.Cx.AV.int Go.IntKind.u8 (0 : Int)))) (15 : Int) < (16 : Int))) (.c (List.length y0 == List.length y0) (opt (Go.Proofs.YtbgklljidmoahaaDoor.g_strings_Builder_WriteByte_p05p0 (↑(UInt8.toNat (List.getD [(48 : UInt8), (49 : UInt8), (50 : UInt8), (51 : UInt8), (52 : UInt8), (53 : UInt8), (54 : UInt8), (55 : UInt8), (56 : UInt8), (57 : UInt8), (65 : UInt8), (66 : UInt8), (67 : UInt8), (68 : UInt8), (69 : UInt8), (70 : UInt8)] (Int.toNat (Go.Cx.bitsA Go.BinOp.and Go.IntKind.u8 (Go.Cx.getI (List.getD x0 (Int.toNat i2) (Go.Cx.AV.int Go.IntKind.u8 (0 : Int)))) (15 : Int))) (0 : UInt8))) : Int) y0) fun (y1 : List Go.Cx.AV) => (.r (.inl (.inr ((Go.IntKind.wrap Go.IntKind.i64 (i2 + (1 : Int)), y1)))))) .bad) .bad)) .bad) .bad) .bad) .bad) .bad) (.c (List.length l0 == List.length l0) (.r (.inr (Go.Cx.bytesOf l0))) .bad))
noncomputable def g_digits_Hex (x0 : List AV) : Option (List UInt8) := run (M_digits_Hex x0) (T_digits_Hex x0)
noncomputable def b_digits_Hex := Tryd.f21.body.getD .skip
noncomputable def st_digits_Hex_0 (x0 : List AV) : St := ⟨[Go.Cx.AV.junk, Go.Cx.AV.junk, Go.Cx.AV.junk, Go.Cx.AV.ptr (1 : Nat) (0 : Nat), Go.Cx.AV.junk, Go.Cx.AV.junk, Go.Cx.AV.slice (1 : Nat) (Go.Cx.Sh.int Go.IntKind.u8) x0 Go.Cx.SK.ro, Go.Cx.AV.int Go.IntKind.i64 (↑(List.length x0) : Int), Go.Cx.AV.int Go.IntKind.i64 (0 : Int), Go.Cx.AV.junk, Go.Cx.AV.junk, Go.Cx.AV.junk, Go.Cx.AV.junk, Go.Cx.AV.junk, Go.Cx.AV.junk, Go.Cx.AV.junk, Go.Cx.AV.junk, Go.Cx.AV.junk, Go.Cx.AV.junk, Go.Cx.AV.junk, Go.Cx.AV.junk, Go.Cx.AV.junk], [Go.Cx.Ob.grow (5 : Nat) (0 : Nat) (1 : Nat) (Go.Cx.Sh.int Go.IntKind.u8) [], Go.Cx.Ob.fix (51 : Nat) [Go.Cx.AV.nilptr, Go.Cx.AV.oslice (0 : Nat) (0 : Nat) (0 : Nat)]]⟩
noncomputable def st_digits_Hex_1 (x0 : List AV) (i2 : Int) (l0 : List AV) : St := ⟨[Go.Cx.AV.junk, Go.Cx.AV.junk, Go.Cx.AV.junk, Go.Cx.AV.ptr (1 : Nat) (0 : Nat), Go.Cx.AV.junk, Go.Cx.AV.junk, Go.Cx.AV.slice (1 : Nat) (Go.Cx.Sh.int Go.IntKind.u8) x0 Go.Cx.SK.ro, Go.Cx.AV.int Go.IntKind.i64 (↑(List.length x0) : Int), Go.Cx.AV.int Go.IntKind.i64 i2, Go.Cx.AV.junk, Go.Cx.AV.junk, Go.Cx.AV.junk, Go.Cx.AV.junk, Go.Cx.AV.junk, Go.Cx.AV.junk, Go.Cx.AV.junk, Go.Cx.AV.junk, Go.Cx.AV.junk, Go.Cx.AV.junk, Go.Cx.AV.junk, Go.Cx.AV.junk, Go.Cx.AV.junk], [Go.Cx.Ob.grow (5 : Nat) (0 : Nat) (1 : Nat) (Go.Cx.Sh.int Go.IntKind.u8) l0, Go.Cx.Ob.fix (51 : Nat) [Go.Cx.AV.ptr (1 : Nat) (0 : Nat), Go.Cx.AV.oslice (0 : Nat) (0 : Nat) (List.length l0)]]⟩
noncomputable def L_digits_Hex (x0 : List AV) (Rv : List UInt8 → Prop) : (Unit) ⊕ (Int × List AV) → Prop
  | .inl (()) => headL E_digits_Hex [.r, .r, .l, .r, .d] b_digits_Hex 2 (bodyK E_digits_Hex Tryd.f21 (outP O_digits_Hex fun ls => Rv (tup_digits_Hex ls))) (st_digits_Hex_0 x0)
  | .inr ((i2, l0)) => headL E_digits_Hex [.r, .r, .l, .r, .d] b_digits_Hex 2 (bodyK E_digits_Hex Tryd.f21 (outP O_digits_Hex fun ls => Rv (tup_digits_Hex ls))) (st_digits_Hex_1 x0 i2 l0)
set_option maxRecDepth 100000 in
theorem l_digits_Hex_0 (x0 : List AV) (Rv : List UInt8 → Prop) : stepL E_digits_Hex [.r, .r, .l, .r, .d] b_digits_Hex 2 (bodyK E_digits_Hex Tryd.f21 (outP O_digits_Hex fun ls => Rv (tup_digits_Hex ls))) (st_digits_Hex_0 x0) =
  (M_digits_Hex x0 (.inl (()))).fold False (Sum.elim (L_digits_Hex x0 Rv) Rv) := by kernel_rfl
set_option maxRecDepth 100000 in
theorem l_digits_Hex_1 (x0 : List AV) (Rv : List UInt8 → Prop) (i2 : Int) (l0 : List AV) : stepL E_digits_Hex [.r, .r, .l, .r, .d] b_digits_Hex 2 (bodyK E_digits_Hex Tryd.f21 (outP O_digits_Hex fun ls => Rv (tup_digits_Hex ls))) (st_digits_Hex_1 x0 i2 l0) =
  (M_digits_Hex x0 (.inr ((i2, l0)))).fold False (Sum.elim (L_digits_Hex x0 Rv) Rv) := by kernel_rfl
set_option maxRecDepth 100000 in
theorem e_digits_Hex_0 (x0 : List AV) (Rv : List UInt8 → Prop) : L_digits_Hex x0 Rv (.inl (())) = headL E_digits_Hex [.r, .r, .l, .r, .d] b_digits_Hex 2 (bodyK E_digits_Hex Tryd.f21 (outP O_digits_Hex fun ls => Rv (tup_digits_Hex ls))) (st_digits_Hex_0 x0) := by kernel_rfl
set_option maxRecDepth 100000 in
theorem e_digits_Hex_1 (x0 : List AV) (Rv : List UInt8 → Prop) (i2 : Int) (l0 : List AV) : L_digits_Hex x0 Rv (.inr ((i2, l0))) = headL E_digits_Hex [.r, .r, .l, .r, .d] b_digits_Hex 2 (bodyK E_digits_Hex Tryd.f21 (outP O_digits_Hex fun ls => Rv (tup_digits_Hex ls))) (st_digits_Hex_1 x0 i2 l0) := by kernel_rfl
section
attribute [local irreducible] Tr.fold M_digits_Hex L_digits_Hex T_digits_Hex E_digits_Hex b_digits_Hex bodyK headC headL stepC stepL wpX callA
set_option maxRecDepth 100000 in
theorem h_digits_Hex (x0 : List AV) (Rv : List UInt8 → Prop) : ∀ s, (M_digits_Hex x0 s).fold False (Sum.elim (L_digits_Hex x0 Rv) Rv) → L_digits_Hex x0 Rv s := by
  rintro (⟨⟩ | ⟨v0, v1⟩)
  · exact fun h => Eq.mpr (e_digits_Hex_0 x0 Rv) (headL_of (Eq.mpr (l_digits_Hex_0 x0 Rv) h))
  · exact fun h => Eq.mpr (e_digits_Hex_1 x0 Rv v0 v1) (headL_of (Eq.mpr (l_digits_Hex_1 x0 Rv v0 v1) h))
set_option maxRecDepth 100000 in
theorem c_digits_Hex (ls : List AV) (Rv : List UInt8 → Prop) : callA E_digits_Hex Tryd.f21 (instL ls P_digits_Hex 0) [] (outP O_digits_Hex fun ls => Rv (tup_digits_Hex ls)) = (T_digits_Hex (getXs (ls.getD 0 .junk))).fold False (Sum.elim (L_digits_Hex (getXs (ls.getD 0 .junk)) Rv) Rv) := by kernel_rfl
end
noncomputable def S_digits_Hex : Go.Cx.Spec := pureS (patF P_digits_Hex fun ls => opt (g_digits_Hex (getXs (ls.getD 0 .junk))) fun x => .r (res_digits_Hex x))
set_option maxRecDepth 100000 in
theorem S_digits_Hex_ok : Sound Tryd.prog 21 S_digits_Hex :=
  pure_mach (E := E_digits_Hex) (TblOK.enK TYdG57t_ok _ _ _ _ _) mixed rfl Tryd.func21 (c := Tryd.f21.body.getD .skip) (by kernel_rfl) (by kernel_rfl) (pats := P_digits_Hex) (O := O_digits_Hex) (tup := tup_digits_Hex) (res := res_digits_Hex) (g := fun ls => g_digits_Hex (getXs (ls.getD 0 .junk))) (T := fun ls => T_digits_Hex (getXs (ls.getD 0 .junk))) (step := fun ls => M_digits_Hex (getXs (ls.getD 0 .junk))) (L := fun ls => L_digits_Hex (getXs (ls.getD 0 .junk))) (fun _ => rfl) (fun ls => by kernel_rfl) c_digits_Hex (fun ls Rv => h_digits_Hex (getXs (ls.getD 0 .junk)) Rv)

noncomputable def TYdG58t : FuncId → Option Go.Cx.Spec := addT TYdG57t 21 S_digits_Hex
theorem TYdG58t_ok : TblOK Tryd.prog TYdG58t := TYdG57t_ok.add S_digits_Hex_ok

/- comptoir/comptoirlaw02.awake -/
noncomputable def E_comptoirlaw02_awake : En := enK Tryd.prog TYdG58t [] [] [] [] 0
def P_comptoirlaw02_awake : List Pat := []
def O_comptoirlaw02_awake : Pat := .leaf .bool
def tup_comptoirlaw02_awake : List AV → Bool := fun ls => getB (ls.getD 0 .junk)
def res_comptoirlaw02_awake : Bool → AV := fun x => .bool (x)
noncomputable def T_comptoirlaw02_awake : Tr (Bool) := (opt (Go.Proofs.YtbgklljidmoahaaDoor.g_digits_Bcd [(49 : UInt8), (50 : UInt8), (51 : UInt8)]) fun (y0 : List Go.Cx.AV × Int) => (.c (Prod.snd y0 == (0 : Int)) (.c (Go.Cx.bytesOf (Prod.fst y0) == [(1 : UInt8), (35 : UInt8)]) (opt (Go.Proofs.YtbgklljidmoahaaDoor.g_digits_Right [(53 : UInt8)] (1 : Int) (1 : Int)) fun (y1 : Bool) => (.c (y1) (opt (Go.Proofs.YtbgklljidmoahaaDoor.g_digits_Hex [Go.Cx.AV.int Go.IntKind.u8 (171 : Int)]) fun (y2 : List UInt8) => (.r (y2 == [(65 : UInt8), (66 : UInt8)]))) (.r (Bool.false)))) (.r (Bool.false))) (.r (Bool.false))))
noncomputable def g_comptoirlaw02_awake : Option (Bool) := (T_comptoirlaw02_awake).val
set_option maxRecDepth 100000 in
theorem c_comptoirlaw02_awake (ls : List AV) (Rv : Bool → Prop) : callA E_comptoirlaw02_awake Tryd.f8 (instL ls P_comptoirlaw02_awake 0) [] (outP O_comptoirlaw02_awake fun ls => Rv (tup_comptoirlaw02_awake ls)) = (T_comptoirlaw02_awake).fold False Rv := by kernel_rfl
noncomputable def S_comptoirlaw02_awake : Go.Cx.Spec := pureS (patF P_comptoirlaw02_awake fun ls => opt (g_comptoirlaw02_awake) fun x => .r (res_comptoirlaw02_awake x))
set_option maxRecDepth 100000 in
theorem S_comptoirlaw02_awake_ok : Sound Tryd.prog 8 S_comptoirlaw02_awake :=
  pure_flat (E := E_comptoirlaw02_awake) (TblOK.enK TYdG58t_ok _ _ _ _ _) mixed rfl Tryd.func8 (c := Tryd.f8.body.getD .skip) (by kernel_rfl) (by kernel_rfl) (pats := P_comptoirlaw02_awake) (O := O_comptoirlaw02_awake) (tup := tup_comptoirlaw02_awake) (res := res_comptoirlaw02_awake) (g := fun ls => g_comptoirlaw02_awake) (T := fun ls => T_comptoirlaw02_awake) (fun _ => rfl) (fun ls => by kernel_rfl) c_comptoirlaw02_awake

noncomputable def TYdG59t : FuncId → Option Go.Cx.Spec := addT TYdG58t 8 S_comptoirlaw02_awake
theorem TYdG59t_ok : TblOK Tryd.prog TYdG59t := TYdG58t_ok.add S_comptoirlaw02_awake_ok

/- comptoir/digits.Text -/
noncomputable def E_digits_Text : En := enK Tryd.prog TYdG59t [] [] [] [] 0
def P_digits_Text : List Pat := [.leaf (.int .u64), .leaf (.int .i64)]
def O_digits_Text : Pat := .tuple [.leaf .str, .leaf (.int .i64)]
def tup_digits_Text : List AV → List UInt8 × Int := fun ls => (getS (ls.getD 0 .junk), getI (ls.getD 1 .junk))
def res_digits_Text : List UInt8 × Int → AV := fun x => .tuple [.str (x.1), .int .i64 (x.2)]
noncomputable def T_digits_Text (x0 : Int) (x1 : Int) : Tr (List UInt8 × Int) := (.c (Decidable.decide (x1 < (1 : Int))) (.r (([], (1 : Int)))) (.c (Decidable.decide (x1 > (20 : Int))) (.r (([], (1 : Int)))) (.c (Decidable.decide ((0 : Int) ≤ x0)) (.c (Decidable.decide (x0 < (18446744073709551616 : Int))) (.c (Decidable.decide ((↑(List.length (Go.Lib.decDigits (Int.toNat x0))) : Int) > x1)) (.r (([], (4 : Int)))) (.c (Decidable.decide ((0 : Int) ≤ Go.IntKind.wrap Go.IntKind.i64 (x1 - (↑(List.length (Go.Lib.decDigits (Int.toNat x0))) : Int)))) (.c (Decidable.decide (Go.IntKind.wrap Go.IntKind.i64 (x1 - (↑(List.length (Go.Lib.decDigits (Int.toNat x0))) : Int)) ≤ (1000000000 : Int))) (.c (Decidable.decide (List.length (Go.Lib.repeatL [(48 : UInt8)] (Int.toNat (Go.IntKind.wrap Go.IntKind.i64 (x1 - (↑(List.length (Go.Lib.decDigits (Int.toNat x0))) : Int))))) + List.length (Go.Lib.decDigits (Int.toNat x0)) < (70368744177664 : Nat))) (.r ((Go.Lib.repeatL [(48 : UInt8)] (Int.toNat (Go.IntKind.wrap Go.IntKind.i64 (x1 - (↑(List.length (Go.Lib.decDigits (Int.toNat x0))) : Int)))) ++ Go.Lib.decDigits (Int.toNat x0), (0 : Int)))) .bad) .bad) .bad)) .bad) .bad)))
noncomputable def g_digits_Text (x0 : Int) (x1 : Int) : Option (List UInt8 × Int) := (T_digits_Text x0 x1).val
set_option maxRecDepth 100000 in
theorem c_digits_Text (ls : List AV) (Rv : List UInt8 × Int → Prop) : callA E_digits_Text Tryd.f7 (instL ls P_digits_Text 0) [] (outP O_digits_Text fun ls => Rv (tup_digits_Text ls)) = (T_digits_Text (getI (ls.getD 0 .junk)) (getI (ls.getD 1 .junk))).fold False Rv := by kernel_rfl
noncomputable def S_digits_Text : Go.Cx.Spec := pureS (patF P_digits_Text fun ls => opt (g_digits_Text (getI (ls.getD 0 .junk)) (getI (ls.getD 1 .junk))) fun x => .r (res_digits_Text x))
set_option maxRecDepth 100000 in
theorem S_digits_Text_ok : Sound Tryd.prog 7 S_digits_Text :=
  pure_flat (E := E_digits_Text) (TblOK.enK TYdG59t_ok _ _ _ _ _) mixed rfl Tryd.func7 (c := Tryd.f7.body.getD .skip) (by kernel_rfl) (by kernel_rfl) (pats := P_digits_Text) (O := O_digits_Text) (tup := tup_digits_Text) (res := res_digits_Text) (g := fun ls => g_digits_Text (getI (ls.getD 0 .junk)) (getI (ls.getD 1 .junk))) (T := fun ls => T_digits_Text (getI (ls.getD 0 .junk)) (getI (ls.getD 1 .junk))) (fun _ => rfl) (fun ls => by kernel_rfl) c_digits_Text

noncomputable def TYdG510t : FuncId → Option Go.Cx.Spec := addT TYdG59t 7 S_digits_Text
theorem TYdG510t_ok : TblOK Tryd.prog TYdG510t := TYdG59t_ok.add S_digits_Text_ok

/- comptoir/digits.Number -/
noncomputable def E_digits_Number : En := enK Tryd.prog TYdG510t [] [(5, ⟨[1, 2, 3, 5, 6, 7, 8, 9, 12, 13, 14, 15, 16, 17, 18, 19, 20, 21, 22, 23], [], [], none, [], [], [], [], false⟩)] [] [] 0
def P_digits_Number : List Pat := [.leaf .str]
def O_digits_Number : Pat := .tuple [.leaf (.int .u64), .leaf (.int .i64)]
def tup_digits_Number : List AV → Int × Int := fun ls => (getI (ls.getD 0 .junk), getI (ls.getD 1 .junk))
def res_digits_Number : Int × Int → AV := fun x => .tuple [.int .u64 (x.1), .int .i64 (x.2)]
noncomputable def T_digits_Number (x0 : List UInt8) : Tr ((Int × Int) ⊕ (Int × Int)) := (opt (Go.Proofs.YtbgklljidmoahaaDoor.g_digits_Right x0 (1 : Int) (18 : Int)) fun (y0 : Bool) => (.c (!y0) (.r (.inr (((0 : Int), (5 : Int))))) (.r (.inl (((0 : Int), (0 : Int)))))))
noncomputable def M_digits_Number (x0 : List UInt8) : Int × Int → Tr ((Int × Int) ⊕ (Int × Int))
  | (i0, i1) => (.c (Decidable.decide (i1 < (↑(List.length x0) : Int))) (.c (Decidable.decide ((0 : Int) ≤ i1)) (.c (Decidable.decide (i1 < (↑(List.length x0) : Int))) (.r (.inl ((Go.IntKind.wrap Go.IntKind.u64 (Go.IntKind.wrap Go.IntKind.u64 (i0 * (10 : Int)) + Go.IntKind.wrap Go.IntKind.u64 (Go.IntKind.wrap Go.IntKind.u8 ((↑(UInt8.toNat (List.getD x0 (Int.toNat i1) (0 : UInt8))) : Int) - (48 : Int)))), Go.IntKind.wrap Go.IntKind.i64 (i1 + (1 : Int)))))) .bad) .bad) (.r (.inr ((i0, (0 : Int))))))
noncomputable def g_digits_Number (x0 : List UInt8) : Option (Int × Int) := run (M_digits_Number x0) (T_digits_Number x0)
noncomputable def b_digits_Number := Tryd.f9.body.getD .skip
noncomputable def st_digits_Number_0 (x0 : List UInt8) (i0 : Int) (i1 : Int) : St := ⟨[Go.Cx.AV.str x0, Go.Cx.AV.junk, Go.Cx.AV.junk, Go.Cx.AV.junk, Go.Cx.AV.int Go.IntKind.u64 i0, Go.Cx.AV.junk, Go.Cx.AV.junk, Go.Cx.AV.junk, Go.Cx.AV.junk, Go.Cx.AV.junk, Go.Cx.AV.int Go.IntKind.i64 (↑(List.length x0) : Int), Go.Cx.AV.int Go.IntKind.i64 i1, Go.Cx.AV.junk, Go.Cx.AV.junk, Go.Cx.AV.junk, Go.Cx.AV.junk, Go.Cx.AV.junk, Go.Cx.AV.junk, Go.Cx.AV.junk, Go.Cx.AV.junk, Go.Cx.AV.junk, Go.Cx.AV.junk, Go.Cx.AV.junk, Go.Cx.AV.junk], []⟩
noncomputable def L_digits_Number (x0 : List UInt8) (Rv : Int × Int → Prop) : Int × Int → Prop
  | (i0, i1) => headL E_digits_Number [.r, .r, .r, .l, .r, .d] b_digits_Number 0 (bodyK E_digits_Number Tryd.f9 (outP O_digits_Number fun ls => Rv (tup_digits_Number ls))) (st_digits_Number_0 x0 i0 i1)
set_option maxRecDepth 100000 in
theorem l_digits_Number_0 (x0 : List UInt8) (Rv : Int × Int → Prop) (i0 : Int) (i1 : Int) : stepL E_digits_Number [.r, .r, .r, .l, .r, .d] b_digits_Number 0 (bodyK E_digits_Number Tryd.f9 (outP O_digits_Number fun ls => Rv (tup_digits_Number ls))) (st_digits_Number_0 x0 i0 i1) =
  (M_digits_Number x0 ((i0, i1))).fold False (Sum.elim (L_digits_Number x0 Rv) Rv) := by kernel_rfl
set_option maxRecDepth 100000 in
theorem e_digits_Number_0 (x0 : List UInt8) (Rv : Int × Int → Prop) (i0 : Int) (i1 : Int) : L_digits_Number x0 Rv ((i0, i1)) = headL E_digits_Number [.r, .r, .r, .l, .r, .d] b_digits_Number 0 (bodyK E_digits_Number Tryd.f9 (outP O_digits_Number fun ls => Rv (tup_digits_Number ls))) (st_digits_Number_0 x0 i0 i1) := by kernel_rfl
section
attribute [local irreducible] Tr.fold M_digits_Number L_digits_Number T_digits_Number E_digits_Number b_digits_Number bodyK headC headL stepC stepL wpX callA
set_option maxRecDepth 100000 in
theorem h_digits_Number (x0 : List UInt8) (Rv : Int × Int → Prop) : ∀ s, (M_digits_Number x0 s).fold False (Sum.elim (L_digits_Number x0 Rv) Rv) → L_digits_Number x0 Rv s := by
  rintro (⟨v0, v1⟩)
  · exact fun h => Eq.mpr (e_digits_Number_0 x0 Rv v0 v1) (headL_of (Eq.mpr (l_digits_Number_0 x0 Rv v0 v1) h))
set_option maxRecDepth 100000 in
theorem c_digits_Number (ls : List AV) (Rv : Int × Int → Prop) : callA E_digits_Number Tryd.f9 (instL ls P_digits_Number 0) [] (outP O_digits_Number fun ls => Rv (tup_digits_Number ls)) = (T_digits_Number (getS (ls.getD 0 .junk))).fold False (Sum.elim (L_digits_Number (getS (ls.getD 0 .junk)) Rv) Rv) := by kernel_rfl
end
noncomputable def S_digits_Number : Go.Cx.Spec := pureS (patF P_digits_Number fun ls => opt (g_digits_Number (getS (ls.getD 0 .junk))) fun x => .r (res_digits_Number x))
set_option maxRecDepth 100000 in
theorem S_digits_Number_ok : Sound Tryd.prog 9 S_digits_Number :=
  pure_mach (E := E_digits_Number) (TblOK.enK TYdG510t_ok _ _ _ _ _) mixed rfl Tryd.func9 (c := Tryd.f9.body.getD .skip) (by kernel_rfl) (by kernel_rfl) (pats := P_digits_Number) (O := O_digits_Number) (tup := tup_digits_Number) (res := res_digits_Number) (g := fun ls => g_digits_Number (getS (ls.getD 0 .junk))) (T := fun ls => T_digits_Number (getS (ls.getD 0 .junk))) (step := fun ls => M_digits_Number (getS (ls.getD 0 .junk))) (L := fun ls => L_digits_Number (getS (ls.getD 0 .junk))) (fun _ => rfl) (fun ls => by kernel_rfl) c_digits_Number (fun ls Rv => h_digits_Number (getS (ls.getD 0 .junk)) Rv)

noncomputable def TYdG511t : FuncId → Option Go.Cx.Spec := addT TYdG510t 9 S_digits_Number
theorem TYdG511t_ok : TblOK Tryd.prog TYdG511t := TYdG510t_ok.add S_digits_Number_ok

/- comptoir/digits.UnBcd -/
noncomputable def E_digits_UnBcd : En := enK Tryd.prog TYdG511t [] [(6, ⟨[0, 1, 2, 3, 4, 5, 8, 9, 10, 11, 12, 13, 14, 15, 16, 17, 18, 19, 20, 21, 22, 23, 24, 28, 29, 30, 31, 32, 33, 34, 35, 36, 37, 38, 39, 40, 41, 42, 43, 44, 45, 46, 47, 48, 49, 50, 51, 52, 53, 54, 55, 56, 57, 58, 59, 60], [], [], none, [], [], [], [], false⟩)] [(6, [(7, 5, (.int .u8))])] [] 0
def P_digits_UnBcd : List Pat := [.leaf (.slice 1 (.int .u8)), .leaf (.int .i64)]
def O_digits_UnBcd : Pat := .tuple [.leaf .str, .leaf (.int .i64)]
def tup_digits_UnBcd : List AV → List UInt8 × Int := fun ls => (getS (ls.getD 0 .junk), getI (ls.getD 1 .junk))
def res_digits_UnBcd : List UInt8 × Int → AV := fun x => .tuple [.str (x.1), .int .i64 (x.2)]
noncomputable def T_digits_UnBcd (x0 : List AV) (x1 : Int) : Tr ((Int × Int × List AV) ⊕ (List UInt8 × Int)) := (.c (Decidable.decide (x1 < (0 : Int))) (.r (.inr (([], (1 : Int))))) (.c (Decidable.decide (Go.IntKind.wrap Go.IntKind.i64 (Go.IntKind.wrap Go.IntKind.i64 ((2 : Int) * (↑(List.length x0) : Int)) - x1) < (0 : Int))) (.r (.inr (([], (1 : Int))))) (.c (Decidable.decide (Go.IntKind.wrap Go.IntKind.i64 (Go.IntKind.wrap Go.IntKind.i64 ((2 : Int) * (↑(List.length x0) : Int)) - x1) > (1 : Int))) (.r (.inr (([], (1 : Int))))) (.r (.inl ((Go.IntKind.wrap Go.IntKind.i64 (Go.IntKind.wrap Go.IntKind.i64 ((2 : Int) * (↑(List.length x0) : Int)) - x1), (0 : Int), [])))))))
noncomputable def M_digits_UnBcd (x0 : List AV) (x1 : Int) : Int × Int × List AV → Tr ((Int × Int × List AV) ⊕ (List UInt8 × Int))
  | (i0, i1, l0) => (.c (Decidable.decide (i1 < (↑(List.length x0) : Int))) (.c (Decidable.decide ((0 : Int) ≤ i1)) (.c (Decidable.decide (i1 < (↑(List.length x0) : Int))) (.c (Decidable.decide (Go.Cx.shrA Go.IntKind.u8 (Go.Cx.getI (List.getD x0 (Int.toNat i1) (Go.Cx.AV.int Go.IntKind.u8 (0 : Int)))) (4 : Int) > (9 : Int))) (.r (.inr (([], (5 : Int))))) (.c (Decidable.decide (Go.Cx.bitsA Go.BinOp.and Go.IntKind.u8 (Go.Cx.getI (List.getD x0 (Int.toNat i1) (Go.Cx.AV.int Go.IntKind.u8 (0 : Int)))) (15 : Int) > (9 : Int))) (.r (.inr (([], (5 : Int))))) (.c (List.length l0 == List.length l0) (.c (Decidable.decide (List.length (l0 ++ [Go.Cx.AV.int Go.IntKind.u8 (Go.IntKind.wrap Go.IntKind.u8 ((48 : Int) + Go.Cx.shrA Go.IntKind.u8 (Go.Cx.getI (List.getD x0 (Int.toNat i1) (Go.Cx.AV.int Go.IntKind.u8 (0 : Int)))) (4 : Int))), Go.Cx.AV.int Go.IntKind.u8 (Go.IntKind.wrap Go.IntKind.u8 ((48 : Int) + Go.Cx.bitsA Go.BinOp.and Go.IntKind.u8 (Go.Cx.getI (List.getD x0 (Int.toNat i1) (Go.Cx.AV.int Go.IntKind.u8 (0 : Int)))) (15 : Int)))]) * (2 : Nat) < (70368744177664 : Nat))) (.r (.inl ((i0, Go.IntKind.wrap Go.IntKind.i64 (i1 + (1 : Int)), l0 ++ [Go.Cx.AV.int Go.IntKind.u8 (Go.IntKind.wrap Go.IntKind.u8 ((48 : Int) + Go.Cx.shrA Go.IntKind.u8 (Go.Cx.getI (List.getD x0 (Int.toNat i1) (Go.Cx.AV.int Go.IntKind.u8 (0 : Int)))) (4 : Int))), Go.Cx.AV.int Go.IntKind.u8 (Go.IntKind.wrap Go.IntKind.u8 ((48 : Int) + Go.Cx.bitsA Go.BinOp.and Go.IntKind.u8 (Go.Cx.getI (List.getD x0 (Int.toNat i1) (Go.Cx.AV.int Go.IntKind.u8 (0 : Int)))) (15 : Int)))])))) .bad) .bad))) .bad) .bad) (.c (i0 == (1 : Int)) (.c (Decidable.decide ((0 : Int) < (↑(List.length l0) : Int))) (.c (List.length l0 == List.length l0) (.c (Decidable.decide ((0 : Nat) < List.length l0)) (.c (Go.Cx.getI (List.getD l0 (0 : Nat) (Go.Cx.AV.int Go.IntKind.u8 (0 : Int))) != (48 : Int)) (.r (.inr (([], (5 : Int))))) (.c (List.length l0 == List.length l0) (.c (Decidable.decide ((↑(List.length l0) : Int) ≤ (↑(List.length l0) : Int))) (.c (Decidable.decide ((0 : Int) ≤ i0)) (.c (Decidable.decide (i0 ≤ (↑(List.length l0) : Int))) (.r (.inr ((Go.Cx.bytesOf (List.drop (Int.toNat i0) (List.take (List.length l0) l0)), (0 : Int))))) .bad) .bad) .bad) .bad)) .bad) .bad) .bad) (.c (List.length l0 == List.length l0) (.c (Decidable.decide ((↑(List.length l0) : Int) ≤ (↑(List.length l0) : Int))) (.c (Decidable.decide ((0 : Int) ≤ i0)) (.c (Decidable.decide (i0 ≤ (↑(List.length l0) : Int))) (.r (.inr ((Go.Cx.bytesOf (List.drop (Int.toNat i0) (List.take (List.length l0) l0)), (0 : Int))))) .bad) .bad) .bad) .bad)))
noncomputable def g_digits_UnBcd (x0 : List AV) (x1 : Int) : Option (List UInt8 × Int) := run (M_digits_UnBcd x0 x1) (T_digits_UnBcd x0 x1)
noncomputable def b_digits_UnBcd := Tryd.f14.body.getD .skip
noncomputable def st_digits_UnBcd_0 (x0 : List AV) (x1 : Int) (i0 : Int) (i1 : Int) (l0 : List AV) : St := ⟨frOf 0 61 [(6, Go.Cx.AV.int Go.IntKind.i64 i0), (7, Go.Cx.AV.oslice (0 : Nat) (0 : Nat) (List.length l0)), (25, Go.Cx.AV.slice (1 : Nat) (Go.Cx.Sh.int Go.IntKind.u8) x0 Go.Cx.SK.ro), (26, Go.Cx.AV.int Go.IntKind.i64 (↑(List.length x0) : Int)), (27, Go.Cx.AV.int Go.IntKind.i64 i1)], [Go.Cx.Ob.grow (5 : Nat) (0 : Nat) (1 : Nat) (Go.Cx.Sh.int Go.IntKind.u8) l0]⟩
noncomputable def L_digits_UnBcd (x0 : List AV) (x1 : Int) (Rv : List UInt8 × Int → Prop) : Int × Int × List AV → Prop
  | (i0, i1, l0) => headL E_digits_UnBcd [.r, .r, .r, .r, .l, .r, .d] b_digits_UnBcd 1 (bodyK E_digits_UnBcd Tryd.f14 (outP O_digits_UnBcd fun ls => Rv (tup_digits_UnBcd ls))) (st_digits_UnBcd_0 x0 x1 i0 i1 l0)
set_option maxRecDepth 100000 in
theorem l_digits_UnBcd_0 (x0 : List AV) (x1 : Int) (Rv : List UInt8 × Int → Prop) (i0 : Int) (i1 : Int) (l0 : List AV) : stepL E_digits_UnBcd [.r, .r, .r, .r, .l, .r, .d] b_digits_UnBcd 1 (bodyK E_digits_UnBcd Tryd.f14 (outP O_digits_UnBcd fun ls => Rv (tup_digits_UnBcd ls))) (st_digits_UnBcd_0 x0 x1 i0 i1 l0) =
  (M_digits_UnBcd x0 x1 ((i0, i1, l0))).fold False (Sum.elim (L_digits_UnBcd x0 x1 Rv) Rv) := by kernel_rfl
set_option maxRecDepth 100000 in
theorem e_digits_UnBcd_0 (x0 : List AV) (x1 : Int) (Rv : List UInt8 × Int → Prop) (i0 : Int) (i1 : Int) (l0 : List AV) : L_digits_UnBcd x0 x1 Rv ((i0, i1, l0)) = headL E_digits_UnBcd [.r, .r, .r, .r, .l, .r, .d] b_digits_UnBcd 1 (bodyK E_digits_UnBcd Tryd.f14 (outP O_digits_UnBcd fun ls => Rv (tup_digits_UnBcd ls))) (st_digits_UnBcd_0 x0 x1 i0 i1 l0) := by kernel_rfl
section
attribute [local irreducible] Tr.fold M_digits_UnBcd L_digits_UnBcd T_digits_UnBcd E_digits_UnBcd b_digits_UnBcd bodyK headC headL stepC stepL wpX callA
set_option maxRecDepth 100000 in
theorem h_digits_UnBcd (x0 : List AV) (x1 : Int) (Rv : List UInt8 × Int → Prop) : ∀ s, (M_digits_UnBcd x0 x1 s).fold False (Sum.elim (L_digits_UnBcd x0 x1 Rv) Rv) → L_digits_UnBcd x0 x1 Rv s := by
  rintro (⟨v0, v1, v2⟩)
  · exact fun h => Eq.mpr (e_digits_UnBcd_0 x0 x1 Rv v0 v1 v2) (headL_of (Eq.mpr (l_digits_UnBcd_0 x0 x1 Rv v0 v1 v2) h))
set_option maxRecDepth 100000 in
theorem c_digits_UnBcd (ls : List AV) (Rv : List UInt8 × Int → Prop) : callA E_digits_UnBcd Tryd.f14 (instL ls P_digits_UnBcd 0) [] (outP O_digits_UnBcd fun ls => Rv (tup_digits_UnBcd ls)) = (T_digits_UnBcd (getXs (ls.getD 0 .junk)) (getI (ls.getD 1 .junk))).fold False (Sum.elim (L_digits_UnBcd (getXs (ls.getD 0 .junk)) (getI (ls.getD 1 .junk)) Rv) Rv) := by kernel_rfl
end
noncomputable def S_digits_UnBcd : Go.Cx.Spec := pureS (patF P_digits_UnBcd fun ls => opt (g_digits_UnBcd (getXs (ls.getD 0 .junk)) (getI (ls.getD 1 .junk))) fun x => .r (res_digits_UnBcd x))
set_option maxRecDepth 100000 in
theorem S_digits_UnBcd_ok : Sound Tryd.prog 14 S_digits_UnBcd :=
  pure_mach (E := E_digits_UnBcd) (TblOK.enK TYdG511t_ok _ _ _ _ _) mixed rfl Tryd.func14 (c := Tryd.f14.body.getD .skip) (by kernel_rfl) (by kernel_rfl) (pats := P_digits_UnBcd) (O := O_digits_UnBcd) (tup := tup_digits_UnBcd) (res := res_digits_UnBcd) (g := fun ls => g_digits_UnBcd (getXs (ls.getD 0 .junk)) (getI (ls.getD 1 .junk))) (T := fun ls => T_digits_UnBcd (getXs (ls.getD 0 .junk)) (getI (ls.getD 1 .junk))) (step := fun ls => M_digits_UnBcd (getXs (ls.getD 0 .junk)) (getI (ls.getD 1 .junk))) (L := fun ls => L_digits_UnBcd (getXs (ls.getD 0 .junk)) (getI (ls.getD 1 .junk))) (fun _ => rfl) (fun ls => by kernel_rfl) c_digits_UnBcd (fun ls Rv => h_digits_UnBcd (getXs (ls.getD 0 .junk)) (getI (ls.getD 1 .junk)) Rv)

noncomputable def TYdG512t : FuncId → Option Go.Cx.Spec := addT TYdG511t 14 S_digits_UnBcd
theorem TYdG512t_ok : TblOK Tryd.prog TYdG512t := TYdG511t_ok.add S_digits_UnBcd_ok

/- comptoir/digits.UnHex$1 -/
noncomputable def E_digits_UnHex_1_0p : En := enK Tryd.prog TYdG512t [] [] [] [] 0
def P_digits_UnHex_1_0p : List Pat := [.leaf (.int .u8), .rptr [.func 25 [] []]]
def O_digits_UnHex_1_0p : Pat := .leaf .bool
def tup_digits_UnHex_1_0p : List AV → Bool := fun ls => getB (ls.getD 0 .junk)
def res_digits_UnHex_1_0p : Bool → AV := fun x => .bool (x)
noncomputable def T_digits_UnHex_1_0p (x0 : Int) : Tr (Bool) := (.r (Decidable.decide (Go.Lib.indexByte [(48 : UInt8), (49 : UInt8), (50 : UInt8), (51 : UInt8), (52 : UInt8), (53 : UInt8), (54 : UInt8), (55 : UInt8), (56 : UInt8), (57 : UInt8), (65 : UInt8), (66 : UInt8), (67 : UInt8), (68 : UInt8), (69 : UInt8), (70 : UInt8)] (Nat.toUInt8 (Int.toNat x0)) ≥ (0 : Int))))
noncomputable def g_digits_UnHex_1_0p (x0 : Int) : Option (Bool) := (T_digits_UnHex_1_0p x0).val
set_option maxRecDepth 100000 in
theorem c_digits_UnHex_1_0p (ls : List AV) (Rv : Bool → Prop) : callA E_digits_UnHex_1_0p Tryd.f27 (instL ls P_digits_UnHex_1_0p 0) [] (outP O_digits_UnHex_1_0p fun ls => Rv (tup_digits_UnHex_1_0p ls)) = (T_digits_UnHex_1_0p (getI (ls.getD 0 .junk))).fold False Rv := by kernel_rfl
noncomputable def S_digits_UnHex_1_0p : Go.Cx.Spec := pureS (patF P_digits_UnHex_1_0p fun ls => opt (g_digits_UnHex_1_0p (getI (ls.getD 0 .junk))) fun x => .r (res_digits_UnHex_1_0p x))
set_option maxRecDepth 100000 in
theorem S_digits_UnHex_1_0p_ok : Sound Tryd.prog 27 S_digits_UnHex_1_0p :=
  pure_flat (E := E_digits_UnHex_1_0p) (TblOK.enK TYdG512t_ok _ _ _ _ _) mixed rfl Tryd.func27 (c := Tryd.f27.body.getD .skip) (by kernel_rfl) (by kernel_rfl) (pats := P_digits_UnHex_1_0p) (O := O_digits_UnHex_1_0p) (tup := tup_digits_UnHex_1_0p) (res := res_digits_UnHex_1_0p) (g := fun ls => g_digits_UnHex_1_0p (getI (ls.getD 0 .junk))) (T := fun ls => T_digits_UnHex_1_0p (getI (ls.getD 0 .junk))) (fun _ => rfl) (fun ls => by kernel_rfl) c_digits_UnHex_1_0p

noncomputable def TYdG513t : FuncId → Option Go.Cx.Spec := addT TYdG512t 27 S_digits_UnHex_1_0p
theorem TYdG513t_ok : TblOK Tryd.prog TYdG513t := TYdG512t_ok.add S_digits_UnHex_1_0p_ok

/- comptoir/digits.all -/
noncomputable def E_digits_all_0fUnHex1_p5fhas_ : En := enKB Tryd.prog TYdG513t [] [(2, ⟨[2, 3, 4, 5, 6, 9, 10, 11, 12, 13, 14, 15, 16, 17], [], [], none, [], [], [], [], false⟩)] [] [] 1 1 false
def P_digits_all_0fUnHex1_p5fhas_ : List Pat := [.leaf .str, .func 27 [] [.lit (.ptr 0 0)]]
def Q_digits_all_0fUnHex1_p5fhas_ : List OPat := [.fix 43 [.func 25 [] []]]
def O_digits_all_0fUnHex1_p5fhas_ : Pat := .leaf .bool
def OO_digits_all_0fUnHex1_p5fhas_ : List OPat := [.fix 43 [.func 25 [] []]]
def tup_digits_all_0fUnHex1_p5fhas_ : List AV → Bool := fun ls => getB (ls.getD 0 .junk)
def res_digits_all_0fUnHex1_p5fhas_ : Bool → AV × List Ob := fun x => (.bool (x), [.fix 43 [.func 25 [] []]])
noncomputable def T_digits_all_0fUnHex1_p5fhas_ (x0 : List UInt8) : Tr ((Int) ⊕ (Bool)) := (.r (.inl ((0 : Int))))
noncomputable def M_digits_all_0fUnHex1_p5fhas_ (x0 : List UInt8) : Int → Tr ((Int) ⊕ (Bool))
  | i0 => (.c (Decidable.decide (i0 < (↑(List.length x0) : Int))) (.c (Decidable.decide ((0 : Int) ≤ i0)) (.c (Decidable.decide (i0 < (↑(List.length x0) : Int))) (.c (!Decidable.decide (Go.Lib.indexByte [(48 : UInt8), (49 : UInt8), (50 : UInt8), (51 : UInt8), (52 : UInt8), (53 : UInt8), (54 : UInt8), (55 : UInt8), (56 : UInt8), (57 : UInt8), (65 : UInt8), (66 : UInt8), (67 : UInt8), (68 : UInt8), (69 : UInt8), (70 : UInt8)] (Nat.toUInt8 (UInt8.toNat (List.getD x0 (Int.toNat i0) (0 : UInt8)))) ≥ (0 : Int))) (.r (.inr (Bool.false))) (.r (.inl (Go.IntKind.wrap Go.IntKind.i64 (i0 + (1 : Int)))))) .bad) .bad) (.r (.inr (Bool.true))))
noncomputable def g_digits_all_0fUnHex1_p5fhas_ (x0 : List UInt8) : Option (Bool) := run (M_digits_all_0fUnHex1_p5fhas_ x0) (T_digits_all_0fUnHex1_p5fhas_ x0)
noncomputable def b_digits_all_0fUnHex1_p5fhas_ := Tryd.f26.body.getD .skip
noncomputable def st_digits_all_0fUnHex1_p5fhas__0 (x0 : List UInt8) (i0 : Int) : St := ⟨[Go.Cx.AV.str x0, Go.Cx.AV.func (27 : Nat) [] [Go.Cx.AV.ptr (0 : Nat) (0 : Nat)], Go.Cx.AV.junk, Go.Cx.AV.junk, Go.Cx.AV.junk, Go.Cx.AV.junk, Go.Cx.AV.junk, Go.Cx.AV.int Go.IntKind.i64 (↑(List.length x0) : Int), Go.Cx.AV.int Go.IntKind.i64 i0, Go.Cx.AV.junk, Go.Cx.AV.junk, Go.Cx.AV.junk, Go.Cx.AV.junk, Go.Cx.AV.junk, Go.Cx.AV.junk, Go.Cx.AV.junk, Go.Cx.AV.junk, Go.Cx.AV.junk], [Go.Cx.Ob.fix (43 : Nat) [Go.Cx.AV.func (25 : Nat) [] []]]⟩
noncomputable def L_digits_all_0fUnHex1_p5fhas_ (x0 : List UInt8) (Rv : Bool → Prop) : Int → Prop
  | i0 => headL E_digits_all_0fUnHex1_p5fhas_ [.r, .l, .r, .d] b_digits_all_0fUnHex1_p5fhas_ 1 (bodyK E_digits_all_0fUnHex1_p5fhas_ Tryd.f26 (outH O_digits_all_0fUnHex1_p5fhas_ OO_digits_all_0fUnHex1_p5fhas_ fun ls => Rv (tup_digits_all_0fUnHex1_p5fhas_ ls))) (st_digits_all_0fUnHex1_p5fhas__0 x0 i0)
set_option maxRecDepth 100000 in
theorem l_digits_all_0fUnHex1_p5fhas__0 (x0 : List UInt8) (Rv : Bool → Prop) (i0 : Int) : stepL E_digits_all_0fUnHex1_p5fhas_ [.r, .l, .r, .d] b_digits_all_0fUnHex1_p5fhas_ 1 (bodyK E_digits_all_0fUnHex1_p5fhas_ Tryd.f26 (outH O_digits_all_0fUnHex1_p5fhas_ OO_digits_all_0fUnHex1_p5fhas_ fun ls => Rv (tup_digits_all_0fUnHex1_p5fhas_ ls))) (st_digits_all_0fUnHex1_p5fhas__0 x0 i0) =
  (M_digits_all_0fUnHex1_p5fhas_ x0 (i0)).fold False (Sum.elim (L_digits_all_0fUnHex1_p5fhas_ x0 Rv) Rv) := by kernel_rfl
set_option maxRecDepth 100000 in
theorem e_digits_all_0fUnHex1_p5fhas__0 (x0 : List UInt8) (Rv : Bool → Prop) (i0 : Int) : L_digits_all_0fUnHex1_p5fhas_ x0 Rv (i0) = headL E_digits_all_0fUnHex1_p5fhas_ [.r, .l, .r, .d] b_digits_all_0fUnHex1_p5fhas_ 1 (bodyK E_digits_all_0fUnHex1_p5fhas_ Tryd.f26 (outH O_digits_all_0fUnHex1_p5fhas_ OO_digits_all_0fUnHex1_p5fhas_ fun ls => Rv (tup_digits_all_0fUnHex1_p5fhas_ ls))) (st_digits_all_0fUnHex1_p5fhas__0 x0 i0) := by kernel_rfl
section
attribute [local irreducible] Tr.fold M_digits_all_0fUnHex1_p5fhas_ L_digits_all_0fUnHex1_p5fhas_ T_digits_all_0fUnHex1_p5fhas_ E_digits_all_0fUnHex1_p5fhas_ b_digits_all_0fUnHex1_p5fhas_ bodyK headC headL stepC stepL wpX callA
set_option maxRecDepth 100000 in
theorem h_digits_all_0fUnHex1_p5fhas_ (x0 : List UInt8) (Rv : Bool → Prop) : ∀ s, (M_digits_all_0fUnHex1_p5fhas_ x0 s).fold False (Sum.elim (L_digits_all_0fUnHex1_p5fhas_ x0 Rv) Rv) → L_digits_all_0fUnHex1_p5fhas_ x0 Rv s := by
  rintro (v0)
  · exact fun h => Eq.mpr (e_digits_all_0fUnHex1_p5fhas__0 x0 Rv v0) (headL_of (Eq.mpr (l_digits_all_0fUnHex1_p5fhas__0 x0 Rv v0) h))
set_option maxRecDepth 100000 in
theorem c_digits_all_0fUnHex1_p5fhas_ (ls : List AV) (Rv : Bool → Prop) : callA E_digits_all_0fUnHex1_p5fhas_ Tryd.f26 (instL ls P_digits_all_0fUnHex1_p5fhas_ 0) (instH ls Q_digits_all_0fUnHex1_p5fhas_ 1) (outH O_digits_all_0fUnHex1_p5fhas_ OO_digits_all_0fUnHex1_p5fhas_ fun ls => Rv (tup_digits_all_0fUnHex1_p5fhas_ ls)) = (T_digits_all_0fUnHex1_p5fhas_ (getS (ls.getD 0 .junk))).fold False (Sum.elim (L_digits_all_0fUnHex1_p5fhas_ (getS (ls.getD 0 .junk)) Rv) Rv) := by kernel_rfl
end
noncomputable def S_digits_all_0fUnHex1_p5fhas_ : Go.Cx.Spec := heapS (patH P_digits_all_0fUnHex1_p5fhas_ Q_digits_all_0fUnHex1_p5fhas_ fun ls => opt (g_digits_all_0fUnHex1_p5fhas_ (getS (ls.getD 0 .junk))) fun x => .r (res_digits_all_0fUnHex1_p5fhas_ x))
set_option maxRecDepth 100000 in
theorem S_digits_all_0fUnHex1_p5fhas__ok : Sound Tryd.prog 26 S_digits_all_0fUnHex1_p5fhas_ :=
  heap_mach (E := E_digits_all_0fUnHex1_p5fhas_) (TblOK.enKB TYdG513t_ok _ _ _ _ _ _ _) mixed Tryd.func26 (c := Tryd.f26.body.getD .skip) (by kernel_rfl) (by kernel_rfl) (by decide) (by decide) (pats := P_digits_all_0fUnHex1_p5fhas_) (ops := Q_digits_all_0fUnHex1_p5fhas_) (OO := OO_digits_all_0fUnHex1_p5fhas_) (O := O_digits_all_0fUnHex1_p5fhas_) (tup := tup_digits_all_0fUnHex1_p5fhas_) (res := res_digits_all_0fUnHex1_p5fhas_) (g := fun ls => g_digits_all_0fUnHex1_p5fhas_ (getS (ls.getD 0 .junk))) (T := fun ls => T_digits_all_0fUnHex1_p5fhas_ (getS (ls.getD 0 .junk))) (step := fun ls => M_digits_all_0fUnHex1_p5fhas_ (getS (ls.getD 0 .junk))) (L := fun ls => L_digits_all_0fUnHex1_p5fhas_ (getS (ls.getD 0 .junk))) (fun _ => rfl) (fun ls => by kernel_rfl) c_digits_all_0fUnHex1_p5fhas_ (fun ls Rv => h_digits_all_0fUnHex1_p5fhas_ (getS (ls.getD 0 .junk)) Rv)

noncomputable def TYdG514t : FuncId → Option Go.Cx.Spec := addT TYdG513t 26 (orS (tagsB [0, 37]) S_digits_all_0fUnHex1_p5fhas_ S_digits_all_0fhas_)
theorem TYdG514t_ok : TblOK Tryd.prog TYdG514t := TYdG513t_ok.add (Sound.or _ S_digits_all_0fUnHex1_p5fhas__ok S_digits_all_0fhas__ok)

/- comptoir/digits.UnHex -/
noncomputable def E_digits_UnHex : En := enK Tryd.prog TYdG514t [] [(6, ⟨[1, 2, 3, 4, 7, 8, 9, 10, 11, 12, 13, 14, 15, 16, 17, 18, 19, 20, 21, 22, 23, 24, 25, 26, 27, 28, 29, 30, 31, 32, 33, 34, 35, 36, 37, 38], [], [], none, [], [], [], [], false⟩)] [(6, [(5, 5, (.int .u8))])] [] 0
def P_digits_UnHex : List Pat := [.leaf .str]
def O_digits_UnHex : Pat := .tuple [.leaf (.slice 1 (.int .u8)), .leaf (.int .i64)]
def tup_digits_UnHex : List AV → List AV × Int := fun ls => (getXs (ls.getD 0 .junk), getI (ls.getD 1 .junk))
def res_digits_UnHex : List AV × Int → AV := fun x => .tuple [.slice 1 (.int .u8) (x.1) .ro, .int .i64 (x.2)]
noncomputable def T_digits_UnHex (x0 : List UInt8) : Tr ((Int × List AV) ⊕ (List AV × Int)) := (.c (Int.tmod (↑(List.length x0) : Int) (2 : Int) == (1 : Int)) (.r (.inr (([], (5 : Int))))) (opt (Go.Proofs.YtbgklljidmoahaaDoor.g_digits_all_0fUnHex1_p5fhas_ x0) fun (y0 : Bool) => (.c (!y0) (.r (.inr (([], (5 : Int))))) (.r (.inl (((0 : Int), [])))))))
noncomputable def M_digits_UnHex (x0 : List UInt8) : Int × List AV → Tr ((Int × List AV) ⊕ (List AV × Int))
  | (i0, l0) => (.c (Decidable.decide (i0 < (↑(List.length x0) : Int))) (.c (Decidable.decide ((0 : Int) ≤ i0)) (.c (Decidable.decide (i0 < (↑(List.length x0) : Int))) (.c (Decidable.decide ((0 : Int) ≤ Go.IntKind.wrap Go.IntKind.i64 (i0 + (1 : Int)))) (.c (Decidable.decide (Go.IntKind.wrap Go.IntKind.i64 (i0 + (1 : Int)) < (↑(List.length x0) : Int))) (.c (List.length l0 == List.length l0) (.c (Decidable.decide (List.length (l0 ++ [Go.Cx.AV.int Go.IntKind.u8 (Go.IntKind.wrap Go.IntKind.u8 (Go.Cx.bitsA Go.BinOp.or Go.IntKind.i64 (Go.Cx.shlA Go.IntKind.i64 (Go.Lib.indexByte [(48 : UInt8), (49 : UInt8), (50 : UInt8), (51 : UInt8), (52 : UInt8), (53 : UInt8), (54 : UInt8), (55 : UInt8), (56 : UInt8), (57 : UInt8), (65 : UInt8), (66 : UInt8), (67 : UInt8), (68 : UInt8), (69 : UInt8), (70 : UInt8)] (Nat.toUInt8 (UInt8.toNat (List.getD x0 (Int.toNat i0) (0 : UInt8))))) (4 : Int)) (Go.Lib.indexByte [(48 : UInt8), (49 : UInt8), (50 : UInt8), (51 : UInt8), (52 : UInt8), (53 : UInt8), (54 : UInt8), (55 : UInt8), (56 : UInt8), (57 : UInt8), (65 : UInt8), (66 : UInt8), (67 : UInt8), (68 : UInt8), (69 : UInt8), (70 : UInt8)] (Nat.toUInt8 (UInt8.toNat (List.getD x0 (Int.toNat (Go.IntKind.wrap Go.IntKind.i64 (i0 + (1 : Int)))) (0 : UInt8)))))))]) * (2 : Nat) < (70368744177664 : Nat))) (.r (.inl ((Go.IntKind.wrap Go.IntKind.i64 (i0 + (2 : Int)), l0 ++ [Go.Cx.AV.int Go.IntKind.u8 (Go.IntKind.wrap Go.IntKind.u8 (Go.Cx.bitsA Go.BinOp.or Go.IntKind.i64 (Go.Cx.shlA Go.IntKind.i64 (Go.Lib.indexByte [(48 : UInt8), (49 : UInt8), (50 : UInt8), (51 : UInt8), (52 : UInt8), (53 : UInt8), (54 : UInt8), (55 : UInt8), (56 : UInt8), (57 : UInt8), (65 : UInt8), (66 : UInt8), (67 : UInt8), (68 : UInt8), (69 : UInt8), (70 : UInt8)] (Nat.toUInt8 (UInt8.toNat (List.getD x0 (Int.toNat i0) (0 : UInt8))))) (4 : Int)) (Go.Lib.indexByte [(48 : UInt8), (49 : UInt8), (50 : UInt8), (51 : UInt8), (52 : UInt8), (53 : UInt8), (54 : UInt8), (55 : UInt8), (56 : UInt8), (57 : UInt8), (65 : UInt8), (66 : UInt8), (67 : UInt8), (68 : UInt8), (69 : UInt8), (70 : UInt8)] (Nat.toUInt8 (UInt8.toNat (List.getD x0 (Int.toNat (Go.IntKind.wrap Go.IntKind.i64 (i0 + (1 : Int)))) (0 : UInt8)))))))])))) .bad) .bad) .bad) .bad) .bad) .bad) (.c (List.length l0 == List.length l0) (.r (.inr ((l0, (0 : Int))))) .bad))
noncomputable def g_digits_UnHex (x0 : List UInt8) : Option (List AV × Int) := run (M_digits_UnHex x0) (T_digits_UnHex x0)
noncomputable def b_digits_UnHex := Tryd.f16.body.getD .skip
noncomputable def st_digits_UnHex_0 (x0 : List UInt8) (i0 : Int) (l0 : List AV) : St := ⟨[Go.Cx.AV.str x0, Go.Cx.AV.junk, Go.Cx.AV.junk, Go.Cx.AV.junk, Go.Cx.AV.junk, Go.Cx.AV.oslice (1 : Nat) (0 : Nat) (List.length l0), Go.Cx.AV.int Go.IntKind.i64 i0, Go.Cx.AV.junk, Go.Cx.AV.junk, Go.Cx.AV.junk, Go.Cx.AV.junk, Go.Cx.AV.junk, Go.Cx.AV.junk, Go.Cx.AV.junk, Go.Cx.AV.junk, Go.Cx.AV.junk, Go.Cx.AV.junk, Go.Cx.AV.junk, Go.Cx.AV.junk, Go.Cx.AV.junk, Go.Cx.AV.junk, Go.Cx.AV.junk, Go.Cx.AV.junk, Go.Cx.AV.junk, Go.Cx.AV.junk, Go.Cx.AV.junk, Go.Cx.AV.junk, Go.Cx.AV.junk, Go.Cx.AV.junk, Go.Cx.AV.junk, Go.Cx.AV.junk, Go.Cx.AV.junk, Go.Cx.AV.junk, Go.Cx.AV.junk, Go.Cx.AV.junk, Go.Cx.AV.junk, Go.Cx.AV.junk, Go.Cx.AV.junk, Go.Cx.AV.junk], [Go.Cx.Ob.fix (43 : Nat) [Go.Cx.AV.func (25 : Nat) [] []], Go.Cx.Ob.grow (5 : Nat) (0 : Nat) (1 : Nat) (Go.Cx.Sh.int Go.IntKind.u8) l0]⟩
noncomputable def L_digits_UnHex (x0 : List UInt8) (Rv : List AV × Int → Prop) : Int × List AV → Prop
  | (i0, l0) => headL E_digits_UnHex [.r, .r, .r, .r, .l, .r, .d] b_digits_UnHex 2 (bodyK E_digits_UnHex Tryd.f16 (outP O_digits_UnHex fun ls => Rv (tup_digits_UnHex ls))) (st_digits_UnHex_0 x0 i0 l0)
set_option maxRecDepth 100000 in
theorem l_digits_UnHex_0 (x0 : List UInt8) (Rv : List AV × Int → Prop) (i0 : Int) (l0 : List AV) : stepL E_digits_UnHex [.r, .r, .r, .r, .l, .r, .d] b_digits_UnHex 2 (bodyK E_digits_UnHex Tryd.f16 (outP O_digits_UnHex fun ls => Rv (tup_digits_UnHex ls))) (st_digits_UnHex_0 x0 i0 l0) =
  (M_digits_UnHex x0 ((i0, l0))).fold False (Sum.elim (L_digits_UnHex x0 Rv) Rv) := by kernel_rfl
set_option maxRecDepth 100000 in
theorem e_digits_UnHex_0 (x0 : List UInt8) (Rv : List AV × Int → Prop) (i0 : Int) (l0 : List AV) : L_digits_UnHex x0 Rv ((i0, l0)) = headL E_digits_UnHex [.r, .r, .r, .r, .l, .r, .d] b_digits_UnHex 2 (bodyK E_digits_UnHex Tryd.f16 (outP O_digits_UnHex fun ls => Rv (tup_digits_UnHex ls))) (st_digits_UnHex_0 x0 i0 l0) := by kernel_rfl
section
attribute [local irreducible] Tr.fold M_digits_UnHex L_digits_UnHex T_digits_UnHex E_digits_UnHex b_digits_UnHex bodyK headC headL stepC stepL wpX callA
set_option maxRecDepth 100000 in
theorem h_digits_UnHex (x0 : List UInt8) (Rv : List AV × Int → Prop) : ∀ s, (M_digits_UnHex x0 s).fold False (Sum.elim (L_digits_UnHex x0 Rv) Rv) → L_digits_UnHex x0 Rv s := by
  rintro (⟨v0, v1⟩)
  · exact fun h => Eq.mpr (e_digits_UnHex_0 x0 Rv v0 v1) (headL_of (Eq.mpr (l_digits_UnHex_0 x0 Rv v0 v1) h))
set_option maxRecDepth 100000 in
theorem c_digits_UnHex (ls : List AV) (Rv : List AV × Int → Prop) : callA E_digits_UnHex Tryd.f16 (instL ls P_digits_UnHex 0) [] (outP O_digits_UnHex fun ls => Rv (tup_digits_UnHex ls)) = (T_digits_UnHex (getS (ls.getD 0 .junk))).fold False (Sum.elim (L_digits_UnHex (getS (ls.getD 0 .junk)) Rv) Rv) := by kernel_rfl
end
noncomputable def S_digits_UnHex : Go.Cx.Spec := pureS (patF P_digits_UnHex fun ls => opt (g_digits_UnHex (getS (ls.getD 0 .junk))) fun x => .r (res_digits_UnHex x))
set_option maxRecDepth 100000 in
theorem S_digits_UnHex_ok : Sound Tryd.prog 16 S_digits_UnHex :=
  pure_mach (E := E_digits_UnHex) (TblOK.enK TYdG514t_ok _ _ _ _ _) mixed rfl Tryd.func16 (c := Tryd.f16.body.getD .skip) (by kernel_rfl) (by kernel_rfl) (pats := P_digits_UnHex) (O := O_digits_UnHex) (tup := tup_digits_UnHex) (res := res_digits_UnHex) (g := fun ls => g_digits_UnHex (getS (ls.getD 0 .junk))) (T := fun ls => T_digits_UnHex (getS (ls.getD 0 .junk))) (step := fun ls => M_digits_UnHex (getS (ls.getD 0 .junk))) (L := fun ls => L_digits_UnHex (getS (ls.getD 0 .junk))) (fun _ => rfl) (fun ls => by kernel_rfl) c_digits_UnHex (fun ls Rv => h_digits_UnHex (getS (ls.getD 0 .junk)) Rv)

noncomputable def TYdG515t : FuncId → Option Go.Cx.Spec := addT TYdG514t 16 S_digits_UnHex
theorem TYdG515t_ok : TblOK Tryd.prog TYdG515t := TYdG514t_ok.add S_digits_UnHex_ok

/- comptoir/comptoirlaw02.DigitsBack -/
noncomputable def E_comptoirlaw02_DigitsBack : En := enK Tryd.prog TYdG515t [] [(2, ⟨[4, 5, 6, 7, 8, 9, 10, 11, 12, 13, 14, 15, 16, 17, 18, 19, 20, 21, 22, 23, 24, 25, 27, 28, 29, 30, 31, 32, 33, 34, 35, 36, 37, 38, 39, 40, 41, 42, 43, 44, 45, 46, 47, 48, 49, 50, 51, 52, 53, 54, 55, 56, 57, 58, 59, 60, 61, 62, 63, 64, 65, 66, 67, 68, 69, 70, 71, 72, 73, 74, 75, 76, 77, 78, 79, 80, 81, 82, 83, 84, 85, 86, 87, 88, 89, 90, 91, 92, 93, 94, 95, 96, 97, 98, 99, 100, 101, 102, 103, 104, 105, 106, 107, 108, 109, 110, 111, 112, 113, 114, 115, 116, 117, 118, 119, 120, 121], [], [], some 1000, [], [], [], [], false⟩), (9, ⟨[0, 1, 4, 5, 6, 7, 8, 9, 11, 12, 13, 14, 15, 16, 17, 18, 19, 20, 21, 22, 23, 24, 25, 26, 27, 28, 29, 30, 31, 32, 33, 34, 35, 36, 37, 38, 39, 40, 41, 42, 43, 44, 45, 46, 47, 48, 49, 50, 51, 52, 53, 54, 55, 56, 57, 58, 59, 61, 62, 63, 64, 65, 66, 67, 68, 69, 70, 71, 72, 73, 74, 75, 76, 77, 78, 79, 80, 81, 82, 83, 84, 85, 86, 87, 88, 89, 90, 91, 92, 93, 94, 95, 96, 97, 98, 99, 100, 101, 102, 103, 104, 105, 106, 107, 108, 109, 110, 111, 112, 113, 114, 115, 116, 117, 118, 119, 120, 121], [], [], some 1000, [], [], [], [], false⟩), (10, ⟨[0, 1, 4, 5, 6, 7, 8, 9, 11, 12, 13, 14, 15, 16, 17, 18, 19, 20, 21, 22, 23, 24, 25, 26, 27, 28, 29, 30, 31, 32, 33, 34, 35, 36, 37, 38, 39, 40, 41, 42, 43, 44, 45, 46, 47, 48, 49, 50, 51, 52, 53, 54, 55, 56, 57, 58, 59, 60, 61, 62, 63, 64, 65, 66, 67, 68, 69, 70, 71, 72, 73, 74, 75, 76, 77, 78, 79, 80, 81, 82, 83, 84, 85, 86, 87, 88, 89, 90, 91, 92, 93, 94, 95, 96, 97, 98, 99, 100, 101, 102, 103, 104, 105, 106, 107, 108, 109, 110, 111, 112, 113, 114, 115, 116, 117, 118, 119, 120, 121], [], [], some 1000, [], [], [], [], false⟩), (14, ⟨[0, 1, 4, 5, 6, 7, 8, 9, 11, 12, 13, 15, 16, 17, 18, 19, 20, 21, 22, 23, 24, 25, 26, 27, 28, 29, 30, 31, 32, 33, 34, 35, 36, 37, 38, 39, 40, 41, 42, 43, 44, 45, 46, 47, 48, 49, 50, 51, 52, 53, 54, 55, 56, 57, 58, 59, 60, 61, 62, 63, 64, 65, 66, 67, 68, 69, 70, 71, 72, 73, 74, 75, 76, 77, 78, 79, 80, 81, 82, 83, 84, 85, 86, 87, 88, 89, 91, 92, 93, 94, 95, 96, 97, 98, 99, 100, 101, 102, 103, 104, 105, 106, 107, 108, 109, 110, 111, 112, 113, 114, 115, 116, 117, 118, 119, 120, 121], [], [], some 1000, [], [], [], [], false⟩), (15, ⟨[0, 1, 4, 5, 6, 7, 8, 9, 11, 12, 13, 15, 16, 17, 18, 19, 20, 21, 22, 23, 24, 25, 26, 27, 28, 29, 30, 31, 32, 33, 34, 35, 36, 37, 38, 39, 40, 41, 42, 43, 44, 45, 46, 47, 48, 49, 50, 51, 52, 53, 54, 55, 56, 57, 58, 59, 60, 61, 62, 63, 64, 65, 66, 67, 68, 69, 70, 71, 72, 73, 74, 75, 76, 77, 78, 79, 80, 81, 82, 83, 84, 85, 86, 87, 88, 89, 90, 91, 92, 93, 94, 95, 96, 97, 98, 99, 100, 101, 102, 103, 104, 105, 106, 107, 108, 109, 110, 111, 112, 113, 114, 115, 116, 117, 118, 119, 120, 121], [], [], some 1000, [], [], [], [], false⟩)] [] [] 0
def P_comptoirlaw02_DigitsBack : List Pat := [.leaf (.int .u64), .leaf (.int .i64), .leaf .str, .leaf (.slice 1 (.int .u8))]
def O_comptoirlaw02_DigitsBack : Pat := .leaf .bool
def tup_comptoirlaw02_DigitsBack : List AV → Bool := fun ls => getB (ls.getD 0 .junk)
def res_comptoirlaw02_DigitsBack : Bool → AV := fun x => .bool (x)
noncomputable def T_comptoirlaw02_DigitsBack (x0 : Int) (x1 : Int) (x2 : List UInt8) (x3 : List AV) : Tr (((Bool) ⊕ (Int × Bool) ⊕ (Int) ⊕ (Int × Int × Bool) ⊕ (Int × Int)) ⊕ (Bool)) := (.c (Decidable.decide ((↑(List.length x2) : Int) > (100 : Int))) (.r (.inl (.inl (Bool.true)))) (.r (.inl (.inl (Decidable.decide ((↑(List.length x3) : Int) > (200 : Int)))))))
noncomputable def M_comptoirlaw02_DigitsBack (x0 : Int) (x1 : Int) (x2 : List UInt8) (x3 : List AV) : (Bool) ⊕ (Int × Bool) ⊕ (Int) ⊕ (Int × Int × Bool) ⊕ (Int × Int) → Tr (((Bool) ⊕ (Int × Bool) ⊕ (Int) ⊕ (Int × Int × Bool) ⊕ (Int × Int)) ⊕ (Bool))
  | .inl (b0) => (.c (b0) (opt (Go.Proofs.YtbgklljidmoahaaDoor.g_comptoirlaw02_awake) fun (y0 : Bool) => (.r (.inr (y0)))) (opt (Go.Proofs.YtbgklljidmoahaaDoor.g_digits_Text (Int.tmod x0 (1000000000000000000 : Int)) (Go.IntKind.wrap Go.IntKind.i64 ((1 : Int) + Go.IntKind.wrap Go.IntKind.i64 (Int.tmod (Go.IntKind.wrap Go.IntKind.u64 x1) (18 : Int))))) fun (y0 : List UInt8 × Int) => (.c (Prod.snd y0 == (0 : Int)) (opt (Go.Proofs.YtbgklljidmoahaaDoor.g_digits_Number (Prod.fst y0)) fun (y1 : Int × Int) => (.c (Prod.snd y1 != (0 : Int)) (.r (.inl (.inr (.inl ((Prod.snd y0, Bool.true)))))) (.c (Prod.fst y1 != Int.tmod x0 (1000000000000000000 : Int)) (.r (.inl (.inr (.inl ((Prod.snd y0, Bool.true)))))) (.r (.inl (.inr (.inl ((Prod.snd y0, (↑(List.length (Prod.fst y0)) : Int) != Go.IntKind.wrap Go.IntKind.i64 ((1 : Int) + Go.IntKind.wrap Go.IntKind.i64 (Int.tmod (Go.IntKind.wrap Go.IntKind.u64 x1) (18 : Int)))))))))))) (.r (.inl (.inr (.inr (.inl (Prod.snd y0)))))))))
  | .inr (.inl ((i0, b1))) => (.c (b1) (.r (.inr (Bool.false))) (.r (.inl (.inr (.inr (.inl (i0)))))))
  | .inr (.inr (.inl (i1))) => (opt (Go.Proofs.YtbgklljidmoahaaDoor.g_digits_Bcd x2) fun (y0 : List Go.Cx.AV × Int) => (.c (Prod.snd y0 == (0 : Int)) (opt (Go.Proofs.YtbgklljidmoahaaDoor.g_digits_UnBcd (Prod.fst y0) (↑(List.length x2) : Int)) fun (y1 : List UInt8 × Int) => (.c (Prod.snd y1 != (0 : Int)) (.r (.inl (.inr (.inr (.inr (.inl ((i1, Prod.snd y0, Bool.true)))))))) (.c (!Prod.fst y1 == x2) (.r (.inl (.inr (.inr (.inr (.inl ((i1, Prod.snd y0, Bool.true)))))))) (.r (.inl (.inr (.inr (.inr (.inl ((i1, Prod.snd y0, (↑(List.length (Prod.fst y0)) : Int) != Go.IntKind.wrap Go.IntKind.i64 (Int.tdiv (Go.IntKind.wrap Go.IntKind.i64 ((↑(List.length x2) : Int) + (1 : Int))) (2 : Int))))))))))))) (.r (.inl (.inr (.inr (.inr (.inr ((i1, Prod.snd y0))))))))))
  | .inr (.inr (.inr (.inl ((i2, i3, b2))))) => (.c (b2) (.r (.inr (Bool.false))) (.r (.inl (.inr (.inr (.inr (.inr ((i2, i3)))))))))
  | .inr (.inr (.inr (.inr ((i4, i5))))) => (opt (Go.Proofs.YtbgklljidmoahaaDoor.g_digits_Hex x3) fun (y0 : List UInt8) => (opt (Go.Proofs.YtbgklljidmoahaaDoor.g_digits_UnHex y0) fun (y1 : List Go.Cx.AV × Int) => (opt (Go.Proofs.YtbgklljidmoahaaDoor.g_comptoirlaw02_awake) fun (y2 : Bool) => (.c (y2) (.c (i4 == (0 : Int)) (.c (Prod.snd y1 == (0 : Int)) (.c (Go.Cx.bytesOf (Prod.fst y1) == Go.Cx.bytesOf x3) (opt (Go.Proofs.YtbgklljidmoahaaDoor.g_digits_Right x2 (0 : Int) (100 : Int)) fun (y3 : Bool) => (.r (.inr ((i5 == (0 : Int)) == y3)))) (.r (.inr (Bool.false)))) (.r (.inr (Bool.false)))) (.c (i4 == (4 : Int)) (.c (Prod.snd y1 == (0 : Int)) (.c (Go.Cx.bytesOf (Prod.fst y1) == Go.Cx.bytesOf x3) (opt (Go.Proofs.YtbgklljidmoahaaDoor.g_digits_Right x2 (0 : Int) (100 : Int)) fun (y3 : Bool) => (.r (.inr ((i5 == (0 : Int)) == y3)))) (.r (.inr (Bool.false)))) (.r (.inr (Bool.false)))) (.r (.inr (Bool.false))))) (.r (.inr (Bool.false)))))))
noncomputable def g_comptoirlaw02_DigitsBack (x0 : Int) (x1 : Int) (x2 : List UInt8) (x3 : List AV) : Option (Bool) := run (M_comptoirlaw02_DigitsBack x0 x1 x2 x3) (T_comptoirlaw02_DigitsBack x0 x1 x2 x3)
noncomputable def b_comptoirlaw02_DigitsBack := Tryd.f5.body.getD .skip
noncomputable def st_comptoirlaw02_DigitsBack_0 (x0 : Int) (x1 : Int) (x2 : List UInt8) (x3 : List AV) (b0 : Bool) : St := ⟨frOf 0 122 [(0, Go.Cx.AV.int Go.IntKind.u64 x0), (1, Go.Cx.AV.int Go.IntKind.i64 x1), (2, Go.Cx.AV.str x2), (3, Go.Cx.AV.slice (1 : Nat) (Go.Cx.Sh.int Go.IntKind.u8) x3 Go.Cx.SK.ro), (26, Go.Cx.AV.bool b0)], []⟩
noncomputable def st_comptoirlaw02_DigitsBack_1 (x0 : Int) (x1 : Int) (x2 : List UInt8) (x3 : List AV) (i0 : Int) (b1 : Bool) : St := ⟨frOf 0 122 [(2, Go.Cx.AV.str x2), (3, Go.Cx.AV.slice (1 : Nat) (Go.Cx.Sh.int Go.IntKind.u8) x3 Go.Cx.SK.ro), (10, Go.Cx.AV.int Go.IntKind.i64 i0), (60, Go.Cx.AV.bool b1)], []⟩
noncomputable def st_comptoirlaw02_DigitsBack_2 (x0 : Int) (x1 : Int) (x2 : List UInt8) (x3 : List AV) (i1 : Int) : St := ⟨frOf 0 122 [(2, Go.Cx.AV.str x2), (3, Go.Cx.AV.slice (1 : Nat) (Go.Cx.Sh.int Go.IntKind.u8) x3 Go.Cx.SK.ro), (10, Go.Cx.AV.int Go.IntKind.i64 i1)], []⟩
noncomputable def st_comptoirlaw02_DigitsBack_3 (x0 : Int) (x1 : Int) (x2 : List UInt8) (x3 : List AV) (i2 : Int) (i3 : Int) (b2 : Bool) : St := ⟨frOf 0 122 [(2, Go.Cx.AV.str x2), (3, Go.Cx.AV.slice (1 : Nat) (Go.Cx.Sh.int Go.IntKind.u8) x3 Go.Cx.SK.ro), (10, Go.Cx.AV.int Go.IntKind.i64 i2), (14, Go.Cx.AV.int Go.IntKind.i64 i3), (90, Go.Cx.AV.bool b2)], []⟩
noncomputable def st_comptoirlaw02_DigitsBack_4 (x0 : Int) (x1 : Int) (x2 : List UInt8) (x3 : List AV) (i4 : Int) (i5 : Int) : St := ⟨frOf 0 122 [(2, Go.Cx.AV.str x2), (3, Go.Cx.AV.slice (1 : Nat) (Go.Cx.Sh.int Go.IntKind.u8) x3 Go.Cx.SK.ro), (10, Go.Cx.AV.int Go.IntKind.i64 i4), (14, Go.Cx.AV.int Go.IntKind.i64 i5)], []⟩
noncomputable def L_comptoirlaw02_DigitsBack (x0 : Int) (x1 : Int) (x2 : List UInt8) (x3 : List AV) (Rv : Bool → Prop) : (Bool) ⊕ (Int × Bool) ⊕ (Int) ⊕ (Int × Int × Bool) ⊕ (Int × Int) → Prop
  | .inl (b0) => headC E_comptoirlaw02_DigitsBack [.r, .l, .r] b_comptoirlaw02_DigitsBack (bodyK E_comptoirlaw02_DigitsBack Tryd.f5 (outP O_comptoirlaw02_DigitsBack fun ls => Rv (tup_comptoirlaw02_DigitsBack ls))) (st_comptoirlaw02_DigitsBack_0 x0 x1 x2 x3 b0)
  | .inr (.inl ((i0, b1))) => headC E_comptoirlaw02_DigitsBack [.r, .r, .r, .r, .r, .l, .r, .l, .r, .r] b_comptoirlaw02_DigitsBack (bodyK E_comptoirlaw02_DigitsBack Tryd.f5 (outP O_comptoirlaw02_DigitsBack fun ls => Rv (tup_comptoirlaw02_DigitsBack ls))) (st_comptoirlaw02_DigitsBack_1 x0 x1 x2 x3 i0 b1)
  | .inr (.inr (.inl (i1))) => headC E_comptoirlaw02_DigitsBack [.r, .r, .r, .r, .r, .r] b_comptoirlaw02_DigitsBack (bodyK E_comptoirlaw02_DigitsBack Tryd.f5 (outP O_comptoirlaw02_DigitsBack fun ls => Rv (tup_comptoirlaw02_DigitsBack ls))) (st_comptoirlaw02_DigitsBack_2 x0 x1 x2 x3 i1)
  | .inr (.inr (.inr (.inl ((i2, i3, b2))))) => headC E_comptoirlaw02_DigitsBack [.r, .r, .r, .r, .r, .r, .r, .l, .r, .l, .r, .r] b_comptoirlaw02_DigitsBack (bodyK E_comptoirlaw02_DigitsBack Tryd.f5 (outP O_comptoirlaw02_DigitsBack fun ls => Rv (tup_comptoirlaw02_DigitsBack ls))) (st_comptoirlaw02_DigitsBack_3 x0 x1 x2 x3 i2 i3 b2)
  | .inr (.inr (.inr (.inr ((i4, i5))))) => headC E_comptoirlaw02_DigitsBack [.r, .r, .r, .r, .r, .r, .r, .r] b_comptoirlaw02_DigitsBack (bodyK E_comptoirlaw02_DigitsBack Tryd.f5 (outP O_comptoirlaw02_DigitsBack fun ls => Rv (tup_comptoirlaw02_DigitsBack ls))) (st_comptoirlaw02_DigitsBack_4 x0 x1 x2 x3 i4 i5)
set_option maxRecDepth 100000 in
theorem l_comptoirlaw02_DigitsBack_0 (x0 : Int) (x1 : Int) (x2 : List UInt8) (x3 : List AV) (Rv : Bool → Prop) (b0 : Bool) : stepC E_comptoirlaw02_DigitsBack [.r, .l, .r] b_comptoirlaw02_DigitsBack (bodyK E_comptoirlaw02_DigitsBack Tryd.f5 (outP O_comptoirlaw02_DigitsBack fun ls => Rv (tup_comptoirlaw02_DigitsBack ls))) (st_comptoirlaw02_DigitsBack_0 x0 x1 x2 x3 b0) =
  (M_comptoirlaw02_DigitsBack x0 x1 x2 x3 (.inl (b0))).fold False (Sum.elim (L_comptoirlaw02_DigitsBack x0 x1 x2 x3 Rv) Rv) := by kernel_rfl
set_option maxRecDepth 100000 in
theorem l_comptoirlaw02_DigitsBack_1 (x0 : Int) (x1 : Int) (x2 : List UInt8) (x3 : List AV) (Rv : Bool → Prop) (i0 : Int) (b1 : Bool) : stepC E_comptoirlaw02_DigitsBack [.r, .r, .r, .r, .r, .l, .r, .l, .r, .r] b_comptoirlaw02_DigitsBack (bodyK E_comptoirlaw02_DigitsBack Tryd.f5 (outP O_comptoirlaw02_DigitsBack fun ls => Rv (tup_comptoirlaw02_DigitsBack ls))) (st_comptoirlaw02_DigitsBack_1 x0 x1 x2 x3 i0 b1) =
  (M_comptoirlaw02_DigitsBack x0 x1 x2 x3 (.inr (.inl ((i0, b1))))).fold False (Sum.elim (L_comptoirlaw02_DigitsBack x0 x1 x2 x3 Rv) Rv) := by kernel_rfl
set_option maxRecDepth 100000 in
theorem l_comptoirlaw02_DigitsBack_2 (x0 : Int) (x1 : Int) (x2 : List UInt8) (x3 : List AV) (Rv : Bool → Prop) (i1 : Int) : stepC E_comptoirlaw02_DigitsBack [.r, .r, .r, .r, .r, .r] b_comptoirlaw02_DigitsBack (bodyK E_comptoirlaw02_DigitsBack Tryd.f5 (outP O_comptoirlaw02_DigitsBack fun ls => Rv (tup_comptoirlaw02_DigitsBack ls))) (st_comptoirlaw02_DigitsBack_2 x0 x1 x2 x3 i1) =
  (M_comptoirlaw02_DigitsBack x0 x1 x2 x3 (.inr (.inr (.inl (i1))))).fold False (Sum.elim (L_comptoirlaw02_DigitsBack x0 x1 x2 x3 Rv) Rv) := by kernel_rfl
set_option maxRecDepth 100000 in
theorem l_comptoirlaw02_DigitsBack_3 (x0 : Int) (x1 : Int) (x2 : List UInt8) (x3 : List AV) (Rv : Bool → Prop) (i2 : Int) (i3 : Int) (b2 : Bool) : stepC E_comptoirlaw02_DigitsBack [.r, .r, .r, .r, .r, .r, .r, .l, .r, .l, .r, .r] b_comptoirlaw02_DigitsBack (bodyK E_comptoirlaw02_DigitsBack Tryd.f5 (outP O_comptoirlaw02_DigitsBack fun ls => Rv (tup_comptoirlaw02_DigitsBack ls))) (st_comptoirlaw02_DigitsBack_3 x0 x1 x2 x3 i2 i3 b2) =
  (M_comptoirlaw02_DigitsBack x0 x1 x2 x3 (.inr (.inr (.inr (.inl ((i2, i3, b2))))))).fold False (Sum.elim (L_comptoirlaw02_DigitsBack x0 x1 x2 x3 Rv) Rv) := by kernel_rfl
set_option maxRecDepth 100000 in
theorem l_comptoirlaw02_DigitsBack_4 (x0 : Int) (x1 : Int) (x2 : List UInt8) (x3 : List AV) (Rv : Bool → Prop) (i4 : Int) (i5 : Int) : stepC E_comptoirlaw02_DigitsBack [.r, .r, .r, .r, .r, .r, .r, .r] b_comptoirlaw02_DigitsBack (bodyK E_comptoirlaw02_DigitsBack Tryd.f5 (outP O_comptoirlaw02_DigitsBack fun ls => Rv (tup_comptoirlaw02_DigitsBack ls))) (st_comptoirlaw02_DigitsBack_4 x0 x1 x2 x3 i4 i5) =
  (M_comptoirlaw02_DigitsBack x0 x1 x2 x3 (.inr (.inr (.inr (.inr ((i4, i5))))))).fold False (Sum.elim (L_comptoirlaw02_DigitsBack x0 x1 x2 x3 Rv) Rv) := by kernel_rfl
set_option maxRecDepth 100000 in
theorem e_comptoirlaw02_DigitsBack_0 (x0 : Int) (x1 : Int) (x2 : List UInt8) (x3 : List AV) (Rv : Bool → Prop) (b0 : Bool) : L_comptoirlaw02_DigitsBack x0 x1 x2 x3 Rv (.inl (b0)) = headC E_comptoirlaw02_DigitsBack [.r, .l, .r] b_comptoirlaw02_DigitsBack (bodyK E_comptoirlaw02_DigitsBack Tryd.f5 (outP O_comptoirlaw02_DigitsBack fun ls => Rv (tup_comptoirlaw02_DigitsBack ls))) (st_comptoirlaw02_DigitsBack_0 x0 x1 x2 x3 b0) := by kernel_rfl
set_option maxRecDepth 100000 in
theorem e_comptoirlaw02_DigitsBack_1 (x0 : Int) (x1 : Int) (x2 : List UInt8) (x3 : List AV) (Rv : Bool → Prop) (i0 : Int) (b1 : Bool) : L_comptoirlaw02_DigitsBack x0 x1 x2 x3 Rv (.inr (.inl ((i0, b1)))) = headC E_comptoirlaw02_DigitsBack [.r, .r, .r, .r, .r, .l, .r, .l, .r, .r] b_comptoirlaw02_DigitsBack (bodyK E_comptoirlaw02_DigitsBack Tryd.f5 (outP O_comptoirlaw02_DigitsBack fun ls => Rv (tup_comptoirlaw02_DigitsBack ls))) (st_comptoirlaw02_DigitsBack_1 x0 x1 x2 x3 i0 b1) := by kernel_rfl
set_option maxRecDepth 100000 in
theorem e_comptoirlaw02_DigitsBack_2 (x0 : Int) (x1 : Int) (x2 : List UInt8) (x3 : List AV) (Rv : Bool → Prop) (i1 : Int) : L_comptoirlaw02_DigitsBack x0 x1 x2 x3 Rv (.inr (.inr (.inl (i1)))) = headC E_comptoirlaw02_DigitsBack [.r, .r, .r, .r, .r, .r] b_comptoirlaw02_DigitsBack (bodyK E_comptoirlaw02_DigitsBack Tryd.f5 (outP O_comptoirlaw02_DigitsBack fun ls => Rv (tup_comptoirlaw02_DigitsBack ls))) (st_comptoirlaw02_DigitsBack_2 x0 x1 x2 x3 i1) := by kernel_rfl
set_option maxRecDepth 100000 in
theorem e_comptoirlaw02_DigitsBack_3 (x0 : Int) (x1 : Int) (x2 : List UInt8) (x3 : List AV) (Rv : Bool → Prop) (i2 : Int) (i3 : Int) (b2 : Bool) : L_comptoirlaw02_DigitsBack x0 x1 x2 x3 Rv (.inr (.inr (.inr (.inl ((i2, i3, b2)))))) = headC E_comptoirlaw02_DigitsBack [.r, .r, .r, .r, .r, .r, .r, .l, .r, .l, .r, .r] b_comptoirlaw02_DigitsBack (bodyK E_comptoirlaw02_DigitsBack Tryd.f5 (outP O_comptoirlaw02_DigitsBack fun ls => Rv (tup_comptoirlaw02_DigitsBack ls))) (st_comptoirlaw02_DigitsBack_3 x0 x1 x2 x3 i2 i3 b2) := by kernel_rfl
set_option maxRecDepth 100000 in
theorem e_comptoirlaw02_DigitsBack_4 (x0 : Int) (x1 : Int) (x2 : List UInt8) (x3 : List AV) (Rv : Bool → Prop) (i4 : Int) (i5 : Int) : L_comptoirlaw02_DigitsBack x0 x1 x2 x3 Rv (.inr (.inr (.inr (.inr ((i4, i5)))))) = headC E_comptoirlaw02_DigitsBack [.r, .r, .r, .r, .r, .r, .r, .r] b_comptoirlaw02_DigitsBack (bodyK E_comptoirlaw02_DigitsBack Tryd.f5 (outP O_comptoirlaw02_DigitsBack fun ls => Rv (tup_comptoirlaw02_DigitsBack ls))) (st_comptoirlaw02_DigitsBack_4 x0 x1 x2 x3 i4 i5) := by kernel_rfl
section
attribute [local irreducible] Tr.fold M_comptoirlaw02_DigitsBack L_comptoirlaw02_DigitsBack T_comptoirlaw02_DigitsBack E_comptoirlaw02_DigitsBack b_comptoirlaw02_DigitsBack bodyK headC headL stepC stepL wpX callA
set_option maxRecDepth 100000 in
theorem h_comptoirlaw02_DigitsBack (x0 : Int) (x1 : Int) (x2 : List UInt8) (x3 : List AV) (Rv : Bool → Prop) : ∀ s, (M_comptoirlaw02_DigitsBack x0 x1 x2 x3 s).fold False (Sum.elim (L_comptoirlaw02_DigitsBack x0 x1 x2 x3 Rv) Rv) → L_comptoirlaw02_DigitsBack x0 x1 x2 x3 Rv s := by
  rintro (v0 | ⟨v0, v1⟩ | v0 | ⟨v0, v1, v2⟩ | ⟨v0, v1⟩)
  · exact fun h => Eq.mpr (e_comptoirlaw02_DigitsBack_0 x0 x1 x2 x3 Rv v0) (headC_of (Eq.mpr (l_comptoirlaw02_DigitsBack_0 x0 x1 x2 x3 Rv v0) h))
  · exact fun h => Eq.mpr (e_comptoirlaw02_DigitsBack_1 x0 x1 x2 x3 Rv v0 v1) (headC_of (Eq.mpr (l_comptoirlaw02_DigitsBack_1 x0 x1 x2 x3 Rv v0 v1) h))
  · exact fun h => Eq.mpr (e_comptoirlaw02_DigitsBack_2 x0 x1 x2 x3 Rv v0) (headC_of (Eq.mpr (l_comptoirlaw02_DigitsBack_2 x0 x1 x2 x3 Rv v0) h))
  · exact fun h => Eq.mpr (e_comptoirlaw02_DigitsBack_3 x0 x1 x2 x3 Rv v0 v1 v2) (headC_of (Eq.mpr (l_comptoirlaw02_DigitsBack_3 x0 x1 x2 x3 Rv v0 v1 v2) h))
  · exact fun h => Eq.mpr (e_comptoirlaw02_DigitsBack_4 x0 x1 x2 x3 Rv v0 v1) (headC_of (Eq.mpr (l_comptoirlaw02_DigitsBack_4 x0 x1 x2 x3 Rv v0 v1) h))
set_option maxRecDepth 100000 in
theorem c_comptoirlaw02_DigitsBack (ls : List AV) (Rv : Bool → Prop) : callA E_comptoirlaw02_DigitsBack Tryd.f5 (instL ls P_comptoirlaw02_DigitsBack 0) [] (outP O_comptoirlaw02_DigitsBack fun ls => Rv (tup_comptoirlaw02_DigitsBack ls)) = (T_comptoirlaw02_DigitsBack (getI (ls.getD 0 .junk)) (getI (ls.getD 1 .junk)) (getS (ls.getD 2 .junk)) (getXs (ls.getD 3 .junk))).fold False (Sum.elim (L_comptoirlaw02_DigitsBack (getI (ls.getD 0 .junk)) (getI (ls.getD 1 .junk)) (getS (ls.getD 2 .junk)) (getXs (ls.getD 3 .junk)) Rv) Rv) := by kernel_rfl
end
theorem eok_comptoirlaw02_DigitsBack : EnOK E_comptoirlaw02_DigitsBack := TblOK.enK TYdG515t_ok _ _ _ _ _


end Go.Proofs.YtbgklljidmoahaaDoor
