/- Printed: what the functions that a statement reaches come to. -/
import Derived.Test.YtajknlhbfhemlaaDoorYiBn
namespace Go.Proofs.YtajknlhbfhemlaaDoor
open Go.Cx Go.Cx.AV
set_option linter.unusedVariables false
/- (comptoir/digits.signs).has -/
noncomputable def E_digits_signs_has : En := enK Tryd.prog T0t [] [] [] [] 0
def P_digits_signs_has : List Pat := [.leaf .str, .leaf (.int .u8)]
def O_digits_signs_has : Pat := .leaf .bool
def tup_digits_signs_has : List AV → Bool := fun ls => getB (ls.getD 0 .junk)
def res_digits_signs_has : Bool → AV := fun x => .bool (x)
noncomputable def T_digits_signs_has (x0 : List UInt8) (x1 : Int) : Tr (Bool) := (.r (Decidable.decide (Go.Lib.indexByte x0 (Nat.toUInt8 (Int.toNat x1)) ≥ (0 : Int))))
noncomputable def g_digits_signs_has (x0 : List UInt8) (x1 : Int) : Option (Bool) := (T_digits_signs_has x0 x1).val
set_option maxRecDepth 100000 in
theorem c_digits_signs_has (ls : List AV) (Rv : Bool → Prop) : callA E_digits_signs_has Tryd.f36 (instL ls P_digits_signs_has 0) [] (outP O_digits_signs_has fun ls => Rv (tup_digits_signs_has ls)) = (T_digits_signs_has (getS (ls.getD 0 .junk)) (getI (ls.getD 1 .junk))).fold False Rv := by kernel_rfl
noncomputable def S_digits_signs_has : Go.Cx.Spec := pureS (patF P_digits_signs_has fun ls => opt (g_digits_signs_has (getS (ls.getD 0 .junk)) (getI (ls.getD 1 .junk))) fun x => .r (res_digits_signs_has x))
set_option maxRecDepth 100000 in
theorem S_digits_signs_has_ok : Sound Tryd.prog 36 S_digits_signs_has :=
  pure_flat (E := E_digits_signs_has) (TblOK.enK T0t_ok _ _ _ _ _) mixed rfl Tryd.func36 (c := Tryd.f36.body.getD .skip) (by kernel_rfl) (by kernel_rfl) (pats := P_digits_signs_has) (O := O_digits_signs_has) (tup := tup_digits_signs_has) (res := res_digits_signs_has) (g := fun ls => g_digits_signs_has (getS (ls.getD 0 .junk)) (getI (ls.getD 1 .junk))) (T := fun ls => T_digits_signs_has (getS (ls.getD 0 .junk)) (getI (ls.getD 1 .junk))) (fun _ => rfl) (fun ls => by kernel_rfl) c_digits_signs_has

noncomputable def TYiG41t : FuncId → Option Go.Cx.Spec := addT T0t 36 S_digits_signs_has
theorem TYiG41t_ok : TblOK Tryd.prog TYiG41t := T0t_ok.add S_digits_signs_has_ok

/- comptoir/digits.all -/
noncomputable def E_digits_all_0fhas_ : En := enK Tryd.prog TYiG41t [] [(2, ⟨[2, 3, 4, 5, 6, 9, 10, 11, 12, 13, 14, 15, 16, 17], [], [], none, [], [], [], [], true⟩)] [] [] 0
def P_digits_all_0fhas_ : List Pat := [.leaf .str, .func 36 [.leaf .str] []]
def O_digits_all_0fhas_ : Pat := .leaf .bool
def tup_digits_all_0fhas_ : List AV → Bool := fun ls => getB (ls.getD 0 .junk)
def res_digits_all_0fhas_ : Bool → AV := fun x => .bool (x)
noncomputable def T_digits_all_0fhas_ (x0 : List UInt8) (x1 : List UInt8) : Tr ((Int) ⊕ (Bool)) := (.r (.inl ((0 : Int))))
noncomputable def M_digits_all_0fhas_ (x0 : List UInt8) (x1 : List UInt8) : Int → Tr ((Int) ⊕ (Bool))
  | i0 => (.c (Decidable.decide (i0 < (↑(List.length x0) : Int))) (.c (Decidable.decide ((0 : Int) ≤ i0)) (.c (Decidable.decide (i0 < (↑(List.length x0) : Int))) (.c (!Decidable.decide (Go.Lib.indexByte x1 (Nat.toUInt8 (UInt8.toNat (List.getD x0 (Int.toNat i0) (0 : UInt8)))) ≥ (0 : Int))) (.r (.inr (Bool.false))) (.r (.inl (Go.IntKind.wrap Go.IntKind.i64 (i0 + (1 : Int)))))) .bad) .bad) (.r (.inr (Bool.true))))
noncomputable def g_digits_all_0fhas_ (x0 : List UInt8) (x1 : List UInt8) : Option (Bool) := run (M_digits_all_0fhas_ x0 x1) (T_digits_all_0fhas_ x0 x1)
noncomputable def b_digits_all_0fhas_ := Tryd.f35.body.getD .skip
noncomputable def st_digits_all_0fhas__0 (x0 : List UInt8) (x1 : List UInt8) (i0 : Int) : St := ⟨[Go.Cx.AV.str x0, Go.Cx.AV.func (36 : Nat) [Go.Cx.AV.str x1] [], Go.Cx.AV.junk, Go.Cx.AV.junk, Go.Cx.AV.junk, Go.Cx.AV.junk, Go.Cx.AV.junk, Go.Cx.AV.int Go.IntKind.i64 (↑(List.length x0) : Int), Go.Cx.AV.int Go.IntKind.i64 i0, Go.Cx.AV.junk, Go.Cx.AV.junk, Go.Cx.AV.junk, Go.Cx.AV.junk, Go.Cx.AV.junk, Go.Cx.AV.junk, Go.Cx.AV.junk, Go.Cx.AV.junk, Go.Cx.AV.junk], []⟩
noncomputable def L_digits_all_0fhas_ (x0 : List UInt8) (x1 : List UInt8) (Rv : Bool → Prop) : Int → Prop
  | i0 => headL E_digits_all_0fhas_ [.r, .l, .r, .d] b_digits_all_0fhas_ 1000 (bodyK E_digits_all_0fhas_ Tryd.f35 (outP O_digits_all_0fhas_ fun ls => Rv (tup_digits_all_0fhas_ ls))) (st_digits_all_0fhas__0 x0 x1 i0)
set_option maxRecDepth 100000 in
theorem l_digits_all_0fhas__0 (x0 : List UInt8) (x1 : List UInt8) (Rv : Bool → Prop) (i0 : Int) : stepL E_digits_all_0fhas_ [.r, .l, .r, .d] b_digits_all_0fhas_ 1000 (bodyK E_digits_all_0fhas_ Tryd.f35 (outP O_digits_all_0fhas_ fun ls => Rv (tup_digits_all_0fhas_ ls))) (st_digits_all_0fhas__0 x0 x1 i0) =
  (M_digits_all_0fhas_ x0 x1 (i0)).fold False (Sum.elim (L_digits_all_0fhas_ x0 x1 Rv) Rv) := by kernel_rfl
set_option maxRecDepth 100000 in
theorem e_digits_all_0fhas__0 (x0 : List UInt8) (x1 : List UInt8) (Rv : Bool → Prop) (i0 : Int) : L_digits_all_0fhas_ x0 x1 Rv (i0) = headL E_digits_all_0fhas_ [.r, .l, .r, .d] b_digits_all_0fhas_ 1000 (bodyK E_digits_all_0fhas_ Tryd.f35 (outP O_digits_all_0fhas_ fun ls => Rv (tup_digits_all_0fhas_ ls))) (st_digits_all_0fhas__0 x0 x1 i0) := by kernel_rfl
section
attribute [local irreducible] Tr.fold M_digits_all_0fhas_ L_digits_all_0fhas_ T_digits_all_0fhas_ E_digits_all_0fhas_ b_digits_all_0fhas_ bodyK headC headL stepC stepL wpX callA
set_option maxRecDepth 100000 in
theorem h_digits_all_0fhas_ (x0 : List UInt8) (x1 : List UInt8) (Rv : Bool → Prop) : ∀ s, (M_digits_all_0fhas_ x0 x1 s).fold False (Sum.elim (L_digits_all_0fhas_ x0 x1 Rv) Rv) → L_digits_all_0fhas_ x0 x1 Rv s := by
  rintro (v0)
  · exact fun h => Eq.mpr (e_digits_all_0fhas__0 x0 x1 Rv v0) (headL_of (Eq.mpr (l_digits_all_0fhas__0 x0 x1 Rv v0) h))
set_option maxRecDepth 100000 in
theorem c_digits_all_0fhas_ (ls : List AV) (Rv : Bool → Prop) : callA E_digits_all_0fhas_ Tryd.f35 (instL ls P_digits_all_0fhas_ 0) [] (outP O_digits_all_0fhas_ fun ls => Rv (tup_digits_all_0fhas_ ls)) = (T_digits_all_0fhas_ (getS (ls.getD 0 .junk)) (getS (ls.getD 1 .junk))).fold False (Sum.elim (L_digits_all_0fhas_ (getS (ls.getD 0 .junk)) (getS (ls.getD 1 .junk)) Rv) Rv) := by kernel_rfl
end
noncomputable def S_digits_all_0fhas_ : Go.Cx.Spec := pureS (patF P_digits_all_0fhas_ fun ls => opt (g_digits_all_0fhas_ (getS (ls.getD 0 .junk)) (getS (ls.getD 1 .junk))) fun x => .r (res_digits_all_0fhas_ x))
set_option maxRecDepth 100000 in
theorem S_digits_all_0fhas__ok : Sound Tryd.prog 35 S_digits_all_0fhas_ :=
  pure_mach (E := E_digits_all_0fhas_) (TblOK.enK TYiG41t_ok _ _ _ _ _) mixed rfl Tryd.func35 (c := Tryd.f35.body.getD .skip) (by kernel_rfl) (by kernel_rfl) (pats := P_digits_all_0fhas_) (O := O_digits_all_0fhas_) (tup := tup_digits_all_0fhas_) (res := res_digits_all_0fhas_) (g := fun ls => g_digits_all_0fhas_ (getS (ls.getD 0 .junk)) (getS (ls.getD 1 .junk))) (T := fun ls => T_digits_all_0fhas_ (getS (ls.getD 0 .junk)) (getS (ls.getD 1 .junk))) (step := fun ls => M_digits_all_0fhas_ (getS (ls.getD 0 .junk)) (getS (ls.getD 1 .junk))) (L := fun ls => L_digits_all_0fhas_ (getS (ls.getD 0 .junk)) (getS (ls.getD 1 .junk))) (fun _ => rfl) (fun ls => by kernel_rfl) c_digits_all_0fhas_ (fun ls Rv => h_digits_all_0fhas_ (getS (ls.getD 0 .junk)) (getS (ls.getD 1 .junk)) Rv)

noncomputable def TYiG42t : FuncId → Option Go.Cx.Spec := addT TYiG41t 35 S_digits_all_0fhas_
theorem TYiG42t_ok : TblOK Tryd.prog TYiG42t := TYiG41t_ok.add S_digits_all_0fhas__ok

/- comptoir/digits.Right -/
noncomputable def E_digits_Right : En := enK Tryd.prog TYiG42t [] [] [] [] 0
def P_digits_Right : List Pat := [.leaf .str, .leaf (.int .i64), .leaf (.int .i64)]
def O_digits_Right : Pat := .leaf .bool
def tup_digits_Right : List AV → Bool := fun ls => getB (ls.getD 0 .junk)
def res_digits_Right : Bool → AV := fun x => .bool (x)
noncomputable def T_digits_Right (x0 : List UInt8) (x1 : Int) (x2 : Int) : Tr (Bool) := (.c (Decidable.decide ((↑(List.length x0) : Int) ≥ x1)) (.c (Decidable.decide ((↑(List.length x0) : Int) ≤ x2)) (opt (Go.Proofs.YtajknlhbfhemlaaDoor.g_digits_all_0fhas_ x0 [(48 : UInt8), (49 : UInt8), (50 : UInt8), (51 : UInt8), (52 : UInt8), (53 : UInt8), (54 : UInt8), (55 : UInt8), (56 : UInt8), (57 : UInt8)]) fun (y0 : Bool) => (.r (y0))) (.r (Bool.false))) (.r (Bool.false)))
noncomputable def g_digits_Right (x0 : List UInt8) (x1 : Int) (x2 : Int) : Option (Bool) := (T_digits_Right x0 x1 x2).val
set_option maxRecDepth 100000 in
theorem c_digits_Right (ls : List AV) (Rv : Bool → Prop) : callA E_digits_Right Tryd.f17 (instL ls P_digits_Right 0) [] (outP O_digits_Right fun ls => Rv (tup_digits_Right ls)) = (T_digits_Right (getS (ls.getD 0 .junk)) (getI (ls.getD 1 .junk)) (getI (ls.getD 2 .junk))).fold False Rv := by kernel_rfl
noncomputable def S_digits_Right : Go.Cx.Spec := pureS (patF P_digits_Right fun ls => opt (g_digits_Right (getS (ls.getD 0 .junk)) (getI (ls.getD 1 .junk)) (getI (ls.getD 2 .junk))) fun x => .r (res_digits_Right x))
set_option maxRecDepth 100000 in
theorem S_digits_Right_ok : Sound Tryd.prog 17 S_digits_Right :=
  pure_flat (E := E_digits_Right) (TblOK.enK TYiG42t_ok _ _ _ _ _) mixed rfl Tryd.func17 (c := Tryd.f17.body.getD .skip) (by kernel_rfl) (by kernel_rfl) (pats := P_digits_Right) (O := O_digits_Right) (tup := tup_digits_Right) (res := res_digits_Right) (g := fun ls => g_digits_Right (getS (ls.getD 0 .junk)) (getI (ls.getD 1 .junk)) (getI (ls.getD 2 .junk))) (T := fun ls => T_digits_Right (getS (ls.getD 0 .junk)) (getI (ls.getD 1 .junk)) (getI (ls.getD 2 .junk))) (fun _ => rfl) (fun ls => by kernel_rfl) c_digits_Right

noncomputable def TYiG43t : FuncId → Option Go.Cx.Spec := addT TYiG42t 17 S_digits_Right
theorem TYiG43t_ok : TblOK Tryd.prog TYiG43t := TYiG42t_ok.add S_digits_Right_ok

/- (comptoir/bitmap.bits).set -/
noncomputable def E_bitmap_bits_set : En := enKB Tryd.prog TYiG43t [] [] [] [] 1 1 false
def P_bitmap_bits_set : List Pat := [.own 0 0 1, .leaf (.int .i64)]
def Q_bitmap_bits_set : List OPat := [.grow 5 0 1 (.int .u8)]
def O_bitmap_bits_set : Pat := .tuple []
def OO_bitmap_bits_set : List OPat := [.grow 5 0 1 (.int .u8)]
def tup_bitmap_bits_set : List AV → List AV := fun ls => getXs (ls.getD 0 .junk)
def res_bitmap_bits_set : List AV → AV × List Ob := fun x => (.tuple [], [.grow 5 0 1 (.int .u8) (x)])
noncomputable def T_bitmap_bits_set (x0 : Int) (x1 : List AV) : Tr (List AV) := (.c (Decidable.decide ((0 : Int) ≤ Go.IntKind.wrap Go.IntKind.i64 (Int.tdiv (Go.IntKind.wrap Go.IntKind.i64 (x0 - (1 : Int))) (8 : Int)))) (.c (Decidable.decide (Go.IntKind.wrap Go.IntKind.i64 (Int.tdiv (Go.IntKind.wrap Go.IntKind.i64 (x0 - (1 : Int))) (8 : Int)) < (↑(List.length x1) : Int))) (.c (List.length x1 == List.length x1) (.c (Decidable.decide (Int.toNat (Go.IntKind.wrap Go.IntKind.i64 (Int.tdiv (Go.IntKind.wrap Go.IntKind.i64 (x0 - (1 : Int))) (8 : Int))) < List.length x1)) (.c (Decidable.decide ((0 : Int) ≤ Go.IntKind.wrap Go.IntKind.i64 ((7 : Int) - Int.tmod (Go.IntKind.wrap Go.IntKind.i64 (x0 - (1 : Int))) (8 : Int)))) (.c (Decidable.decide ((0 : Int) ≤ Go.IntKind.wrap Go.IntKind.i64 (Int.tdiv (Go.IntKind.wrap Go.IntKind.i64 (x0 - (1 : Int))) (8 : Int)))) (.c (Decidable.decide (Go.IntKind.wrap Go.IntKind.i64 (Int.tdiv (Go.IntKind.wrap Go.IntKind.i64 (x0 - (1 : Int))) (8 : Int)) < (↑(List.length x1) : Int))) (.c (List.length x1 == List.length x1) (.c (Decidable.decide (Int.toNat (Go.IntKind.wrap Go.IntKind.i64 (Int.tdiv (Go.IntKind.wrap Go.IntKind.i64 (x0 - (1 : Int))) (8 : Int))) < List.length x1)) (.r (List.set x1 (Int.toNat (Go.IntKind.wrap Go.IntKind.i64 (Int.tdiv (Go.IntKind.wrap Go.IntKind.i64 (x0 - (1 : Int))) (8 : Int)))) (Go.Cx.AV.int Go.IntKind.u8 (Go.Cx.bitsA Go.BinOp.or Go.IntKind.u8 (Go.Cx.getI (List.getD x1 (Int.toNat (Go.IntKind.wrap Go.IntKind.i64 (Int.tdiv (Go.IntKind.wrap Go.IntKind.i64 (x0 - (1 : Int))) (8 : Int)))) (Go.Cx.AV.int Go.IntKind.u8 (0 : Int)))) (Go.Cx.shlA Go.IntKind.u8 (1 : Int) (Go.IntKind.wrap Go.IntKind.i64 ((7 : Int) - Int.tmod (Go.IntKind.wrap Go.IntKind.i64 (x0 - (1 : Int))) (8 : Int)))))))) .bad) .bad) .bad) .bad) .bad) .bad) .bad) .bad) .bad)
noncomputable def g_bitmap_bits_set (x0 : Int) (x1 : List AV) : Option (List AV) := (T_bitmap_bits_set x0 x1).val
set_option maxRecDepth 100000 in
theorem c_bitmap_bits_set (ls : List AV) (Rv : List AV → Prop) : callA E_bitmap_bits_set Tryd.f44 (instL ls P_bitmap_bits_set 0) (instH ls Q_bitmap_bits_set 1) (outH O_bitmap_bits_set OO_bitmap_bits_set fun ls => Rv (tup_bitmap_bits_set ls)) = (T_bitmap_bits_set (getI (ls.getD 0 .junk)) (getXs (ls.getD 1 .junk))).fold False Rv := by kernel_rfl
noncomputable def S_bitmap_bits_set : Go.Cx.Spec := heapS (patH P_bitmap_bits_set Q_bitmap_bits_set fun ls => opt (g_bitmap_bits_set (getI (ls.getD 0 .junk)) (getXs (ls.getD 1 .junk))) fun x => .r (res_bitmap_bits_set x))
set_option maxRecDepth 100000 in
theorem S_bitmap_bits_set_ok : Sound Tryd.prog 44 S_bitmap_bits_set :=
  heap_flat (E := E_bitmap_bits_set) (TblOK.enKB TYiG43t_ok _ _ _ _ _ _ _) mixed Tryd.func44 (c := Tryd.f44.body.getD .skip) (by kernel_rfl) (by kernel_rfl) (by decide) (by decide) (pats := P_bitmap_bits_set) (ops := Q_bitmap_bits_set) (OO := OO_bitmap_bits_set) (O := O_bitmap_bits_set) (tup := tup_bitmap_bits_set) (res := res_bitmap_bits_set) (g := fun ls => g_bitmap_bits_set (getI (ls.getD 0 .junk)) (getXs (ls.getD 1 .junk))) (T := fun ls => T_bitmap_bits_set (getI (ls.getD 0 .junk)) (getXs (ls.getD 1 .junk))) (fun _ => rfl) (fun ls => by kernel_rfl) c_bitmap_bits_set

noncomputable def TYiG44t : FuncId → Option Go.Cx.Spec := addT TYiG43t 44 S_bitmap_bits_set
theorem TYiG44t_ok : TblOK Tryd.prog TYiG44t := TYiG43t_ok.add S_bitmap_bits_set_ok

/- comptoir/bitmap.Write -/
noncomputable def E_bitmap_Write : En := enK Tryd.prog TYiG44t [30, 35] [(3, ⟨[1, 2, 3, 5, 6, 7, 8, 9, 10, 14, 15, 16, 17, 18, 19, 20, 21, 22, 23, 24, 25, 26, 27, 28, 29, 30, 31, 32, 33, 34, 35, 36, 37, 38, 39, 40, 41, 42, 43, 44, 45, 46, 47, 48, 49, 50], [], [], none, [], [], [], [], false⟩), (16, ⟨[0, 1, 2, 3, 4, 5, 6, 9, 10, 11, 12, 13, 14, 15, 16, 17, 18, 19, 20, 21, 22, 23, 24, 25, 26, 27, 28, 29, 30, 31, 32, 33, 34, 35, 36, 37, 38, 39, 43, 44, 45, 46, 47, 48, 49, 50], [], [], none, [7, 8], [], [], [], false⟩)] [] [] 0
def P_bitmap_Write : List Pat := [.leaf (.slice 1 (.int .i64))]
def O_bitmap_Write : Pat := .tuple [.leaf (.slice 1 (.int .u8)), .leaf (.int .i64)]
def tup_bitmap_Write : List AV → List AV × Int := fun ls => (getXs (ls.getD 0 .junk), getI (ls.getD 1 .junk))
def res_bitmap_Write : List AV × Int → AV := fun x => .tuple [.slice 1 (.int .u8) (x.1) .ro, .int .i64 (x.2)]
noncomputable def T_bitmap_Write (x0 : List AV) : Tr (((Int × Int) ⊕ (Int × List AV) ⊕ (Int × List AV)) ⊕ (List AV × Int)) := (.r (.inl (.inl (((1 : Int), (0 : Int))))))
noncomputable def M_bitmap_Write (x0 : List AV) : (Int × Int) ⊕ (Int × List AV) ⊕ (Int × List AV) → Tr (((Int × Int) ⊕ (Int × List AV) ⊕ (Int × List AV)) ⊕ (List AV × Int))
  | .inl ((i0, i1)) => (.c (Decidable.decide (i1 < (↑(List.length x0) : Int))) (.c (Decidable.decide ((0 : Int) ≤ i1)) (.c (Decidable.decide (i1 < (↑(List.length x0) : Int))) (.c (Decidable.decide (Go.Cx.getI (List.getD x0 (Int.toNat i1) (Go.Cx.AV.int Go.IntKind.i64 (0 : Int))) ≤ i0)) (.r (.inr (([], (1 : Int))))) (.c (Decidable.decide (Go.Cx.getI (List.getD x0 (Int.toNat i1) (Go.Cx.AV.int Go.IntKind.i64 (0 : Int))) > (128 : Int))) (.r (.inr (([], (1 : Int))))) (.c (Go.Cx.getI (List.getD x0 (Int.toNat i1) (Go.Cx.AV.int Go.IntKind.i64 (0 : Int))) == (65 : Int)) (.r (.inr (([], (1 : Int))))) (.r (.inl (.inl ((Go.Cx.getI (List.getD x0 (Int.toNat i1) (Go.Cx.AV.int Go.IntKind.i64 (0 : Int))), Go.IntKind.wrap Go.IntKind.i64 (i1 + (1 : Int)))))))))) .bad) .bad) (.c (Decidable.decide (i0 > (64 : Int))) (.r (.inl (.inr (.inr (((0 : Int), [Go.Cx.AV.int Go.IntKind.u8 (128 : Int), Go.Cx.AV.int Go.IntKind.u8 (0 : Int), Go.Cx.AV.int Go.IntKind.u8 (0 : Int), Go.Cx.AV.int Go.IntKind.u8 (0 : Int), Go.Cx.AV.int Go.IntKind.u8 (0 : Int), Go.Cx.AV.int Go.IntKind.u8 (0 : Int), Go.Cx.AV.int Go.IntKind.u8 (0 : Int), Go.Cx.AV.int Go.IntKind.u8 (0 : Int), Go.Cx.AV.int Go.IntKind.u8 (0 : Int), Go.Cx.AV.int Go.IntKind.u8 (0 : Int), Go.Cx.AV.int Go.IntKind.u8 (0 : Int), Go.Cx.AV.int Go.IntKind.u8 (0 : Int), Go.Cx.AV.int Go.IntKind.u8 (0 : Int), Go.Cx.AV.int Go.IntKind.u8 (0 : Int), Go.Cx.AV.int Go.IntKind.u8 (0 : Int), Go.Cx.AV.int Go.IntKind.u8 (0 : Int)])))))) (.r (.inl (.inr (.inl (((0 : Int), [Go.Cx.AV.int Go.IntKind.u8 (0 : Int), Go.Cx.AV.int Go.IntKind.u8 (0 : Int), Go.Cx.AV.int Go.IntKind.u8 (0 : Int), Go.Cx.AV.int Go.IntKind.u8 (0 : Int), Go.Cx.AV.int Go.IntKind.u8 (0 : Int), Go.Cx.AV.int Go.IntKind.u8 (0 : Int), Go.Cx.AV.int Go.IntKind.u8 (0 : Int), Go.Cx.AV.int Go.IntKind.u8 (0 : Int)]))))))))
  | .inr (.inl ((i2, l0))) => (.c (Decidable.decide (i2 < (↑(List.length x0) : Int))) (.c (Decidable.decide ((0 : Int) ≤ i2)) (.c (Decidable.decide (i2 < (↑(List.length x0) : Int))) (.c (List.length l0 == List.length l0) (opt (Go.Proofs.YtajknlhbfhemlaaDoor.g_bitmap_bits_set (Go.Cx.getI (List.getD x0 (Int.toNat i2) (Go.Cx.AV.int Go.IntKind.i64 (0 : Int)))) l0) fun (y0 : List Go.Cx.AV) => (.c (List.length l0 == List.length y0) (.c (List.length l0 == List.length y0) (.r (.inl (.inr (.inl ((Go.IntKind.wrap Go.IntKind.i64 (i2 + (1 : Int)), y0)))))) .bad) .bad)) .bad) .bad) .bad) (.c (List.length l0 == List.length l0) (.r (.inr ((l0, (0 : Int))))) .bad))
  | .inr (.inr ((i3, l1))) => (.c (Decidable.decide (i3 < (↑(List.length x0) : Int))) (.c (Decidable.decide ((0 : Int) ≤ i3)) (.c (Decidable.decide (i3 < (↑(List.length x0) : Int))) (.c (List.length l1 == List.length l1) (opt (Go.Proofs.YtajknlhbfhemlaaDoor.g_bitmap_bits_set (Go.Cx.getI (List.getD x0 (Int.toNat i3) (Go.Cx.AV.int Go.IntKind.i64 (0 : Int)))) l1) fun (y0 : List Go.Cx.AV) => (.c (List.length l1 == List.length y0) (.c (List.length l1 == List.length y0) (.r (.inl (.inr (.inr ((Go.IntKind.wrap Go.IntKind.i64 (i3 + (1 : Int)), y0)))))) .bad) .bad)) .bad) .bad) .bad) (.c (List.length l1 == List.length l1) (.r (.inr ((l1, (0 : Int))))) .bad))
noncomputable def g_bitmap_Write (x0 : List AV) : Option (List AV × Int) := run (M_bitmap_Write x0) (T_bitmap_Write x0)
noncomputable def b_bitmap_Write := Tryd.f24.body.getD .skip
noncomputable def st_bitmap_Write_0 (x0 : List AV) (i0 : Int) (i1 : Int) : St := ⟨frOf 0 51 [(0, Go.Cx.AV.slice (1 : Nat) (Go.Cx.Sh.int Go.IntKind.i64) x0 Go.Cx.SK.ro), (4, Go.Cx.AV.int Go.IntKind.i64 i0), (11, Go.Cx.AV.slice (1 : Nat) (Go.Cx.Sh.int Go.IntKind.i64) x0 Go.Cx.SK.ro), (12, Go.Cx.AV.int Go.IntKind.i64 (↑(List.length x0) : Int)), (13, Go.Cx.AV.int Go.IntKind.i64 i1)], []⟩
noncomputable def st_bitmap_Write_1 (x0 : List AV) (i2 : Int) (l0 : List AV) : St := ⟨frOf 0 51 [(7, Go.Cx.AV.oslice (0 : Nat) (0 : Nat) (List.length l0)), (8, Go.Cx.AV.func (44 : Nat) [Go.Cx.AV.oslice (0 : Nat) (0 : Nat) (List.length l0)] []), (40, Go.Cx.AV.slice (1 : Nat) (Go.Cx.Sh.int Go.IntKind.i64) x0 Go.Cx.SK.ro), (41, Go.Cx.AV.int Go.IntKind.i64 (↑(List.length x0) : Int)), (42, Go.Cx.AV.int Go.IntKind.i64 i2)], [Go.Cx.Ob.grow (5 : Nat) (0 : Nat) (1 : Nat) (Go.Cx.Sh.int Go.IntKind.u8) l0]⟩
noncomputable def st_bitmap_Write_2 (x0 : List AV) (i3 : Int) (l1 : List AV) : St := ⟨frOf 0 51 [(7, Go.Cx.AV.oslice (1 : Nat) (0 : Nat) (List.length l1)), (8, Go.Cx.AV.func (44 : Nat) [Go.Cx.AV.oslice (1 : Nat) (0 : Nat) (List.length l1)] []), (40, Go.Cx.AV.slice (1 : Nat) (Go.Cx.Sh.int Go.IntKind.i64) x0 Go.Cx.SK.ro), (41, Go.Cx.AV.int Go.IntKind.i64 (↑(List.length x0) : Int)), (42, Go.Cx.AV.int Go.IntKind.i64 i3)], [Go.Cx.Ob.grow (5 : Nat) (0 : Nat) (1 : Nat) (Go.Cx.Sh.int Go.IntKind.u8) [Go.Cx.AV.int Go.IntKind.u8 (0 : Int), Go.Cx.AV.int Go.IntKind.u8 (0 : Int), Go.Cx.AV.int Go.IntKind.u8 (0 : Int), Go.Cx.AV.int Go.IntKind.u8 (0 : Int), Go.Cx.AV.int Go.IntKind.u8 (0 : Int), Go.Cx.AV.int Go.IntKind.u8 (0 : Int), Go.Cx.AV.int Go.IntKind.u8 (0 : Int), Go.Cx.AV.int Go.IntKind.u8 (0 : Int)], Go.Cx.Ob.grow (5 : Nat) (0 : Nat) (1 : Nat) (Go.Cx.Sh.int Go.IntKind.u8) l1]⟩
noncomputable def L_bitmap_Write (x0 : List AV) (Rv : List AV × Int → Prop) : (Int × Int) ⊕ (Int × List AV) ⊕ (Int × List AV) → Prop
  | .inl ((i0, i1)) => headL E_bitmap_Write [.r, .r, .l, .r, .d] b_bitmap_Write 0 (bodyK E_bitmap_Write Tryd.f24 (outP O_bitmap_Write fun ls => Rv (tup_bitmap_Write ls))) (st_bitmap_Write_0 x0 i0 i1)
  | .inr (.inl ((i2, l0))) => headL E_bitmap_Write [.r, .r, .r, .r, .r, .r, .l, .r, .d] b_bitmap_Write 1 (bodyK E_bitmap_Write Tryd.f24 (outP O_bitmap_Write fun ls => Rv (tup_bitmap_Write ls))) (st_bitmap_Write_1 x0 i2 l0)
  | .inr (.inr ((i3, l1))) => headL E_bitmap_Write [.r, .r, .r, .r, .r, .r, .l, .r, .d] b_bitmap_Write 2 (bodyK E_bitmap_Write Tryd.f24 (outP O_bitmap_Write fun ls => Rv (tup_bitmap_Write ls))) (st_bitmap_Write_2 x0 i3 l1)
set_option maxRecDepth 100000 in
theorem l_bitmap_Write_0 (x0 : List AV) (Rv : List AV × Int → Prop) (i0 : Int) (i1 : Int) : stepL E_bitmap_Write [.r, .r, .l, .r, .d] b_bitmap_Write 0 (bodyK E_bitmap_Write Tryd.f24 (outP O_bitmap_Write fun ls => Rv (tup_bitmap_Write ls))) (st_bitmap_Write_0 x0 i0 i1) =
  (M_bitmap_Write x0 (.inl ((i0, i1)))).fold False (Sum.elim (L_bitmap_Write x0 Rv) Rv) := by kernel_rfl
set_option maxRecDepth 100000 in
theorem l_bitmap_Write_1 (x0 : List AV) (Rv : List AV × Int → Prop) (i2 : Int) (l0 : List AV) : stepL E_bitmap_Write [.r, .r, .r, .r, .r, .r, .l, .r, .d] b_bitmap_Write 1 (bodyK E_bitmap_Write Tryd.f24 (outP O_bitmap_Write fun ls => Rv (tup_bitmap_Write ls))) (st_bitmap_Write_1 x0 i2 l0) =
  (M_bitmap_Write x0 (.inr (.inl ((i2, l0))))).fold False (Sum.elim (L_bitmap_Write x0 Rv) Rv) := by kernel_rfl
set_option maxRecDepth 100000 in
theorem l_bitmap_Write_2 (x0 : List AV) (Rv : List AV × Int → Prop) (i3 : Int) (l1 : List AV) : stepL E_bitmap_Write [.r, .r, .r, .r, .r, .r, .l, .r, .d] b_bitmap_Write 2 (bodyK E_bitmap_Write Tryd.f24 (outP O_bitmap_Write fun ls => Rv (tup_bitmap_Write ls))) (st_bitmap_Write_2 x0 i3 l1) =
  (M_bitmap_Write x0 (.inr (.inr ((i3, l1))))).fold False (Sum.elim (L_bitmap_Write x0 Rv) Rv) := by kernel_rfl
set_option maxRecDepth 100000 in
theorem e_bitmap_Write_0 (x0 : List AV) (Rv : List AV × Int → Prop) (i0 : Int) (i1 : Int) : L_bitmap_Write x0 Rv (.inl ((i0, i1))) = headL E_bitmap_Write [.r, .r, .l, .r, .d] b_bitmap_Write 0 (bodyK E_bitmap_Write Tryd.f24 (outP O_bitmap_Write fun ls => Rv (tup_bitmap_Write ls))) (st_bitmap_Write_0 x0 i0 i1) := by kernel_rfl
set_option maxRecDepth 100000 in
theorem e_bitmap_Write_1 (x0 : List AV) (Rv : List AV × Int → Prop) (i2 : Int) (l0 : List AV) : L_bitmap_Write x0 Rv (.inr (.inl ((i2, l0)))) = headL E_bitmap_Write [.r, .r, .r, .r, .r, .r, .l, .r, .d] b_bitmap_Write 1 (bodyK E_bitmap_Write Tryd.f24 (outP O_bitmap_Write fun ls => Rv (tup_bitmap_Write ls))) (st_bitmap_Write_1 x0 i2 l0) := by kernel_rfl
set_option maxRecDepth 100000 in
theorem e_bitmap_Write_2 (x0 : List AV) (Rv : List AV × Int → Prop) (i3 : Int) (l1 : List AV) : L_bitmap_Write x0 Rv (.inr (.inr ((i3, l1)))) = headL E_bitmap_Write [.r, .r, .r, .r, .r, .r, .l, .r, .d] b_bitmap_Write 2 (bodyK E_bitmap_Write Tryd.f24 (outP O_bitmap_Write fun ls => Rv (tup_bitmap_Write ls))) (st_bitmap_Write_2 x0 i3 l1) := by kernel_rfl
section
attribute [local irreducible] Tr.fold M_bitmap_Write L_bitmap_Write T_bitmap_Write E_bitmap_Write b_bitmap_Write bodyK headC headL stepC stepL wpX callA
set_option maxRecDepth 100000 in
theorem h_bitmap_Write (x0 : List AV) (Rv : List AV × Int → Prop) : ∀ s, (M_bitmap_Write x0 s).fold False (Sum.elim (L_bitmap_Write x0 Rv) Rv) → L_bitmap_Write x0 Rv s := by
  rintro (⟨v0, v1⟩ | ⟨v0, v1⟩ | ⟨v0, v1⟩)
  · exact fun h => Eq.mpr (e_bitmap_Write_0 x0 Rv v0 v1) (headL_of (Eq.mpr (l_bitmap_Write_0 x0 Rv v0 v1) h))
  · exact fun h => Eq.mpr (e_bitmap_Write_1 x0 Rv v0 v1) (headL_of (Eq.mpr (l_bitmap_Write_1 x0 Rv v0 v1) h))
  · exact fun h => Eq.mpr (e_bitmap_Write_2 x0 Rv v0 v1) (headL_of (Eq.mpr (l_bitmap_Write_2 x0 Rv v0 v1) h))
set_option maxRecDepth 100000 in
theorem c_bitmap_Write (ls : List AV) (Rv : List AV × Int → Prop) : callA E_bitmap_Write Tryd.f24 (instL ls P_bitmap_Write 0) [] (outP O_bitmap_Write fun ls => Rv (tup_bitmap_Write ls)) = (T_bitmap_Write (getXs (ls.getD 0 .junk))).fold False (Sum.elim (L_bitmap_Write (getXs (ls.getD 0 .junk)) Rv) Rv) := by kernel_rfl
end
noncomputable def S_bitmap_Write : Go.Cx.Spec := pureS (patF P_bitmap_Write fun ls => opt (g_bitmap_Write (getXs (ls.getD 0 .junk))) fun x => .r (res_bitmap_Write x))
set_option maxRecDepth 100000 in
theorem S_bitmap_Write_ok : Sound Tryd.prog 24 S_bitmap_Write :=
  pure_mach (E := E_bitmap_Write) (TblOK.enK TYiG44t_ok _ _ _ _ _) mixed rfl Tryd.func24 (c := Tryd.f24.body.getD .skip) (by kernel_rfl) (by kernel_rfl) (pats := P_bitmap_Write) (O := O_bitmap_Write) (tup := tup_bitmap_Write) (res := res_bitmap_Write) (g := fun ls => g_bitmap_Write (getXs (ls.getD 0 .junk))) (T := fun ls => T_bitmap_Write (getXs (ls.getD 0 .junk))) (step := fun ls => M_bitmap_Write (getXs (ls.getD 0 .junk))) (L := fun ls => L_bitmap_Write (getXs (ls.getD 0 .junk))) (fun _ => rfl) (fun ls => by kernel_rfl) c_bitmap_Write (fun ls Rv => h_bitmap_Write (getXs (ls.getD 0 .junk)) Rv)

noncomputable def TYiG45t : FuncId → Option Go.Cx.Spec := addT TYiG44t 24 S_bitmap_Write
theorem TYiG45t_ok : TblOK Tryd.prog TYiG45t := TYiG44t_ok.add S_bitmap_Write_ok

/- slices.Grow[[]byte,byte] -/
noncomputable def E_slices_Grow_byte_byte : En := enKB Tryd.prog TYiG45t [25] [(3, ⟨[2, 3, 4, 5, 6, 7, 8, 9, 10, 11, 12, 13, 14, 15, 16, 17, 18, 19, 20, 21, 22, 23, 24, 25, 26], [], [], some 1000, [], [], [], [], true⟩), (6, ⟨[1, 2, 3, 4, 5, 6, 7, 8, 9, 10, 11, 12, 13, 14, 15, 16, 17, 18, 19, 20, 21, 22, 23, 24, 25, 26], [], [], some 1000, [], [], [], [], true⟩)] [(6, [(0, 5, (.int .u8))])] [] 1 0 true
def P_slices_Grow_byte_byte : List Pat := [.lit .nilsl, .leaf (.int .i64)]
def Q_slices_Grow_byte_byte : List OPat := []
def O_slices_Grow_byte_byte : Pat := .own 0 0 0
def OO_slices_Grow_byte_byte : List OPat := [.grow 5 0 1 (.int .u8)]
def tup_slices_Grow_byte_byte : List AV → List AV := fun ls => getXs (ls.getD 0 .junk)
def res_slices_Grow_byte_byte : List AV → AV × List Ob := fun x => (.oslice 0 0 (List.length (x)), [.grow 5 0 1 (.int .u8) (x)])
noncomputable def T_slices_Grow_byte_byte (x0 : Int) : Tr (((Unit) ⊕ (Unit)) ⊕ (List AV)) := (.c (Decidable.decide (x0 < (0 : Int))) .bad (.r (.inl (.inl (())))))
noncomputable def M_slices_Grow_byte_byte (x0 : Int) : (Unit) ⊕ (Unit) → Tr (((Unit) ⊕ (Unit)) ⊕ (List AV))
  | .inl (()) => (.c (Decidable.decide (Go.IntKind.wrap Go.IntKind.i64 (x0 - (0 : Int)) > (0 : Int))) (.c (Decidable.decide ((0 : Int) < Go.IntKind.wrap Go.IntKind.i64 (x0 - (0 : Int)))) (.c (Decidable.decide (List.length (List.replicate (Int.toNat (Go.IntKind.wrap Go.IntKind.i64 (x0 - (0 : Int)))) (Go.Cx.AV.int Go.IntKind.u8 (0 : Int))) * (2 : Nat) < (70368744177664 : Nat))) (.c (List.length (List.replicate (Int.toNat (Go.IntKind.wrap Go.IntKind.i64 (x0 - (0 : Int)))) (Go.Cx.AV.int Go.IntKind.u8 (0 : Int))) == List.length (List.replicate (Int.toNat (Go.IntKind.wrap Go.IntKind.i64 (x0 - (0 : Int)))) (Go.Cx.AV.int Go.IntKind.u8 (0 : Int)))) (.r (.inl (.inr (())))) .bad) .bad) .bad) (.r (.inl (.inr (())))))
  | .inr (()) => (.c ((0 : Nat) == List.length ([] : List AV)) (.r (.inr ([]))) .bad)
noncomputable def g_slices_Grow_byte_byte (x0 : Int) : Option (List AV) := run (M_slices_Grow_byte_byte x0) (T_slices_Grow_byte_byte x0)
noncomputable def b_slices_Grow_byte_byte := Tryd.f45.body.getD .skip
noncomputable def st_slices_Grow_byte_byte_0 (x0 : Int) : St := ⟨[Go.Cx.AV.nilsl, Go.Cx.AV.int Go.IntKind.i64 x0, Go.Cx.AV.junk, Go.Cx.AV.junk, Go.Cx.AV.junk, Go.Cx.AV.junk, Go.Cx.AV.junk, Go.Cx.AV.junk, Go.Cx.AV.junk, Go.Cx.AV.junk, Go.Cx.AV.junk, Go.Cx.AV.junk, Go.Cx.AV.junk, Go.Cx.AV.junk, Go.Cx.AV.junk, Go.Cx.AV.junk, Go.Cx.AV.junk, Go.Cx.AV.junk, Go.Cx.AV.junk, Go.Cx.AV.junk, Go.Cx.AV.junk, Go.Cx.AV.junk, Go.Cx.AV.junk, Go.Cx.AV.junk, Go.Cx.AV.junk, Go.Cx.AV.junk, Go.Cx.AV.junk], []⟩
noncomputable def st_slices_Grow_byte_byte_1 (x0 : Int) : St := ⟨[Go.Cx.AV.oslice (0 : Nat) (0 : Nat) (0 : Nat), Go.Cx.AV.junk, Go.Cx.AV.junk, Go.Cx.AV.junk, Go.Cx.AV.junk, Go.Cx.AV.junk, Go.Cx.AV.junk, Go.Cx.AV.junk, Go.Cx.AV.junk, Go.Cx.AV.junk, Go.Cx.AV.junk, Go.Cx.AV.junk, Go.Cx.AV.junk, Go.Cx.AV.junk, Go.Cx.AV.junk, Go.Cx.AV.junk, Go.Cx.AV.junk, Go.Cx.AV.junk, Go.Cx.AV.junk, Go.Cx.AV.junk, Go.Cx.AV.junk, Go.Cx.AV.junk, Go.Cx.AV.junk, Go.Cx.AV.junk, Go.Cx.AV.junk, Go.Cx.AV.junk, Go.Cx.AV.junk], [Go.Cx.Ob.grow (5 : Nat) (0 : Nat) (1 : Nat) (Go.Cx.Sh.int Go.IntKind.u8) []]⟩
noncomputable def L_slices_Grow_byte_byte (x0 : Int) (Rv : List AV → Prop) : (Unit) ⊕ (Unit) → Prop
  | .inl (()) => headC E_slices_Grow_byte_byte [.r, .r] b_slices_Grow_byte_byte (bodyK E_slices_Grow_byte_byte Tryd.f45 (outH O_slices_Grow_byte_byte OO_slices_Grow_byte_byte fun ls => Rv (tup_slices_Grow_byte_byte ls))) (st_slices_Grow_byte_byte_0 x0)
  | .inr (()) => headC E_slices_Grow_byte_byte [.r, .r, .r] b_slices_Grow_byte_byte (bodyK E_slices_Grow_byte_byte Tryd.f45 (outH O_slices_Grow_byte_byte OO_slices_Grow_byte_byte fun ls => Rv (tup_slices_Grow_byte_byte ls))) (st_slices_Grow_byte_byte_1 x0)
set_option maxRecDepth 100000 in
theorem l_slices_Grow_byte_byte_0 (x0 : Int) (Rv : List AV → Prop) : stepC E_slices_Grow_byte_byte [.r, .r] b_slices_Grow_byte_byte (bodyK E_slices_Grow_byte_byte Tryd.f45 (outH O_slices_Grow_byte_byte OO_slices_Grow_byte_byte fun ls => Rv (tup_slices_Grow_byte_byte ls))) (st_slices_Grow_byte_byte_0 x0) =
  (M_slices_Grow_byte_byte x0 (.inl (()))).fold False (Sum.elim (L_slices_Grow_byte_byte x0 Rv) Rv) := by kernel_rfl
set_option maxRecDepth 100000 in
theorem l_slices_Grow_byte_byte_1 (x0 : Int) (Rv : List AV → Prop) : stepC E_slices_Grow_byte_byte [.r, .r, .r] b_slices_Grow_byte_byte (bodyK E_slices_Grow_byte_byte Tryd.f45 (outH O_slices_Grow_byte_byte OO_slices_Grow_byte_byte fun ls => Rv (tup_slices_Grow_byte_byte ls))) (st_slices_Grow_byte_byte_1 x0) =
  (M_slices_Grow_byte_byte x0 (.inr (()))).fold False (Sum.elim (L_slices_Grow_byte_byte x0 Rv) Rv) := by kernel_rfl
set_option maxRecDepth 100000 in
theorem e_slices_Grow_byte_byte_0 (x0 : Int) (Rv : List AV → Prop) : L_slices_Grow_byte_byte x0 Rv (.inl (())) = headC E_slices_Grow_byte_byte [.r, .r] b_slices_Grow_byte_byte (bodyK E_slices_Grow_byte_byte Tryd.f45 (outH O_slices_Grow_byte_byte OO_slices_Grow_byte_byte fun ls => Rv (tup_slices_Grow_byte_byte ls))) (st_slices_Grow_byte_byte_0 x0) := by kernel_rfl
set_option maxRecDepth 100000 in
theorem e_slices_Grow_byte_byte_1 (x0 : Int) (Rv : List AV → Prop) : L_slices_Grow_byte_byte x0 Rv (.inr (())) = headC E_slices_Grow_byte_byte [.r, .r, .r] b_slices_Grow_byte_byte (bodyK E_slices_Grow_byte_byte Tryd.f45 (outH O_slices_Grow_byte_byte OO_slices_Grow_byte_byte fun ls => Rv (tup_slices_Grow_byte_byte ls))) (st_slices_Grow_byte_byte_1 x0) := by kernel_rfl
section
attribute [local irreducible] Tr.fold M_slices_Grow_byte_byte L_slices_Grow_byte_byte T_slices_Grow_byte_byte E_slices_Grow_byte_byte b_slices_Grow_byte_byte bodyK headC headL stepC stepL wpX callA
set_option maxRecDepth 100000 in
theorem h_slices_Grow_byte_byte (x0 : Int) (Rv : List AV → Prop) : ∀ s, (M_slices_Grow_byte_byte x0 s).fold False (Sum.elim (L_slices_Grow_byte_byte x0 Rv) Rv) → L_slices_Grow_byte_byte x0 Rv s := by
  rintro (⟨⟩ | ⟨⟩)
  · exact fun h => Eq.mpr (e_slices_Grow_byte_byte_0 x0 Rv) (headC_of (Eq.mpr (l_slices_Grow_byte_byte_0 x0 Rv) h))
  · exact fun h => Eq.mpr (e_slices_Grow_byte_byte_1 x0 Rv) (headC_of (Eq.mpr (l_slices_Grow_byte_byte_1 x0 Rv) h))
set_option maxRecDepth 100000 in
theorem c_slices_Grow_byte_byte (ls : List AV) (Rv : List AV → Prop) : callA E_slices_Grow_byte_byte Tryd.f45 (instL ls P_slices_Grow_byte_byte 0) (instH ls Q_slices_Grow_byte_byte 1) (outH O_slices_Grow_byte_byte OO_slices_Grow_byte_byte fun ls => Rv (tup_slices_Grow_byte_byte ls)) = (T_slices_Grow_byte_byte (getI (ls.getD 0 .junk))).fold False (Sum.elim (L_slices_Grow_byte_byte (getI (ls.getD 0 .junk)) Rv) Rv) := by kernel_rfl
end
noncomputable def S_slices_Grow_byte_byte : Go.Cx.Spec := heapS (patH P_slices_Grow_byte_byte Q_slices_Grow_byte_byte fun ls => opt (g_slices_Grow_byte_byte (getI (ls.getD 0 .junk))) fun x => .r (res_slices_Grow_byte_byte x))
set_option maxRecDepth 100000 in
theorem S_slices_Grow_byte_byte_ok : Sound Tryd.prog 45 S_slices_Grow_byte_byte :=
  heap_mach (E := E_slices_Grow_byte_byte) (TblOK.enKB TYiG45t_ok _ _ _ _ _ _ _) mixed Tryd.func45 (c := Tryd.f45.body.getD .skip) (by kernel_rfl) (by kernel_rfl) (by decide) (by decide) (pats := P_slices_Grow_byte_byte) (ops := Q_slices_Grow_byte_byte) (OO := OO_slices_Grow_byte_byte) (O := O_slices_Grow_byte_byte) (tup := tup_slices_Grow_byte_byte) (res := res_slices_Grow_byte_byte) (g := fun ls => g_slices_Grow_byte_byte (getI (ls.getD 0 .junk))) (T := fun ls => T_slices_Grow_byte_byte (getI (ls.getD 0 .junk))) (step := fun ls => M_slices_Grow_byte_byte (getI (ls.getD 0 .junk))) (L := fun ls => L_slices_Grow_byte_byte (getI (ls.getD 0 .junk))) (fun _ => rfl) (fun ls => by kernel_rfl) c_slices_Grow_byte_byte (fun ls Rv => h_slices_Grow_byte_byte (getI (ls.getD 0 .junk)) Rv)

noncomputable def TYiG46t : FuncId → Option Go.Cx.Spec := addT TYiG45t 45 S_slices_Grow_byte_byte
theorem TYiG46t_ok : TblOK Tryd.prog TYiG46t := TYiG45t_ok.add S_slices_Grow_byte_byte_ok

/- slices.Concat[[]byte,byte] -/
noncomputable def E_slices_Concat_byte_byte : En := enKB Tryd.prog TYiG46t [] [(3, ⟨[1, 2, 4, 5, 6, 7, 8, 12, 13, 14, 15, 16, 17, 18, 19, 20, 21, 22, 23, 24, 25, 26, 27, 28, 29, 30, 31, 32, 33, 34, 35], [], [], none, [], [], [], [], true⟩), (11, ⟨[0, 1, 2, 3, 4, 5, 7, 8, 9, 10, 11, 12, 13, 14, 15, 16, 17, 18, 19, 20, 21, 22, 23, 24, 28, 29, 30, 31, 32, 33, 34, 35], [], [], none, [], [], [], [], true⟩)] [] [] 1 0 true
def P_slices_Concat_byte_byte : List Pat := [.leaf (.slice 1 (.slice 1 (.int .u8)))]
def Q_slices_Concat_byte_byte : List OPat := []
def O_slices_Concat_byte_byte : Pat := .own 0 0 0
def OO_slices_Concat_byte_byte : List OPat := [.grow 5 0 1 (.int .u8)]
def tup_slices_Concat_byte_byte : List AV → List AV := fun ls => getXs (ls.getD 0 .junk)
def res_slices_Concat_byte_byte : List AV → AV × List Ob := fun x => (.oslice 0 0 (List.length (x)), [.grow 5 0 1 (.int .u8) (x)])
noncomputable def T_slices_Concat_byte_byte (x0 : List AV) : Tr (((Int × Int) ⊕ (List AV × Int)) ⊕ (List AV)) := (.r (.inl (.inl (((0 : Int), (0 : Int))))))
noncomputable def M_slices_Concat_byte_byte (x0 : List AV) : (Int × Int) ⊕ (List AV × Int) → Tr (((Int × Int) ⊕ (List AV × Int)) ⊕ (List AV))
  | .inl ((i0, i1)) => (.c (Decidable.decide (i1 < (↑(List.length x0) : Int))) (.c (Decidable.decide ((0 : Int) ≤ i1)) (.c (Decidable.decide (i1 < (↑(List.length x0) : Int))) (.c (Decidable.decide (Go.IntKind.wrap Go.IntKind.i64 (i0 + (↑(List.length (Go.Cx.getXs (List.getD x0 (Int.toNat i1) (Go.Cx.AV.slice (1 : Nat) (Go.Cx.Sh.int Go.IntKind.u8) [] Go.Cx.SK.ro)))) : Int)) < (0 : Int))) .bad (.r (.inl (.inl ((Go.IntKind.wrap Go.IntKind.i64 (i0 + (↑(List.length (Go.Cx.getXs (List.getD x0 (Int.toNat i1) (Go.Cx.AV.slice (1 : Nat) (Go.Cx.Sh.int Go.IntKind.u8) [] Go.Cx.SK.ro)))) : Int)), Go.IntKind.wrap Go.IntKind.i64 (i1 + (1 : Int)))))))) .bad) .bad) (opt (Go.Proofs.YtajknlhbfhemlaaDoor.g_slices_Grow_byte_byte i0) fun (y0 : List Go.Cx.AV) => (.r (.inl (.inr ((y0, (0 : Int))))))))
  | .inr ((l0, i2)) => (.c (Decidable.decide (i2 < (↑(List.length x0) : Int))) (.c (Decidable.decide ((0 : Int) ≤ i2)) (.c (Decidable.decide (i2 < (↑(List.length x0) : Int))) (.c (List.length l0 == List.length l0) (.c (Decidable.decide (List.length (l0 ++ Go.Cx.getXs (List.getD x0 (Int.toNat i2) (Go.Cx.AV.slice (1 : Nat) (Go.Cx.Sh.int Go.IntKind.u8) [] Go.Cx.SK.ro))) * (2 : Nat) < (70368744177664 : Nat))) (.r (.inl (.inr ((l0 ++ Go.Cx.getXs (List.getD x0 (Int.toNat i2) (Go.Cx.AV.slice (1 : Nat) (Go.Cx.Sh.int Go.IntKind.u8) [] Go.Cx.SK.ro)), Go.IntKind.wrap Go.IntKind.i64 (i2 + (1 : Int))))))) .bad) .bad) .bad) .bad) (.c (List.length l0 == List.length (l0 : List AV)) (.r (.inr (l0))) .bad))
noncomputable def g_slices_Concat_byte_byte (x0 : List AV) : Option (List AV) := run (M_slices_Concat_byte_byte x0) (T_slices_Concat_byte_byte x0)
noncomputable def b_slices_Concat_byte_byte := Tryd.f25.body.getD .skip
noncomputable def st_slices_Concat_byte_byte_0 (x0 : List AV) (i0 : Int) (i1 : Int) : St := ⟨[Go.Cx.AV.slice (1 : Nat) (Go.Cx.Sh.slice (1 : Nat) (Go.Cx.Sh.int Go.IntKind.u8)) x0 Go.Cx.SK.ro, Go.Cx.AV.junk, Go.Cx.AV.junk, Go.Cx.AV.int Go.IntKind.i64 i0, Go.Cx.AV.junk, Go.Cx.AV.junk, Go.Cx.AV.junk, Go.Cx.AV.junk, Go.Cx.AV.junk, Go.Cx.AV.slice (1 : Nat) (Go.Cx.Sh.slice (1 : Nat) (Go.Cx.Sh.int Go.IntKind.u8)) x0 Go.Cx.SK.ro, Go.Cx.AV.int Go.IntKind.i64 (↑(List.length x0) : Int), Go.Cx.AV.int Go.IntKind.i64 i1, Go.Cx.AV.junk, Go.Cx.AV.junk, Go.Cx.AV.junk, Go.Cx.AV.junk, Go.Cx.AV.junk, Go.Cx.AV.junk, Go.Cx.AV.junk, Go.Cx.AV.junk, Go.Cx.AV.junk, Go.Cx.AV.junk, Go.Cx.AV.junk, Go.Cx.AV.junk, Go.Cx.AV.junk, Go.Cx.AV.junk, Go.Cx.AV.junk, Go.Cx.AV.junk, Go.Cx.AV.junk, Go.Cx.AV.junk, Go.Cx.AV.junk, Go.Cx.AV.junk, Go.Cx.AV.junk, Go.Cx.AV.junk, Go.Cx.AV.junk, Go.Cx.AV.junk], []⟩
noncomputable def st_slices_Concat_byte_byte_1 (x0 : List AV) (l0 : List AV) (i2 : Int) : St := ⟨[Go.Cx.AV.junk, Go.Cx.AV.junk, Go.Cx.AV.junk, Go.Cx.AV.junk, Go.Cx.AV.junk, Go.Cx.AV.junk, Go.Cx.AV.oslice (0 : Nat) (0 : Nat) (List.length l0), Go.Cx.AV.junk, Go.Cx.AV.junk, Go.Cx.AV.junk, Go.Cx.AV.junk, Go.Cx.AV.junk, Go.Cx.AV.junk, Go.Cx.AV.junk, Go.Cx.AV.junk, Go.Cx.AV.junk, Go.Cx.AV.junk, Go.Cx.AV.junk, Go.Cx.AV.junk, Go.Cx.AV.junk, Go.Cx.AV.junk, Go.Cx.AV.junk, Go.Cx.AV.junk, Go.Cx.AV.junk, Go.Cx.AV.junk, Go.Cx.AV.slice (1 : Nat) (Go.Cx.Sh.slice (1 : Nat) (Go.Cx.Sh.int Go.IntKind.u8)) x0 Go.Cx.SK.ro, Go.Cx.AV.int Go.IntKind.i64 (↑(List.length x0) : Int), Go.Cx.AV.int Go.IntKind.i64 i2, Go.Cx.AV.junk, Go.Cx.AV.junk, Go.Cx.AV.junk, Go.Cx.AV.junk, Go.Cx.AV.junk, Go.Cx.AV.junk, Go.Cx.AV.junk, Go.Cx.AV.junk], [Go.Cx.Ob.grow (5 : Nat) (0 : Nat) (1 : Nat) (Go.Cx.Sh.int Go.IntKind.u8) l0]⟩
noncomputable def L_slices_Concat_byte_byte (x0 : List AV) (Rv : List AV → Prop) : (Int × Int) ⊕ (List AV × Int) → Prop
  | .inl ((i0, i1)) => headL E_slices_Concat_byte_byte [.r, .r, .l, .r, .d] b_slices_Concat_byte_byte 1000 (bodyK E_slices_Concat_byte_byte Tryd.f25 (outH O_slices_Concat_byte_byte OO_slices_Concat_byte_byte fun ls => Rv (tup_slices_Concat_byte_byte ls))) (st_slices_Concat_byte_byte_0 x0 i0 i1)
  | .inr ((l0, i2)) => headL E_slices_Concat_byte_byte [.r, .r, .r, .r, .l, .r, .d] b_slices_Concat_byte_byte 1000 (bodyK E_slices_Concat_byte_byte Tryd.f25 (outH O_slices_Concat_byte_byte OO_slices_Concat_byte_byte fun ls => Rv (tup_slices_Concat_byte_byte ls))) (st_slices_Concat_byte_byte_1 x0 l0 i2)
set_option maxRecDepth 100000 in
theorem l_slices_Concat_byte_byte_0 (x0 : List AV) (Rv : List AV → Prop) (i0 : Int) (i1 : Int) : stepL E_slices_Concat_byte_byte [.r, .r, .l, .r, .d] b_slices_Concat_byte_byte 1000 (bodyK E_slices_Concat_byte_byte Tryd.f25 (outH O_slices_Concat_byte_byte OO_slices_Concat_byte_byte fun ls => Rv (tup_slices_Concat_byte_byte ls))) (st_slices_Concat_byte_byte_0 x0 i0 i1) =
  (M_slices_Concat_byte_byte x0 (.inl ((i0, i1)))).fold False (Sum.elim (L_slices_Concat_byte_byte x0 Rv) Rv) := by kernel_rfl
set_option maxRecDepth 100000 in
theorem l_slices_Concat_byte_byte_1 (x0 : List AV) (Rv : List AV → Prop) (l0 : List AV) (i2 : Int) : stepL E_slices_Concat_byte_byte [.r, .r, .r, .r, .l, .r, .d] b_slices_Concat_byte_byte 1000 (bodyK E_slices_Concat_byte_byte Tryd.f25 (outH O_slices_Concat_byte_byte OO_slices_Concat_byte_byte fun ls => Rv (tup_slices_Concat_byte_byte ls))) (st_slices_Concat_byte_byte_1 x0 l0 i2) =
  (M_slices_Concat_byte_byte x0 (.inr ((l0, i2)))).fold False (Sum.elim (L_slices_Concat_byte_byte x0 Rv) Rv) := by kernel_rfl
set_option maxRecDepth 100000 in
theorem e_slices_Concat_byte_byte_0 (x0 : List AV) (Rv : List AV → Prop) (i0 : Int) (i1 : Int) : L_slices_Concat_byte_byte x0 Rv (.inl ((i0, i1))) = headL E_slices_Concat_byte_byte [.r, .r, .l, .r, .d] b_slices_Concat_byte_byte 1000 (bodyK E_slices_Concat_byte_byte Tryd.f25 (outH O_slices_Concat_byte_byte OO_slices_Concat_byte_byte fun ls => Rv (tup_slices_Concat_byte_byte ls))) (st_slices_Concat_byte_byte_0 x0 i0 i1) := by kernel_rfl
set_option maxRecDepth 100000 in
theorem e_slices_Concat_byte_byte_1 (x0 : List AV) (Rv : List AV → Prop) (l0 : List AV) (i2 : Int) : L_slices_Concat_byte_byte x0 Rv (.inr ((l0, i2))) = headL E_slices_Concat_byte_byte [.r, .r, .r, .r, .l, .r, .d] b_slices_Concat_byte_byte 1000 (bodyK E_slices_Concat_byte_byte Tryd.f25 (outH O_slices_Concat_byte_byte OO_slices_Concat_byte_byte fun ls => Rv (tup_slices_Concat_byte_byte ls))) (st_slices_Concat_byte_byte_1 x0 l0 i2) := by kernel_rfl
section
attribute [local irreducible] Tr.fold M_slices_Concat_byte_byte L_slices_Concat_byte_byte T_slices_Concat_byte_byte E_slices_Concat_byte_byte b_slices_Concat_byte_byte bodyK headC headL stepC stepL wpX callA
set_option maxRecDepth 100000 in
theorem h_slices_Concat_byte_byte (x0 : List AV) (Rv : List AV → Prop) : ∀ s, (M_slices_Concat_byte_byte x0 s).fold False (Sum.elim (L_slices_Concat_byte_byte x0 Rv) Rv) → L_slices_Concat_byte_byte x0 Rv s := by
  rintro (⟨v0, v1⟩ | ⟨v0, v1⟩)
  · exact fun h => Eq.mpr (e_slices_Concat_byte_byte_0 x0 Rv v0 v1) (headL_of (Eq.mpr (l_slices_Concat_byte_byte_0 x0 Rv v0 v1) h))
  · exact fun h => Eq.mpr (e_slices_Concat_byte_byte_1 x0 Rv v0 v1) (headL_of (Eq.mpr (l_slices_Concat_byte_byte_1 x0 Rv v0 v1) h))
set_option maxRecDepth 100000 in
theorem c_slices_Concat_byte_byte (ls : List AV) (Rv : List AV → Prop) : callA E_slices_Concat_byte_byte Tryd.f25 (instL ls P_slices_Concat_byte_byte 0) (instH ls Q_slices_Concat_byte_byte 1) (outH O_slices_Concat_byte_byte OO_slices_Concat_byte_byte fun ls => Rv (tup_slices_Concat_byte_byte ls)) = (T_slices_Concat_byte_byte (getXs (ls.getD 0 .junk))).fold False (Sum.elim (L_slices_Concat_byte_byte (getXs (ls.getD 0 .junk)) Rv) Rv) := by kernel_rfl
end
noncomputable def S_slices_Concat_byte_byte : Go.Cx.Spec := heapS (patH P_slices_Concat_byte_byte Q_slices_Concat_byte_byte fun ls => opt (g_slices_Concat_byte_byte (getXs (ls.getD 0 .junk))) fun x => .r (res_slices_Concat_byte_byte x))
set_option maxRecDepth 100000 in
theorem S_slices_Concat_byte_byte_ok : Sound Tryd.prog 25 S_slices_Concat_byte_byte :=
  heap_mach (E := E_slices_Concat_byte_byte) (TblOK.enKB TYiG46t_ok _ _ _ _ _ _ _) mixed Tryd.func25 (c := Tryd.f25.body.getD .skip) (by kernel_rfl) (by kernel_rfl) (by decide) (by decide) (pats := P_slices_Concat_byte_byte) (ops := Q_slices_Concat_byte_byte) (OO := OO_slices_Concat_byte_byte) (O := O_slices_Concat_byte_byte) (tup := tup_slices_Concat_byte_byte) (res := res_slices_Concat_byte_byte) (g := fun ls => g_slices_Concat_byte_byte (getXs (ls.getD 0 .junk))) (T := fun ls => T_slices_Concat_byte_byte (getXs (ls.getD 0 .junk))) (step := fun ls => M_slices_Concat_byte_byte (getXs (ls.getD 0 .junk))) (L := fun ls => L_slices_Concat_byte_byte (getXs (ls.getD 0 .junk))) (fun _ => rfl) (fun ls => by kernel_rfl) c_slices_Concat_byte_byte (fun ls Rv => h_slices_Concat_byte_byte (getXs (ls.getD 0 .junk)) Rv)

noncomputable def TYiG47t : FuncId → Option Go.Cx.Spec := addT TYiG46t 25 S_slices_Concat_byte_byte
theorem TYiG47t_ok : TblOK Tryd.prog TYiG47t := TYiG46t_ok.add S_slices_Concat_byte_byte_ok

/- comptoir/element.Of -/
noncomputable def E_element_Of : En := enK Tryd.prog TYiG47t [] [] [] [] 0
def P_element_Of : List Pat := [.leaf (.int .i64)]
def O_element_Of : Pat := .tuple [.agg [.leaf (.int .i64), .leaf (.int .i64), .leaf (.int .i64), .leaf (.int .i64)], .leaf .bool]
def tup_element_Of : List AV → Int × Int × Int × Int × Bool := fun ls => (getI (ls.getD 0 .junk), getI (ls.getD 1 .junk), getI (ls.getD 2 .junk), getI (ls.getD 3 .junk), getB (ls.getD 4 .junk))
def res_element_Of : Int × Int × Int × Int × Bool → AV := fun x => .tuple [.agg [.int .i64 (x.1), .int .i64 (x.2.1), .int .i64 (x.2.2.1), .int .i64 (x.2.2.2.1)], .bool (x.2.2.2.2)]
noncomputable def T_element_Of (x0 : Int) : Tr (Int × Int × Int × Int × Bool) := (.c (x0 == (2 : Int)) (.r ((x0, (1 : Int), (2 : Int), (19 : Int), Bool.true))) (.c (x0 == (4 : Int)) (.r ((x0, (1 : Int), (0 : Int), (12 : Int), Bool.true))) (.c (x0 == (11 : Int)) (.r ((x0, (1 : Int), (0 : Int), (6 : Int), Bool.true))) (.c (x0 == (12 : Int)) (.r ((x0, (1 : Int), (0 : Int), (14 : Int), Bool.true))) (.c (x0 == (22 : Int)) (.c (x0 == (22 : Int)) (.r ((x0, (1 : Int), (0 : Int), (3 : Int), Bool.true))) (.c (x0 == (25 : Int)) (.r ((x0, (1 : Int), (0 : Int), (4 : Int), Bool.true))) (.c (x0 == (32 : Int)) (.r ((x0, (1 : Int), (2 : Int), (11 : Int), Bool.true))) (.c (x0 == (37 : Int)) (.r ((x0, (2 : Int), (0 : Int), (12 : Int), Bool.true))) (.c (x0 == (38 : Int)) (.r ((x0, (2 : Int), (0 : Int), (6 : Int), Bool.true))) (.c (x0 == (41 : Int)) (.r ((x0, (3 : Int), (0 : Int), (8 : Int), Bool.true))) (.c (x0 == (42 : Int)) (.r ((x0, (3 : Int), (0 : Int), (15 : Int), Bool.true))) (.c (x0 == (43 : Int)) (.r ((x0, (3 : Int), (2 : Int), (40 : Int), Bool.true))) (.c (x0 == (48 : Int)) (.r ((x0, (3 : Int), (3 : Int), (8 : Int), Bool.true))) (.c (x0 == (55 : Int)) (.r ((x0, (4 : Int), (3 : Int), (255 : Int), Bool.true))) (.c (x0 == (56 : Int)) (.r ((x0, (1 : Int), (0 : Int), (20 : Int), Bool.true))) (.c (x0 == (60 : Int)) (.c (x0 == (60 : Int)) (.r ((x0, (3 : Int), (3 : Int), (100 : Int), Bool.true))) (.c (x0 == (102 : Int)) (.c (x0 == (102 : Int)) (.r ((x0, (3 : Int), (2 : Int), (28 : Int), Bool.true))) (.c (x0 == (120 : Int)) (.r ((x0, (4 : Int), (4 : Int), (999 : Int), Bool.true))) (.r (((0 : Int), (0 : Int), (0 : Int), (0 : Int), Bool.false))))) (.c (x0 == (103 : Int)) (.r ((x0, (3 : Int), (2 : Int), (28 : Int), Bool.true))) (.c (x0 == (120 : Int)) (.r ((x0, (4 : Int), (4 : Int), (999 : Int), Bool.true))) (.r (((0 : Int), (0 : Int), (0 : Int), (0 : Int), Bool.false))))))) (.c (x0 == (61 : Int)) (.c (x0 == (61 : Int)) (.r ((x0, (3 : Int), (3 : Int), (100 : Int), Bool.true))) (.c (x0 == (102 : Int)) (.c (x0 == (102 : Int)) (.r ((x0, (3 : Int), (2 : Int), (28 : Int), Bool.true))) (.c (x0 == (120 : Int)) (.r ((x0, (4 : Int), (4 : Int), (999 : Int), Bool.true))) (.r (((0 : Int), (0 : Int), (0 : Int), (0 : Int), Bool.false))))) (.c (x0 == (103 : Int)) (.r ((x0, (3 : Int), (2 : Int), (28 : Int), Bool.true))) (.c (x0 == (120 : Int)) (.r ((x0, (4 : Int), (4 : Int), (999 : Int), Bool.true))) (.r (((0 : Int), (0 : Int), (0 : Int), (0 : Int), Bool.false))))))) (.c (x0 == (62 : Int)) (.c (x0 == (62 : Int)) (.r ((x0, (3 : Int), (3 : Int), (100 : Int), Bool.true))) (.c (x0 == (102 : Int)) (.c (x0 == (102 : Int)) (.r ((x0, (3 : Int), (2 : Int), (28 : Int), Bool.true))) (.c (x0 == (120 : Int)) (.r ((x0, (4 : Int), (4 : Int), (999 : Int), Bool.true))) (.r (((0 : Int), (0 : Int), (0 : Int), (0 : Int), Bool.false))))) (.c (x0 == (103 : Int)) (.r ((x0, (3 : Int), (2 : Int), (28 : Int), Bool.true))) (.c (x0 == (120 : Int)) (.r ((x0, (4 : Int), (4 : Int), (999 : Int), Bool.true))) (.r (((0 : Int), (0 : Int), (0 : Int), (0 : Int), Bool.false))))))) (.c (x0 == (63 : Int)) (.r ((x0, (3 : Int), (3 : Int), (100 : Int), Bool.true))) (.c (x0 == (102 : Int)) (.c (x0 == (102 : Int)) (.r ((x0, (3 : Int), (2 : Int), (28 : Int), Bool.true))) (.c (x0 == (120 : Int)) (.r ((x0, (4 : Int), (4 : Int), (999 : Int), Bool.true))) (.r (((0 : Int), (0 : Int), (0 : Int), (0 : Int), Bool.false))))) (.c (x0 == (103 : Int)) (.r ((x0, (3 : Int), (2 : Int), (28 : Int), Bool.true))) (.c (x0 == (120 : Int)) (.r ((x0, (4 : Int), (4 : Int), (999 : Int), Bool.true))) (.r (((0 : Int), (0 : Int), (0 : Int), (0 : Int), Bool.false))))))))))))))))))))) (.c (x0 == (39 : Int)) (.c (x0 == (39 : Int)) (.r ((x0, (1 : Int), (0 : Int), (3 : Int), Bool.true))) (.c (x0 == (25 : Int)) (.r ((x0, (1 : Int), (0 : Int), (4 : Int), Bool.true))) (.c (x0 == (32 : Int)) (.r ((x0, (1 : Int), (2 : Int), (11 : Int), Bool.true))) (.c (x0 == (37 : Int)) (.r ((x0, (2 : Int), (0 : Int), (12 : Int), Bool.true))) (.c (x0 == (38 : Int)) (.r ((x0, (2 : Int), (0 : Int), (6 : Int), Bool.true))) (.c (x0 == (41 : Int)) (.r ((x0, (3 : Int), (0 : Int), (8 : Int), Bool.true))) (.c (x0 == (42 : Int)) (.r ((x0, (3 : Int), (0 : Int), (15 : Int), Bool.true))) (.c (x0 == (43 : Int)) (.r ((x0, (3 : Int), (2 : Int), (40 : Int), Bool.true))) (.c (x0 == (48 : Int)) (.r ((x0, (3 : Int), (3 : Int), (8 : Int), Bool.true))) (.c (x0 == (55 : Int)) (.r ((x0, (4 : Int), (3 : Int), (255 : Int), Bool.true))) (.c (x0 == (56 : Int)) (.r ((x0, (1 : Int), (0 : Int), (20 : Int), Bool.true))) (.c (x0 == (60 : Int)) (.c (x0 == (60 : Int)) (.r ((x0, (3 : Int), (3 : Int), (100 : Int), Bool.true))) (.c (x0 == (102 : Int)) (.c (x0 == (102 : Int)) (.r ((x0, (3 : Int), (2 : Int), (28 : Int), Bool.true))) (.c (x0 == (120 : Int)) (.r ((x0, (4 : Int), (4 : Int), (999 : Int), Bool.true))) (.r (((0 : Int), (0 : Int), (0 : Int), (0 : Int), Bool.false))))) (.c (x0 == (103 : Int)) (.r ((x0, (3 : Int), (2 : Int), (28 : Int), Bool.true))) (.c (x0 == (120 : Int)) (.r ((x0, (4 : Int), (4 : Int), (999 : Int), Bool.true))) (.r (((0 : Int), (0 : Int), (0 : Int), (0 : Int), Bool.false))))))) (.c (x0 == (61 : Int)) (.c (x0 == (61 : Int)) (.r ((x0, (3 : Int), (3 : Int), (100 : Int), Bool.true))) (.c (x0 == (102 : Int)) (.c (x0 == (102 : Int)) (.r ((x0, (3 : Int), (2 : Int), (28 : Int), Bool.true))) (.c (x0 == (120 : Int)) (.r ((x0, (4 : Int), (4 : Int), (999 : Int), Bool.true))) (.r (((0 : Int), (0 : Int), (0 : Int), (0 : Int), Bool.false))))) (.c (x0 == (103 : Int)) (.r ((x0, (3 : Int), (2 : Int), (28 : Int), Bool.true))) (.c (x0 == (120 : Int)) (.r ((x0, (4 : Int), (4 : Int), (999 : Int), Bool.true))) (.r (((0 : Int), (0 : Int), (0 : Int), (0 : Int), Bool.false))))))) (.c (x0 == (62 : Int)) (.c (x0 == (62 : Int)) (.r ((x0, (3 : Int), (3 : Int), (100 : Int), Bool.true))) (.c (x0 == (102 : Int)) (.c (x0 == (102 : Int)) (.r ((x0, (3 : Int), (2 : Int), (28 : Int), Bool.true))) (.c (x0 == (120 : Int)) (.r ((x0, (4 : Int), (4 : Int), (999 : Int), Bool.true))) (.r (((0 : Int), (0 : Int), (0 : Int), (0 : Int), Bool.false))))) (.c (x0 == (103 : Int)) (.r ((x0, (3 : Int), (2 : Int), (28 : Int), Bool.true))) (.c (x0 == (120 : Int)) (.r ((x0, (4 : Int), (4 : Int), (999 : Int), Bool.true))) (.r (((0 : Int), (0 : Int), (0 : Int), (0 : Int), Bool.false))))))) (.c (x0 == (63 : Int)) (.r ((x0, (3 : Int), (3 : Int), (100 : Int), Bool.true))) (.c (x0 == (102 : Int)) (.c (x0 == (102 : Int)) (.r ((x0, (3 : Int), (2 : Int), (28 : Int), Bool.true))) (.c (x0 == (120 : Int)) (.r ((x0, (4 : Int), (4 : Int), (999 : Int), Bool.true))) (.r (((0 : Int), (0 : Int), (0 : Int), (0 : Int), Bool.false))))) (.c (x0 == (103 : Int)) (.r ((x0, (3 : Int), (2 : Int), (28 : Int), Bool.true))) (.c (x0 == (120 : Int)) (.r ((x0, (4 : Int), (4 : Int), (999 : Int), Bool.true))) (.r (((0 : Int), (0 : Int), (0 : Int), (0 : Int), Bool.false))))))))))))))))))))) (.c (x0 == (49 : Int)) (.r ((x0, (1 : Int), (0 : Int), (3 : Int), Bool.true))) (.c (x0 == (25 : Int)) (.r ((x0, (1 : Int), (0 : Int), (4 : Int), Bool.true))) (.c (x0 == (32 : Int)) (.r ((x0, (1 : Int), (2 : Int), (11 : Int), Bool.true))) (.c (x0 == (37 : Int)) (.r ((x0, (2 : Int), (0 : Int), (12 : Int), Bool.true))) (.c (x0 == (38 : Int)) (.r ((x0, (2 : Int), (0 : Int), (6 : Int), Bool.true))) (.c (x0 == (41 : Int)) (.r ((x0, (3 : Int), (0 : Int), (8 : Int), Bool.true))) (.c (x0 == (42 : Int)) (.r ((x0, (3 : Int), (0 : Int), (15 : Int), Bool.true))) (.c (x0 == (43 : Int)) (.r ((x0, (3 : Int), (2 : Int), (40 : Int), Bool.true))) (.c (x0 == (48 : Int)) (.r ((x0, (3 : Int), (3 : Int), (8 : Int), Bool.true))) (.c (x0 == (55 : Int)) (.r ((x0, (4 : Int), (3 : Int), (255 : Int), Bool.true))) (.c (x0 == (56 : Int)) (.r ((x0, (1 : Int), (0 : Int), (20 : Int), Bool.true))) (.c (x0 == (60 : Int)) (.c (x0 == (60 : Int)) (.r ((x0, (3 : Int), (3 : Int), (100 : Int), Bool.true))) (.c (x0 == (102 : Int)) (.c (x0 == (102 : Int)) (.r ((x0, (3 : Int), (2 : Int), (28 : Int), Bool.true))) (.c (x0 == (120 : Int)) (.r ((x0, (4 : Int), (4 : Int), (999 : Int), Bool.true))) (.r (((0 : Int), (0 : Int), (0 : Int), (0 : Int), Bool.false))))) (.c (x0 == (103 : Int)) (.r ((x0, (3 : Int), (2 : Int), (28 : Int), Bool.true))) (.c (x0 == (120 : Int)) (.r ((x0, (4 : Int), (4 : Int), (999 : Int), Bool.true))) (.r (((0 : Int), (0 : Int), (0 : Int), (0 : Int), Bool.false))))))) (.c (x0 == (61 : Int)) (.c (x0 == (61 : Int)) (.r ((x0, (3 : Int), (3 : Int), (100 : Int), Bool.true))) (.c (x0 == (102 : Int)) (.c (x0 == (102 : Int)) (.r ((x0, (3 : Int), (2 : Int), (28 : Int), Bool.true))) (.c (x0 == (120 : Int)) (.r ((x0, (4 : Int), (4 : Int), (999 : Int), Bool.true))) (.r (((0 : Int), (0 : Int), (0 : Int), (0 : Int), Bool.false))))) (.c (x0 == (103 : Int)) (.r ((x0, (3 : Int), (2 : Int), (28 : Int), Bool.true))) (.c (x0 == (120 : Int)) (.r ((x0, (4 : Int), (4 : Int), (999 : Int), Bool.true))) (.r (((0 : Int), (0 : Int), (0 : Int), (0 : Int), Bool.false))))))) (.c (x0 == (62 : Int)) (.c (x0 == (62 : Int)) (.r ((x0, (3 : Int), (3 : Int), (100 : Int), Bool.true))) (.c (x0 == (102 : Int)) (.c (x0 == (102 : Int)) (.r ((x0, (3 : Int), (2 : Int), (28 : Int), Bool.true))) (.c (x0 == (120 : Int)) (.r ((x0, (4 : Int), (4 : Int), (999 : Int), Bool.true))) (.r (((0 : Int), (0 : Int), (0 : Int), (0 : Int), Bool.false))))) (.c (x0 == (103 : Int)) (.r ((x0, (3 : Int), (2 : Int), (28 : Int), Bool.true))) (.c (x0 == (120 : Int)) (.r ((x0, (4 : Int), (4 : Int), (999 : Int), Bool.true))) (.r (((0 : Int), (0 : Int), (0 : Int), (0 : Int), Bool.false))))))) (.c (x0 == (63 : Int)) (.r ((x0, (3 : Int), (3 : Int), (100 : Int), Bool.true))) (.c (x0 == (102 : Int)) (.c (x0 == (102 : Int)) (.r ((x0, (3 : Int), (2 : Int), (28 : Int), Bool.true))) (.c (x0 == (120 : Int)) (.r ((x0, (4 : Int), (4 : Int), (999 : Int), Bool.true))) (.r (((0 : Int), (0 : Int), (0 : Int), (0 : Int), Bool.false))))) (.c (x0 == (103 : Int)) (.r ((x0, (3 : Int), (2 : Int), (28 : Int), Bool.true))) (.c (x0 == (120 : Int)) (.r ((x0, (4 : Int), (4 : Int), (999 : Int), Bool.true))) (.r (((0 : Int), (0 : Int), (0 : Int), (0 : Int), Bool.false)))))))))))))))))))))))))))
noncomputable def g_element_Of (x0 : Int) : Option (Int × Int × Int × Int × Bool) := (T_element_Of x0).val
set_option maxRecDepth 100000 in
theorem c_element_Of (ls : List AV) (Rv : Int × Int × Int × Int × Bool → Prop) : callA E_element_Of Tryd.f47 (instL ls P_element_Of 0) [] (outP O_element_Of fun ls => Rv (tup_element_Of ls)) = (T_element_Of (getI (ls.getD 0 .junk))).fold False Rv := by kernel_rfl
noncomputable def S_element_Of : Go.Cx.Spec := pureS (patF P_element_Of fun ls => opt (g_element_Of (getI (ls.getD 0 .junk))) fun x => .r (res_element_Of x))
set_option maxRecDepth 100000 in
theorem S_element_Of_ok : Sound Tryd.prog 47 S_element_Of :=
  pure_flat (E := E_element_Of) (TblOK.enK TYiG47t_ok _ _ _ _ _) mixed rfl Tryd.func47 (c := Tryd.f47.body.getD .skip) (by kernel_rfl) (by kernel_rfl) (pats := P_element_Of) (O := O_element_Of) (tup := tup_element_Of) (res := res_element_Of) (g := fun ls => g_element_Of (getI (ls.getD 0 .junk))) (T := fun ls => T_element_Of (getI (ls.getD 0 .junk))) (fun _ => rfl) (fun ls => by kernel_rfl) c_element_Of

noncomputable def TYiG48t : FuncId → Option Go.Cx.Spec := addT TYiG47t 47 S_element_Of
theorem TYiG48t_ok : TblOK Tryd.prog TYiG48t := TYiG47t_ok.add S_element_Of_ok

/- comptoir/element.long -/
noncomputable def E_element_long : En := enK Tryd.prog TYiG48t [] [] [] [] 0
def P_element_long : List Pat := [.agg [.leaf (.int .i64), .leaf (.int .i64), .leaf (.int .i64), .leaf (.int .i64)], .leaf (.int .i64)]
def O_element_long : Pat := .leaf .bool
def tup_element_long : List AV → Bool := fun ls => getB (ls.getD 0 .junk)
def res_element_long : Bool → AV := fun x => .bool (x)
noncomputable def T_element_long (x0 : Int) (x1 : Int) (x2 : Int) (x3 : Int) (x4 : Int) : Tr (Bool) := (.c (x4 == x3) (.r (Bool.true)) (.c (Decidable.decide (x2 > (0 : Int))) (.c (Decidable.decide (x4 ≥ (1 : Int))) (.r (Decidable.decide (x4 ≤ x3))) (.r (Bool.false))) (.r (Bool.false))))
noncomputable def g_element_long (x0 : Int) (x1 : Int) (x2 : Int) (x3 : Int) (x4 : Int) : Option (Bool) := (T_element_long x0 x1 x2 x3 x4).val
set_option maxRecDepth 100000 in
theorem c_element_long (ls : List AV) (Rv : Bool → Prop) : callA E_element_long Tryd.f60 (instL ls P_element_long 0) [] (outP O_element_long fun ls => Rv (tup_element_long ls)) = (T_element_long (getI (ls.getD 0 .junk)) (getI (ls.getD 1 .junk)) (getI (ls.getD 2 .junk)) (getI (ls.getD 3 .junk)) (getI (ls.getD 4 .junk))).fold False Rv := by kernel_rfl
noncomputable def S_element_long : Go.Cx.Spec := pureS (patF P_element_long fun ls => opt (g_element_long (getI (ls.getD 0 .junk)) (getI (ls.getD 1 .junk)) (getI (ls.getD 2 .junk)) (getI (ls.getD 3 .junk)) (getI (ls.getD 4 .junk))) fun x => .r (res_element_long x))
set_option maxRecDepth 100000 in
theorem S_element_long_ok : Sound Tryd.prog 60 S_element_long :=
  pure_flat (E := E_element_long) (TblOK.enK TYiG48t_ok _ _ _ _ _) mixed rfl Tryd.func60 (c := Tryd.f60.body.getD .skip) (by kernel_rfl) (by kernel_rfl) (pats := P_element_long) (O := O_element_long) (tup := tup_element_long) (res := res_element_long) (g := fun ls => g_element_long (getI (ls.getD 0 .junk)) (getI (ls.getD 1 .junk)) (getI (ls.getD 2 .junk)) (getI (ls.getD 3 .junk)) (getI (ls.getD 4 .junk))) (T := fun ls => T_element_long (getI (ls.getD 0 .junk)) (getI (ls.getD 1 .junk)) (getI (ls.getD 2 .junk)) (getI (ls.getD 3 .junk)) (getI (ls.getD 4 .junk))) (fun _ => rfl) (fun ls => by kernel_rfl) c_element_long

noncomputable def TYiG49t : FuncId → Option Go.Cx.Spec := addT TYiG48t 60 S_element_long
theorem TYiG49t_ok : TblOK Tryd.prog TYiG49t := TYiG48t_ok.add S_element_long_ok

/- comptoir/element.test -/
noncomputable def E_element_test : En := enK Tryd.prog TYiG49t [] [] [] [] 0
def P_element_test : List Pat := [.leaf (.int .i64)]
def O_element_test : Pat := .leaf .any
def tup_element_test : List AV → AV := fun ls => id (ls.getD 0 .junk)
def res_element_test : AV → AV := fun x => (x)
noncomputable def T_element_test (x0 : Int) : Tr (AV) := (.c (x0 == (1 : Int)) (.r (Go.Cx.AV.func (77 : Nat) [] [])) (.c (x0 == (2 : Int)) (.r (Go.Cx.AV.func (78 : Nat) [] [])) (.c (x0 == (3 : Int)) (.r (Go.Cx.AV.func (79 : Nat) [] [])) (.r (Go.Cx.AV.func (80 : Nat) [] [])))))
noncomputable def g_element_test (x0 : Int) : Option (AV) := (T_element_test x0).val
set_option maxRecDepth 100000 in
theorem c_element_test (ls : List AV) (Rv : AV → Prop) : callA E_element_test Tryd.f67 (instL ls P_element_test 0) [] (outP O_element_test fun ls => Rv (tup_element_test ls)) = (T_element_test (getI (ls.getD 0 .junk))).fold False Rv := by kernel_rfl
noncomputable def S_element_test : Go.Cx.Spec := pureS (patF P_element_test fun ls => (T_element_test (getI (ls.getD 0 .junk))).map res_element_test)
set_option maxRecDepth 100000 in
theorem S_element_test_ok : Sound Tryd.prog 67 S_element_test :=
  pure_fork (E := E_element_test) (TblOK.enK TYiG49t_ok _ _ _ _ _) mixed rfl Tryd.func67 (c := Tryd.f67.body.getD .skip) (by kernel_rfl) (by kernel_rfl) (pats := P_element_test) (O := O_element_test) (tup := tup_element_test) (res := res_element_test) (T := fun ls => T_element_test (getI (ls.getD 0 .junk))) (fun ls => by kernel_rfl) c_element_test

noncomputable def TYiG410t : FuncId → Option Go.Cx.Spec := addT TYiG49t 67 S_element_test
theorem TYiG410t_ok : TblOK Tryd.prog TYiG410t := TYiG49t_ok.add S_element_test_ok

/- (comptoir/element.data).numbers -/
noncomputable def E_element_data_numbers : En := enK Tryd.prog TYiG410t [] [] [] [] 0
def P_element_data_numbers : List Pat := [.leaf .str, .leaf (.int .i64)]
def O_element_data_numbers : Pat := .leaf .bool
def tup_element_data_numbers : List AV → Bool := fun ls => getB (ls.getD 0 .junk)
def res_element_data_numbers : Bool → AV := fun x => .bool (x)
noncomputable def T_element_data_numbers (x0 : List UInt8) (x1 : Int) : Tr (Bool) := (opt (Go.Proofs.YtajknlhbfhemlaaDoor.g_digits_Right x0 (0 : Int) x1) fun (y0 : Bool) => (.r (y0)))
noncomputable def g_element_data_numbers (x0 : List UInt8) (x1 : Int) : Option (Bool) := (T_element_data_numbers x0 x1).val
set_option maxRecDepth 100000 in
theorem c_element_data_numbers (ls : List AV) (Rv : Bool → Prop) : callA E_element_data_numbers Tryd.f77 (instL ls P_element_data_numbers 0) [] (outP O_element_data_numbers fun ls => Rv (tup_element_data_numbers ls)) = (T_element_data_numbers (getS (ls.getD 0 .junk)) (getI (ls.getD 1 .junk))).fold False Rv := by kernel_rfl
noncomputable def S_element_data_numbers : Go.Cx.Spec := pureS (patF P_element_data_numbers fun ls => opt (g_element_data_numbers (getS (ls.getD 0 .junk)) (getI (ls.getD 1 .junk))) fun x => .r (res_element_data_numbers x))
set_option maxRecDepth 100000 in
theorem S_element_data_numbers_ok : Sound Tryd.prog 77 S_element_data_numbers :=
  pure_flat (E := E_element_data_numbers) (TblOK.enK TYiG410t_ok _ _ _ _ _) mixed rfl Tryd.func77 (c := Tryd.f77.body.getD .skip) (by kernel_rfl) (by kernel_rfl) (pats := P_element_data_numbers) (O := O_element_data_numbers) (tup := tup_element_data_numbers) (res := res_element_data_numbers) (g := fun ls => g_element_data_numbers (getS (ls.getD 0 .junk)) (getI (ls.getD 1 .junk))) (T := fun ls => T_element_data_numbers (getS (ls.getD 0 .junk)) (getI (ls.getD 1 .junk))) (fun _ => rfl) (fun ls => by kernel_rfl) c_element_data_numbers

noncomputable def TYiG411t : FuncId → Option Go.Cx.Spec := addT TYiG410t 77 S_element_data_numbers
theorem TYiG411t_ok : TblOK Tryd.prog TYiG411t := TYiG410t_ok.add S_element_data_numbers_ok

/- (comptoir/text.span).has -/
noncomputable def E_text_span_has : En := enK Tryd.prog TYiG411t [] [] [] [] 0
def P_text_span_has : List Pat := [.agg [.leaf (.int .u8), .leaf (.int .u8)], .leaf (.int .u8)]
def O_text_span_has : Pat := .leaf .bool
def tup_text_span_has : List AV → Bool := fun ls => getB (ls.getD 0 .junk)
def res_text_span_has : Bool → AV := fun x => .bool (x)
noncomputable def T_text_span_has (x0 : Int) (x1 : Int) (x2 : Int) : Tr (Bool) := (.c (Decidable.decide (x2 ≥ x0)) (.r (Decidable.decide (x2 ≤ x1))) (.r (Bool.false)))
noncomputable def g_text_span_has (x0 : Int) (x1 : Int) (x2 : Int) : Option (Bool) := (T_text_span_has x0 x1 x2).val
set_option maxRecDepth 100000 in
theorem c_text_span_has (ls : List AV) (Rv : Bool → Prop) : callA E_text_span_has Tryd.f100 (instL ls P_text_span_has 0) [] (outP O_text_span_has fun ls => Rv (tup_text_span_has ls)) = (T_text_span_has (getI (ls.getD 0 .junk)) (getI (ls.getD 1 .junk)) (getI (ls.getD 2 .junk))).fold False Rv := by kernel_rfl
noncomputable def S_text_span_has : Go.Cx.Spec := pureS (patF P_text_span_has fun ls => opt (g_text_span_has (getI (ls.getD 0 .junk)) (getI (ls.getD 1 .junk)) (getI (ls.getD 2 .junk))) fun x => .r (res_text_span_has x))
set_option maxRecDepth 100000 in
theorem S_text_span_has_ok : Sound Tryd.prog 100 S_text_span_has :=
  pure_flat (E := E_text_span_has) (TblOK.enK TYiG411t_ok _ _ _ _ _) mixed rfl Tryd.func100 (c := Tryd.f100.body.getD .skip) (by kernel_rfl) (by kernel_rfl) (pats := P_text_span_has) (O := O_text_span_has) (tup := tup_text_span_has) (res := res_text_span_has) (g := fun ls => g_text_span_has (getI (ls.getD 0 .junk)) (getI (ls.getD 1 .junk)) (getI (ls.getD 2 .junk))) (T := fun ls => T_text_span_has (getI (ls.getD 0 .junk)) (getI (ls.getD 1 .junk)) (getI (ls.getD 2 .junk))) (fun _ => rfl) (fun ls => by kernel_rfl) c_text_span_has

noncomputable def TYiG412t : FuncId → Option Go.Cx.Spec := addT TYiG411t 100 S_text_span_has
theorem TYiG412t_ok : TblOK Tryd.prog TYiG412t := TYiG411t_ok.add S_text_span_has_ok

/- comptoir/text.all -/
noncomputable def E_text_all_0l3 : En := enK Tryd.prog TYiG412t [] [(2, ⟨[2, 3, 4, 5, 6, 7, 8, 9, 12, 13, 14, 15, 16, 17, 18, 19, 20, 21, 22, 23, 24, 25, 26, 27, 28, 29, 30, 31], [], [], none, [], [], [], [], true⟩), (6, ⟨[2, 3, 4, 7, 8, 9, 12, 13, 17, 18, 19, 20, 21, 22, 23, 24, 25, 26, 27, 28, 29, 30, 31], [], [], none, [], [], [], [], true⟩)] [] [] 0
def P_text_all_0l3 : List Pat := [.leaf .str, .sl [.func 100 [.agg [.leaf (.int .u8), .leaf (.int .u8)]] [], .func 100 [.agg [.leaf (.int .u8), .leaf (.int .u8)]] [], .func 100 [.agg [.leaf (.int .u8), .leaf (.int .u8)]] []]]
def O_text_all_0l3 : Pat := .leaf .bool
def tup_text_all_0l3 : List AV → Bool := fun ls => getB (ls.getD 0 .junk)
def res_text_all_0l3 : Bool → AV := fun x => .bool (x)
noncomputable def T_text_all_0l3 (x0 : List UInt8) (x1 : Int) (x2 : Int) (x3 : Int) (x4 : Int) (x5 : Int) (x6 : Int) : Tr (((Int) ⊕ (Int) ⊕ (Bool × Int) ⊕ (Bool × Int) ⊕ (Bool × Int)) ⊕ (Bool)) := (.r (.inl (.inl ((0 : Int)))))
noncomputable def M_text_all_0l3 (x0 : List UInt8) (x1 : Int) (x2 : Int) (x3 : Int) (x4 : Int) (x5 : Int) (x6 : Int) : (Int) ⊕ (Int) ⊕ (Bool × Int) ⊕ (Bool × Int) ⊕ (Bool × Int) → Tr (((Int) ⊕ (Int) ⊕ (Bool × Int) ⊕ (Bool × Int) ⊕ (Bool × Int)) ⊕ (Bool))
  | .inl (i0) => (.c (Decidable.decide (i0 < (↑(List.length x0) : Int))) (.r (.inl (.inr (.inl (i0))))) (.r (.inr (Bool.true))))
  | .inr (.inl (i1)) => (.c (Decidable.decide ((0 : Int) ≤ i1)) (.c (Decidable.decide (i1 < (↑(List.length x0) : Int))) (opt (Go.Proofs.YtajknlhbfhemlaaDoor.g_text_span_has x1 x2 (↑(UInt8.toNat (List.getD x0 (Int.toNat i1) (0 : UInt8))) : Int)) fun (y0 : Bool) => (.r (.inl (.inr (.inr (.inl ((y0, i1)))))))) .bad) .bad)
  | .inr (.inr (.inl ((b0, i2)))) => (.c (b0) (.r (.inl (.inr (.inr (.inr (.inl ((Bool.true, i2)))))))) (.c (Decidable.decide ((0 : Int) ≤ i2)) (.c (Decidable.decide (i2 < (↑(List.length x0) : Int))) (opt (Go.Proofs.YtajknlhbfhemlaaDoor.g_text_span_has x3 x4 (↑(UInt8.toNat (List.getD x0 (Int.toNat i2) (0 : UInt8))) : Int)) fun (y0 : Bool) => (.r (.inl (.inr (.inr (.inr (.inl ((y0, i2))))))))) .bad) .bad))
  | .inr (.inr (.inr (.inl ((b1, i3))))) => (.c (b1) (.r (.inl (.inr (.inr (.inr (.inr ((Bool.true, i3)))))))) (.c (Decidable.decide ((0 : Int) ≤ i3)) (.c (Decidable.decide (i3 < (↑(List.length x0) : Int))) (opt (Go.Proofs.YtajknlhbfhemlaaDoor.g_text_span_has x5 x6 (↑(UInt8.toNat (List.getD x0 (Int.toNat i3) (0 : UInt8))) : Int)) fun (y0 : Bool) => (.r (.inl (.inr (.inr (.inr (.inr ((y0, i3))))))))) .bad) .bad))
  | .inr (.inr (.inr (.inr ((b2, i4))))) => (.c (!b2) (.r (.inr (Bool.false))) (.r (.inl (.inl (Go.IntKind.wrap Go.IntKind.i64 (i4 + (1 : Int)))))))
noncomputable def g_text_all_0l3 (x0 : List UInt8) (x1 : Int) (x2 : Int) (x3 : Int) (x4 : Int) (x5 : Int) (x6 : Int) : Option (Bool) := run (M_text_all_0l3 x0 x1 x2 x3 x4 x5 x6) (T_text_all_0l3 x0 x1 x2 x3 x4 x5 x6)
noncomputable def b_text_all_0l3 := Tryd.f99.body.getD .skip
noncomputable def st_text_all_0l3_0 (x0 : List UInt8) (x1 : Int) (x2 : Int) (x3 : Int) (x4 : Int) (x5 : Int) (x6 : Int) (i0 : Int) : St := ⟨[Go.Cx.AV.str x0, Go.Cx.AV.slice (1 : Nat) Go.Cx.Sh.any [Go.Cx.AV.func (100 : Nat) [Go.Cx.AV.agg [Go.Cx.AV.int Go.IntKind.u8 x1, Go.Cx.AV.int Go.IntKind.u8 x2]] [], Go.Cx.AV.func (100 : Nat) [Go.Cx.AV.agg [Go.Cx.AV.int Go.IntKind.u8 x3, Go.Cx.AV.int Go.IntKind.u8 x4]] [], Go.Cx.AV.func (100 : Nat) [Go.Cx.AV.agg [Go.Cx.AV.int Go.IntKind.u8 x5, Go.Cx.AV.int Go.IntKind.u8 x6]] []] Go.Cx.SK.ro, Go.Cx.AV.junk, Go.Cx.AV.junk, Go.Cx.AV.junk, Go.Cx.AV.junk, Go.Cx.AV.junk, Go.Cx.AV.junk, Go.Cx.AV.junk, Go.Cx.AV.junk, Go.Cx.AV.int Go.IntKind.i64 (↑(List.length x0) : Int), Go.Cx.AV.int Go.IntKind.i64 i0, Go.Cx.AV.junk, Go.Cx.AV.junk, Go.Cx.AV.junk, Go.Cx.AV.junk, Go.Cx.AV.junk, Go.Cx.AV.junk, Go.Cx.AV.junk, Go.Cx.AV.junk, Go.Cx.AV.junk, Go.Cx.AV.junk, Go.Cx.AV.junk, Go.Cx.AV.junk, Go.Cx.AV.junk, Go.Cx.AV.junk, Go.Cx.AV.junk, Go.Cx.AV.junk, Go.Cx.AV.junk, Go.Cx.AV.junk, Go.Cx.AV.junk, Go.Cx.AV.junk], []⟩
noncomputable def st_text_all_0l3_1 (x0 : List UInt8) (x1 : Int) (x2 : Int) (x3 : Int) (x4 : Int) (x5 : Int) (x6 : Int) (i1 : Int) : St := ⟨[Go.Cx.AV.str x0, Go.Cx.AV.slice (1 : Nat) Go.Cx.Sh.any [Go.Cx.AV.func (100 : Nat) [Go.Cx.AV.agg [Go.Cx.AV.int Go.IntKind.u8 x1, Go.Cx.AV.int Go.IntKind.u8 x2]] [], Go.Cx.AV.func (100 : Nat) [Go.Cx.AV.agg [Go.Cx.AV.int Go.IntKind.u8 x3, Go.Cx.AV.int Go.IntKind.u8 x4]] [], Go.Cx.AV.func (100 : Nat) [Go.Cx.AV.agg [Go.Cx.AV.int Go.IntKind.u8 x5, Go.Cx.AV.int Go.IntKind.u8 x6]] []] Go.Cx.SK.ro, Go.Cx.AV.junk, Go.Cx.AV.junk, Go.Cx.AV.junk, Go.Cx.AV.int Go.IntKind.i64 i1, Go.Cx.AV.bool Bool.false, Go.Cx.AV.junk, Go.Cx.AV.junk, Go.Cx.AV.junk, Go.Cx.AV.int Go.IntKind.i64 (↑(List.length x0) : Int), Go.Cx.AV.int Go.IntKind.i64 i1, Go.Cx.AV.junk, Go.Cx.AV.junk, Go.Cx.AV.slice (1 : Nat) Go.Cx.Sh.any [Go.Cx.AV.func (100 : Nat) [Go.Cx.AV.agg [Go.Cx.AV.int Go.IntKind.u8 x1, Go.Cx.AV.int Go.IntKind.u8 x2]] [], Go.Cx.AV.func (100 : Nat) [Go.Cx.AV.agg [Go.Cx.AV.int Go.IntKind.u8 x3, Go.Cx.AV.int Go.IntKind.u8 x4]] [], Go.Cx.AV.func (100 : Nat) [Go.Cx.AV.agg [Go.Cx.AV.int Go.IntKind.u8 x5, Go.Cx.AV.int Go.IntKind.u8 x6]] []] Go.Cx.SK.ro, Go.Cx.AV.int Go.IntKind.i64 (3 : Int), Go.Cx.AV.int Go.IntKind.i64 (0 : Int), Go.Cx.AV.junk, Go.Cx.AV.junk, Go.Cx.AV.junk, Go.Cx.AV.junk, Go.Cx.AV.junk, Go.Cx.AV.junk, Go.Cx.AV.junk, Go.Cx.AV.junk, Go.Cx.AV.junk, Go.Cx.AV.junk, Go.Cx.AV.junk, Go.Cx.AV.junk, Go.Cx.AV.junk, Go.Cx.AV.junk, Go.Cx.AV.junk], []⟩
noncomputable def st_text_all_0l3_2 (x0 : List UInt8) (x1 : Int) (x2 : Int) (x3 : Int) (x4 : Int) (x5 : Int) (x6 : Int) (b0 : Bool) (i2 : Int) : St := ⟨[Go.Cx.AV.str x0, Go.Cx.AV.slice (1 : Nat) Go.Cx.Sh.any [Go.Cx.AV.func (100 : Nat) [Go.Cx.AV.agg [Go.Cx.AV.int Go.IntKind.u8 x1, Go.Cx.AV.int Go.IntKind.u8 x2]] [], Go.Cx.AV.func (100 : Nat) [Go.Cx.AV.agg [Go.Cx.AV.int Go.IntKind.u8 x3, Go.Cx.AV.int Go.IntKind.u8 x4]] [], Go.Cx.AV.func (100 : Nat) [Go.Cx.AV.agg [Go.Cx.AV.int Go.IntKind.u8 x5, Go.Cx.AV.int Go.IntKind.u8 x6]] []] Go.Cx.SK.ro, Go.Cx.AV.junk, Go.Cx.AV.junk, Go.Cx.AV.junk, Go.Cx.AV.int Go.IntKind.i64 i2, Go.Cx.AV.bool b0, Go.Cx.AV.junk, Go.Cx.AV.junk, Go.Cx.AV.junk, Go.Cx.AV.int Go.IntKind.i64 (↑(List.length x0) : Int), Go.Cx.AV.int Go.IntKind.i64 i2, Go.Cx.AV.junk, Go.Cx.AV.junk, Go.Cx.AV.slice (1 : Nat) Go.Cx.Sh.any [Go.Cx.AV.func (100 : Nat) [Go.Cx.AV.agg [Go.Cx.AV.int Go.IntKind.u8 x1, Go.Cx.AV.int Go.IntKind.u8 x2]] [], Go.Cx.AV.func (100 : Nat) [Go.Cx.AV.agg [Go.Cx.AV.int Go.IntKind.u8 x3, Go.Cx.AV.int Go.IntKind.u8 x4]] [], Go.Cx.AV.func (100 : Nat) [Go.Cx.AV.agg [Go.Cx.AV.int Go.IntKind.u8 x5, Go.Cx.AV.int Go.IntKind.u8 x6]] []] Go.Cx.SK.ro, Go.Cx.AV.int Go.IntKind.i64 (3 : Int), Go.Cx.AV.int Go.IntKind.i64 (1 : Int), Go.Cx.AV.junk, Go.Cx.AV.junk, Go.Cx.AV.junk, Go.Cx.AV.junk, Go.Cx.AV.junk, Go.Cx.AV.junk, Go.Cx.AV.junk, Go.Cx.AV.junk, Go.Cx.AV.junk, Go.Cx.AV.junk, Go.Cx.AV.junk, Go.Cx.AV.junk, Go.Cx.AV.junk, Go.Cx.AV.junk, Go.Cx.AV.junk], []⟩
noncomputable def st_text_all_0l3_3 (x0 : List UInt8) (x1 : Int) (x2 : Int) (x3 : Int) (x4 : Int) (x5 : Int) (x6 : Int) (b1 : Bool) (i3 : Int) : St := ⟨[Go.Cx.AV.str x0, Go.Cx.AV.slice (1 : Nat) Go.Cx.Sh.any [Go.Cx.AV.func (100 : Nat) [Go.Cx.AV.agg [Go.Cx.AV.int Go.IntKind.u8 x1, Go.Cx.AV.int Go.IntKind.u8 x2]] [], Go.Cx.AV.func (100 : Nat) [Go.Cx.AV.agg [Go.Cx.AV.int Go.IntKind.u8 x3, Go.Cx.AV.int Go.IntKind.u8 x4]] [], Go.Cx.AV.func (100 : Nat) [Go.Cx.AV.agg [Go.Cx.AV.int Go.IntKind.u8 x5, Go.Cx.AV.int Go.IntKind.u8 x6]] []] Go.Cx.SK.ro, Go.Cx.AV.junk, Go.Cx.AV.junk, Go.Cx.AV.junk, Go.Cx.AV.int Go.IntKind.i64 i3, Go.Cx.AV.bool b1, Go.Cx.AV.junk, Go.Cx.AV.junk, Go.Cx.AV.junk, Go.Cx.AV.int Go.IntKind.i64 (↑(List.length x0) : Int), Go.Cx.AV.int Go.IntKind.i64 i3, Go.Cx.AV.junk, Go.Cx.AV.junk, Go.Cx.AV.slice (1 : Nat) Go.Cx.Sh.any [Go.Cx.AV.func (100 : Nat) [Go.Cx.AV.agg [Go.Cx.AV.int Go.IntKind.u8 x1, Go.Cx.AV.int Go.IntKind.u8 x2]] [], Go.Cx.AV.func (100 : Nat) [Go.Cx.AV.agg [Go.Cx.AV.int Go.IntKind.u8 x3, Go.Cx.AV.int Go.IntKind.u8 x4]] [], Go.Cx.AV.func (100 : Nat) [Go.Cx.AV.agg [Go.Cx.AV.int Go.IntKind.u8 x5, Go.Cx.AV.int Go.IntKind.u8 x6]] []] Go.Cx.SK.ro, Go.Cx.AV.int Go.IntKind.i64 (3 : Int), Go.Cx.AV.int Go.IntKind.i64 (2 : Int), Go.Cx.AV.junk, Go.Cx.AV.junk, Go.Cx.AV.junk, Go.Cx.AV.junk, Go.Cx.AV.junk, Go.Cx.AV.junk, Go.Cx.AV.junk, Go.Cx.AV.junk, Go.Cx.AV.junk, Go.Cx.AV.junk, Go.Cx.AV.junk, Go.Cx.AV.junk, Go.Cx.AV.junk, Go.Cx.AV.junk, Go.Cx.AV.junk], []⟩
noncomputable def st_text_all_0l3_4 (x0 : List UInt8) (x1 : Int) (x2 : Int) (x3 : Int) (x4 : Int) (x5 : Int) (x6 : Int) (b2 : Bool) (i4 : Int) : St := ⟨[Go.Cx.AV.str x0, Go.Cx.AV.slice (1 : Nat) Go.Cx.Sh.any [Go.Cx.AV.func (100 : Nat) [Go.Cx.AV.agg [Go.Cx.AV.int Go.IntKind.u8 x1, Go.Cx.AV.int Go.IntKind.u8 x2]] [], Go.Cx.AV.func (100 : Nat) [Go.Cx.AV.agg [Go.Cx.AV.int Go.IntKind.u8 x3, Go.Cx.AV.int Go.IntKind.u8 x4]] [], Go.Cx.AV.func (100 : Nat) [Go.Cx.AV.agg [Go.Cx.AV.int Go.IntKind.u8 x5, Go.Cx.AV.int Go.IntKind.u8 x6]] []] Go.Cx.SK.ro, Go.Cx.AV.junk, Go.Cx.AV.junk, Go.Cx.AV.junk, Go.Cx.AV.int Go.IntKind.i64 i4, Go.Cx.AV.bool b2, Go.Cx.AV.junk, Go.Cx.AV.junk, Go.Cx.AV.junk, Go.Cx.AV.int Go.IntKind.i64 (↑(List.length x0) : Int), Go.Cx.AV.int Go.IntKind.i64 i4, Go.Cx.AV.junk, Go.Cx.AV.junk, Go.Cx.AV.slice (1 : Nat) Go.Cx.Sh.any [Go.Cx.AV.func (100 : Nat) [Go.Cx.AV.agg [Go.Cx.AV.int Go.IntKind.u8 x1, Go.Cx.AV.int Go.IntKind.u8 x2]] [], Go.Cx.AV.func (100 : Nat) [Go.Cx.AV.agg [Go.Cx.AV.int Go.IntKind.u8 x3, Go.Cx.AV.int Go.IntKind.u8 x4]] [], Go.Cx.AV.func (100 : Nat) [Go.Cx.AV.agg [Go.Cx.AV.int Go.IntKind.u8 x5, Go.Cx.AV.int Go.IntKind.u8 x6]] []] Go.Cx.SK.ro, Go.Cx.AV.int Go.IntKind.i64 (3 : Int), Go.Cx.AV.int Go.IntKind.i64 (3 : Int), Go.Cx.AV.junk, Go.Cx.AV.junk, Go.Cx.AV.junk, Go.Cx.AV.junk, Go.Cx.AV.junk, Go.Cx.AV.junk, Go.Cx.AV.junk, Go.Cx.AV.junk, Go.Cx.AV.junk, Go.Cx.AV.junk, Go.Cx.AV.junk, Go.Cx.AV.junk, Go.Cx.AV.junk, Go.Cx.AV.junk, Go.Cx.AV.junk], []⟩
noncomputable def L_text_all_0l3 (x0 : List UInt8) (x1 : Int) (x2 : Int) (x3 : Int) (x4 : Int) (x5 : Int) (x6 : Int) (Rv : Bool → Prop) : (Int) ⊕ (Int) ⊕ (Bool × Int) ⊕ (Bool × Int) ⊕ (Bool × Int) → Prop
  | .inl (i0) => headL E_text_all_0l3 [.r, .l, .r, .d] b_text_all_0l3 1000 (bodyK E_text_all_0l3 Tryd.f99 (outP O_text_all_0l3 fun ls => Rv (tup_text_all_0l3 ls))) (st_text_all_0l3_0 x0 x1 x2 x3 x4 x5 x6 i0)
  | .inr (.inl (i1)) => headL E_text_all_0l3 [.r, .l, .r, .d, .o 1000, .r, .r, .l, .d, .r, .r, .l, .r, .d] b_text_all_0l3 1000 (bodyK E_text_all_0l3 Tryd.f99 (outP O_text_all_0l3 fun ls => Rv (tup_text_all_0l3 ls))) (st_text_all_0l3_1 x0 x1 x2 x3 x4 x5 x6 i1)
  | .inr (.inr (.inl ((b0, i2)))) => headL E_text_all_0l3 [.r, .l, .r, .d, .o 1000, .r, .r, .l, .d, .r, .r, .l, .r, .d] b_text_all_0l3 1000 (bodyK E_text_all_0l3 Tryd.f99 (outP O_text_all_0l3 fun ls => Rv (tup_text_all_0l3 ls))) (st_text_all_0l3_2 x0 x1 x2 x3 x4 x5 x6 b0 i2)
  | .inr (.inr (.inr (.inl ((b1, i3))))) => headL E_text_all_0l3 [.r, .l, .r, .d, .o 1000, .r, .r, .l, .d, .r, .r, .l, .r, .d] b_text_all_0l3 1000 (bodyK E_text_all_0l3 Tryd.f99 (outP O_text_all_0l3 fun ls => Rv (tup_text_all_0l3 ls))) (st_text_all_0l3_3 x0 x1 x2 x3 x4 x5 x6 b1 i3)
  | .inr (.inr (.inr (.inr ((b2, i4))))) => headL E_text_all_0l3 [.r, .l, .r, .d, .o 1000, .r, .r, .l, .d, .r, .r, .l, .r, .d] b_text_all_0l3 1000 (bodyK E_text_all_0l3 Tryd.f99 (outP O_text_all_0l3 fun ls => Rv (tup_text_all_0l3 ls))) (st_text_all_0l3_4 x0 x1 x2 x3 x4 x5 x6 b2 i4)
set_option maxRecDepth 100000 in
theorem l_text_all_0l3_0 (x0 : List UInt8) (x1 : Int) (x2 : Int) (x3 : Int) (x4 : Int) (x5 : Int) (x6 : Int) (Rv : Bool → Prop) (i0 : Int) : stepL E_text_all_0l3 [.r, .l, .r, .d] b_text_all_0l3 1000 (bodyK E_text_all_0l3 Tryd.f99 (outP O_text_all_0l3 fun ls => Rv (tup_text_all_0l3 ls))) (st_text_all_0l3_0 x0 x1 x2 x3 x4 x5 x6 i0) =
  (M_text_all_0l3 x0 x1 x2 x3 x4 x5 x6 (.inl (i0))).fold False (Sum.elim (L_text_all_0l3 x0 x1 x2 x3 x4 x5 x6 Rv) Rv) := by kernel_rfl
set_option maxRecDepth 100000 in
theorem l_text_all_0l3_1 (x0 : List UInt8) (x1 : Int) (x2 : Int) (x3 : Int) (x4 : Int) (x5 : Int) (x6 : Int) (Rv : Bool → Prop) (i1 : Int) : stepL E_text_all_0l3 [.r, .l, .r, .d, .o 1000, .r, .r, .l, .d, .r, .r, .l, .r, .d] b_text_all_0l3 1000 (bodyK E_text_all_0l3 Tryd.f99 (outP O_text_all_0l3 fun ls => Rv (tup_text_all_0l3 ls))) (st_text_all_0l3_1 x0 x1 x2 x3 x4 x5 x6 i1) =
  (M_text_all_0l3 x0 x1 x2 x3 x4 x5 x6 (.inr (.inl (i1)))).fold False (Sum.elim (L_text_all_0l3 x0 x1 x2 x3 x4 x5 x6 Rv) Rv) := by kernel_rfl
set_option maxRecDepth 100000 in
theorem l_text_all_0l3_2 (x0 : List UInt8) (x1 : Int) (x2 : Int) (x3 : Int) (x4 : Int) (x5 : Int) (x6 : Int) (Rv : Bool → Prop) (b0 : Bool) (i2 : Int) : stepL E_text_all_0l3 [.r, .l, .r, .d, .o 1000, .r, .r, .l, .d, .r, .r, .l, .r, .d] b_text_all_0l3 1000 (bodyK E_text_all_0l3 Tryd.f99 (outP O_text_all_0l3 fun ls => Rv (tup_text_all_0l3 ls))) (st_text_all_0l3_2 x0 x1 x2 x3 x4 x5 x6 b0 i2) =
  (M_text_all_0l3 x0 x1 x2 x3 x4 x5 x6 (.inr (.inr (.inl ((b0, i2)))))).fold False (Sum.elim (L_text_all_0l3 x0 x1 x2 x3 x4 x5 x6 Rv) Rv) := by kernel_rfl
set_option maxRecDepth 100000 in
theorem l_text_all_0l3_3 (x0 : List UInt8) (x1 : Int) (x2 : Int) (x3 : Int) (x4 : Int) (x5 : Int) (x6 : Int) (Rv : Bool → Prop) (b1 : Bool) (i3 : Int) : stepL E_text_all_0l3 [.r, .l, .r, .d, .o 1000, .r, .r, .l, .d, .r, .r, .l, .r, .d] b_text_all_0l3 1000 (bodyK E_text_all_0l3 Tryd.f99 (outP O_text_all_0l3 fun ls => Rv (tup_text_all_0l3 ls))) (st_text_all_0l3_3 x0 x1 x2 x3 x4 x5 x6 b1 i3) =
  (M_text_all_0l3 x0 x1 x2 x3 x4 x5 x6 (.inr (.inr (.inr (.inl ((b1, i3))))))).fold False (Sum.elim (L_text_all_0l3 x0 x1 x2 x3 x4 x5 x6 Rv) Rv) := by kernel_rfl
set_option maxRecDepth 100000 in
theorem l_text_all_0l3_4 (x0 : List UInt8) (x1 : Int) (x2 : Int) (x3 : Int) (x4 : Int) (x5 : Int) (x6 : Int) (Rv : Bool → Prop) (b2 : Bool) (i4 : Int) : stepL E_text_all_0l3 [.r, .l, .r, .d, .o 1000, .r, .r, .l, .d, .r, .r, .l, .r, .d] b_text_all_0l3 1000 (bodyK E_text_all_0l3 Tryd.f99 (outP O_text_all_0l3 fun ls => Rv (tup_text_all_0l3 ls))) (st_text_all_0l3_4 x0 x1 x2 x3 x4 x5 x6 b2 i4) =
  (M_text_all_0l3 x0 x1 x2 x3 x4 x5 x6 (.inr (.inr (.inr (.inr ((b2, i4))))))).fold False (Sum.elim (L_text_all_0l3 x0 x1 x2 x3 x4 x5 x6 Rv) Rv) := by kernel_rfl
set_option maxRecDepth 100000 in
theorem e_text_all_0l3_0 (x0 : List UInt8) (x1 : Int) (x2 : Int) (x3 : Int) (x4 : Int) (x5 : Int) (x6 : Int) (Rv : Bool → Prop) (i0 : Int) : L_text_all_0l3 x0 x1 x2 x3 x4 x5 x6 Rv (.inl (i0)) = headL E_text_all_0l3 [.r, .l, .r, .d] b_text_all_0l3 1000 (bodyK E_text_all_0l3 Tryd.f99 (outP O_text_all_0l3 fun ls => Rv (tup_text_all_0l3 ls))) (st_text_all_0l3_0 x0 x1 x2 x3 x4 x5 x6 i0) := by kernel_rfl
set_option maxRecDepth 100000 in
theorem e_text_all_0l3_1 (x0 : List UInt8) (x1 : Int) (x2 : Int) (x3 : Int) (x4 : Int) (x5 : Int) (x6 : Int) (Rv : Bool → Prop) (i1 : Int) : L_text_all_0l3 x0 x1 x2 x3 x4 x5 x6 Rv (.inr (.inl (i1))) = headL E_text_all_0l3 [.r, .l, .r, .d, .o 1000, .r, .r, .l, .d, .r, .r, .l, .r, .d] b_text_all_0l3 1000 (bodyK E_text_all_0l3 Tryd.f99 (outP O_text_all_0l3 fun ls => Rv (tup_text_all_0l3 ls))) (st_text_all_0l3_1 x0 x1 x2 x3 x4 x5 x6 i1) := by kernel_rfl
set_option maxRecDepth 100000 in
theorem e_text_all_0l3_2 (x0 : List UInt8) (x1 : Int) (x2 : Int) (x3 : Int) (x4 : Int) (x5 : Int) (x6 : Int) (Rv : Bool → Prop) (b0 : Bool) (i2 : Int) : L_text_all_0l3 x0 x1 x2 x3 x4 x5 x6 Rv (.inr (.inr (.inl ((b0, i2))))) = headL E_text_all_0l3 [.r, .l, .r, .d, .o 1000, .r, .r, .l, .d, .r, .r, .l, .r, .d] b_text_all_0l3 1000 (bodyK E_text_all_0l3 Tryd.f99 (outP O_text_all_0l3 fun ls => Rv (tup_text_all_0l3 ls))) (st_text_all_0l3_2 x0 x1 x2 x3 x4 x5 x6 b0 i2) := by kernel_rfl
set_option maxRecDepth 100000 in
theorem e_text_all_0l3_3 (x0 : List UInt8) (x1 : Int) (x2 : Int) (x3 : Int) (x4 : Int) (x5 : Int) (x6 : Int) (Rv : Bool → Prop) (b1 : Bool) (i3 : Int) : L_text_all_0l3 x0 x1 x2 x3 x4 x5 x6 Rv (.inr (.inr (.inr (.inl ((b1, i3)))))) = headL E_text_all_0l3 [.r, .l, .r, .d, .o 1000, .r, .r, .l, .d, .r, .r, .l, .r, .d] b_text_all_0l3 1000 (bodyK E_text_all_0l3 Tryd.f99 (outP O_text_all_0l3 fun ls => Rv (tup_text_all_0l3 ls))) (st_text_all_0l3_3 x0 x1 x2 x3 x4 x5 x6 b1 i3) := by kernel_rfl
set_option maxRecDepth 100000 in
theorem e_text_all_0l3_4 (x0 : List UInt8) (x1 : Int) (x2 : Int) (x3 : Int) (x4 : Int) (x5 : Int) (x6 : Int) (Rv : Bool → Prop) (b2 : Bool) (i4 : Int) : L_text_all_0l3 x0 x1 x2 x3 x4 x5 x6 Rv (.inr (.inr (.inr (.inr ((b2, i4)))))) = headL E_text_all_0l3 [.r, .l, .r, .d, .o 1000, .r, .r, .l, .d, .r, .r, .l, .r, .d] b_text_all_0l3 1000 (bodyK E_text_all_0l3 Tryd.f99 (outP O_text_all_0l3 fun ls => Rv (tup_text_all_0l3 ls))) (st_text_all_0l3_4 x0 x1 x2 x3 x4 x5 x6 b2 i4) := by kernel_rfl
section
attribute [local irreducible] Tr.fold M_text_all_0l3 L_text_all_0l3 T_text_all_0l3 E_text_all_0l3 b_text_all_0l3 bodyK headC headL stepC stepL wpX callA
set_option maxRecDepth 100000 in
theorem h_text_all_0l3 (x0 : List UInt8) (x1 : Int) (x2 : Int) (x3 : Int) (x4 : Int) (x5 : Int) (x6 : Int) (Rv : Bool → Prop) : ∀ s, (M_text_all_0l3 x0 x1 x2 x3 x4 x5 x6 s).fold False (Sum.elim (L_text_all_0l3 x0 x1 x2 x3 x4 x5 x6 Rv) Rv) → L_text_all_0l3 x0 x1 x2 x3 x4 x5 x6 Rv s := by
  rintro (v0 | v0 | ⟨v0, v1⟩ | ⟨v0, v1⟩ | ⟨v0, v1⟩)
  · exact fun h => Eq.mpr (e_text_all_0l3_0 x0 x1 x2 x3 x4 x5 x6 Rv v0) (headL_of (Eq.mpr (l_text_all_0l3_0 x0 x1 x2 x3 x4 x5 x6 Rv v0) h))
  · exact fun h => Eq.mpr (e_text_all_0l3_1 x0 x1 x2 x3 x4 x5 x6 Rv v0) (headL_of (Eq.mpr (l_text_all_0l3_1 x0 x1 x2 x3 x4 x5 x6 Rv v0) h))
  · exact fun h => Eq.mpr (e_text_all_0l3_2 x0 x1 x2 x3 x4 x5 x6 Rv v0 v1) (headL_of (Eq.mpr (l_text_all_0l3_2 x0 x1 x2 x3 x4 x5 x6 Rv v0 v1) h))
  · exact fun h => Eq.mpr (e_text_all_0l3_3 x0 x1 x2 x3 x4 x5 x6 Rv v0 v1) (headL_of (Eq.mpr (l_text_all_0l3_3 x0 x1 x2 x3 x4 x5 x6 Rv v0 v1) h))
  · exact fun h => Eq.mpr (e_text_all_0l3_4 x0 x1 x2 x3 x4 x5 x6 Rv v0 v1) (headL_of (Eq.mpr (l_text_all_0l3_4 x0 x1 x2 x3 x4 x5 x6 Rv v0 v1) h))
set_option maxRecDepth 100000 in
theorem c_text_all_0l3 (ls : List AV) (Rv : Bool → Prop) : callA E_text_all_0l3 Tryd.f99 (instL ls P_text_all_0l3 0) [] (outP O_text_all_0l3 fun ls => Rv (tup_text_all_0l3 ls)) = (T_text_all_0l3 (getS (ls.getD 0 .junk)) (getI (ls.getD 1 .junk)) (getI (ls.getD 2 .junk)) (getI (ls.getD 3 .junk)) (getI (ls.getD 4 .junk)) (getI (ls.getD 5 .junk)) (getI (ls.getD 6 .junk))).fold False (Sum.elim (L_text_all_0l3 (getS (ls.getD 0 .junk)) (getI (ls.getD 1 .junk)) (getI (ls.getD 2 .junk)) (getI (ls.getD 3 .junk)) (getI (ls.getD 4 .junk)) (getI (ls.getD 5 .junk)) (getI (ls.getD 6 .junk)) Rv) Rv) := by kernel_rfl
end
noncomputable def S_text_all_0l3 : Go.Cx.Spec := pureS (patF P_text_all_0l3 fun ls => opt (g_text_all_0l3 (getS (ls.getD 0 .junk)) (getI (ls.getD 1 .junk)) (getI (ls.getD 2 .junk)) (getI (ls.getD 3 .junk)) (getI (ls.getD 4 .junk)) (getI (ls.getD 5 .junk)) (getI (ls.getD 6 .junk))) fun x => .r (res_text_all_0l3 x))
set_option maxRecDepth 100000 in
theorem S_text_all_0l3_ok : Sound Tryd.prog 99 S_text_all_0l3 :=
  pure_mach (E := E_text_all_0l3) (TblOK.enK TYiG412t_ok _ _ _ _ _) mixed rfl Tryd.func99 (c := Tryd.f99.body.getD .skip) (by kernel_rfl) (by kernel_rfl) (pats := P_text_all_0l3) (O := O_text_all_0l3) (tup := tup_text_all_0l3) (res := res_text_all_0l3) (g := fun ls => g_text_all_0l3 (getS (ls.getD 0 .junk)) (getI (ls.getD 1 .junk)) (getI (ls.getD 2 .junk)) (getI (ls.getD 3 .junk)) (getI (ls.getD 4 .junk)) (getI (ls.getD 5 .junk)) (getI (ls.getD 6 .junk))) (T := fun ls => T_text_all_0l3 (getS (ls.getD 0 .junk)) (getI (ls.getD 1 .junk)) (getI (ls.getD 2 .junk)) (getI (ls.getD 3 .junk)) (getI (ls.getD 4 .junk)) (getI (ls.getD 5 .junk)) (getI (ls.getD 6 .junk))) (step := fun ls => M_text_all_0l3 (getS (ls.getD 0 .junk)) (getI (ls.getD 1 .junk)) (getI (ls.getD 2 .junk)) (getI (ls.getD 3 .junk)) (getI (ls.getD 4 .junk)) (getI (ls.getD 5 .junk)) (getI (ls.getD 6 .junk))) (L := fun ls => L_text_all_0l3 (getS (ls.getD 0 .junk)) (getI (ls.getD 1 .junk)) (getI (ls.getD 2 .junk)) (getI (ls.getD 3 .junk)) (getI (ls.getD 4 .junk)) (getI (ls.getD 5 .junk)) (getI (ls.getD 6 .junk))) (fun _ => rfl) (fun ls => by kernel_rfl) c_text_all_0l3 (fun ls Rv => h_text_all_0l3 (getS (ls.getD 0 .junk)) (getI (ls.getD 1 .junk)) (getI (ls.getD 2 .junk)) (getI (ls.getD 3 .junk)) (getI (ls.getD 4 .junk)) (getI (ls.getD 5 .junk)) (getI (ls.getD 6 .junk)) Rv)

noncomputable def TYiG413t : FuncId → Option Go.Cx.Spec := addT TYiG412t 99 S_text_all_0l3
theorem TYiG413t_ok : TblOK Tryd.prog TYiG413t := TYiG412t_ok.add S_text_all_0l3_ok

/- comptoir/text.Aln -/
noncomputable def E_text_Aln : En := enK Tryd.prog TYiG413t [] [] [] [] 0
def P_text_Aln : List Pat := [.leaf .str, .leaf (.int .i64), .leaf (.int .i64)]
def O_text_Aln : Pat := .leaf .bool
def tup_text_Aln : List AV → Bool := fun ls => getB (ls.getD 0 .junk)
def res_text_Aln : Bool → AV := fun x => .bool (x)
noncomputable def T_text_Aln (x0 : List UInt8) (x1 : Int) (x2 : Int) : Tr (Bool) := (.c (Decidable.decide ((↑(List.length x0) : Int) ≥ x1)) (.c (Decidable.decide ((↑(List.length x0) : Int) ≤ x2)) (opt (Go.Proofs.YtajknlhbfhemlaaDoor.g_text_all_0l3 x0 (48 : Int) (57 : Int) (65 : Int) (90 : Int) (97 : Int) (122 : Int)) fun (y0 : Bool) => (.r (y0))) (.r (Bool.false))) (.r (Bool.false)))
noncomputable def g_text_Aln (x0 : List UInt8) (x1 : Int) (x2 : Int) : Option (Bool) := (T_text_Aln x0 x1 x2).val
set_option maxRecDepth 100000 in
theorem c_text_Aln (ls : List AV) (Rv : Bool → Prop) : callA E_text_Aln Tryd.f90 (instL ls P_text_Aln 0) [] (outP O_text_Aln fun ls => Rv (tup_text_Aln ls)) = (T_text_Aln (getS (ls.getD 0 .junk)) (getI (ls.getD 1 .junk)) (getI (ls.getD 2 .junk))).fold False Rv := by kernel_rfl
noncomputable def S_text_Aln : Go.Cx.Spec := pureS (patF P_text_Aln fun ls => opt (g_text_Aln (getS (ls.getD 0 .junk)) (getI (ls.getD 1 .junk)) (getI (ls.getD 2 .junk))) fun x => .r (res_text_Aln x))
set_option maxRecDepth 100000 in
theorem S_text_Aln_ok : Sound Tryd.prog 90 S_text_Aln :=
  pure_flat (E := E_text_Aln) (TblOK.enK TYiG413t_ok _ _ _ _ _) mixed rfl Tryd.func90 (c := Tryd.f90.body.getD .skip) (by kernel_rfl) (by kernel_rfl) (pats := P_text_Aln) (O := O_text_Aln) (tup := tup_text_Aln) (res := res_text_Aln) (g := fun ls => g_text_Aln (getS (ls.getD 0 .junk)) (getI (ls.getD 1 .junk)) (getI (ls.getD 2 .junk))) (T := fun ls => T_text_Aln (getS (ls.getD 0 .junk)) (getI (ls.getD 1 .junk)) (getI (ls.getD 2 .junk))) (fun _ => rfl) (fun ls => by kernel_rfl) c_text_Aln

noncomputable def TYiG414t : FuncId → Option Go.Cx.Spec := addT TYiG413t 90 S_text_Aln
theorem TYiG414t_ok : TblOK Tryd.prog TYiG414t := TYiG413t_ok.add S_text_Aln_ok

/- (comptoir/element.data).letters -/
noncomputable def E_element_data_letters : En := enK Tryd.prog TYiG414t [] [] [] [] 0
def P_element_data_letters : List Pat := [.leaf .str, .leaf (.int .i64)]
def O_element_data_letters : Pat := .leaf .bool
def tup_element_data_letters : List AV → Bool := fun ls => getB (ls.getD 0 .junk)
def res_element_data_letters : Bool → AV := fun x => .bool (x)
noncomputable def T_element_data_letters (x0 : List UInt8) (x1 : Int) : Tr (Bool) := (opt (Go.Proofs.YtajknlhbfhemlaaDoor.g_text_Aln x0 (0 : Int) x1) fun (y0 : Bool) => (.r (y0)))
noncomputable def g_element_data_letters (x0 : List UInt8) (x1 : Int) : Option (Bool) := (T_element_data_letters x0 x1).val
set_option maxRecDepth 100000 in
theorem c_element_data_letters (ls : List AV) (Rv : Bool → Prop) : callA E_element_data_letters Tryd.f78 (instL ls P_element_data_letters 0) [] (outP O_element_data_letters fun ls => Rv (tup_element_data_letters ls)) = (T_element_data_letters (getS (ls.getD 0 .junk)) (getI (ls.getD 1 .junk))).fold False Rv := by kernel_rfl
noncomputable def S_element_data_letters : Go.Cx.Spec := pureS (patF P_element_data_letters fun ls => opt (g_element_data_letters (getS (ls.getD 0 .junk)) (getI (ls.getD 1 .junk))) fun x => .r (res_element_data_letters x))
set_option maxRecDepth 100000 in
theorem S_element_data_letters_ok : Sound Tryd.prog 78 S_element_data_letters :=
  pure_flat (E := E_element_data_letters) (TblOK.enK TYiG414t_ok _ _ _ _ _) mixed rfl Tryd.func78 (c := Tryd.f78.body.getD .skip) (by kernel_rfl) (by kernel_rfl) (pats := P_element_data_letters) (O := O_element_data_letters) (tup := tup_element_data_letters) (res := res_element_data_letters) (g := fun ls => g_element_data_letters (getS (ls.getD 0 .junk)) (getI (ls.getD 1 .junk))) (T := fun ls => T_element_data_letters (getS (ls.getD 0 .junk)) (getI (ls.getD 1 .junk))) (fun _ => rfl) (fun ls => by kernel_rfl) c_element_data_letters

noncomputable def TYiG415t : FuncId → Option Go.Cx.Spec := addT TYiG414t 78 S_element_data_letters
theorem TYiG415t_ok : TblOK Tryd.prog TYiG415t := TYiG414t_ok.add S_element_data_letters_ok

/- comptoir/text.all -/
noncomputable def E_text_all_0l1 : En := enK Tryd.prog TYiG415t [] [(2, ⟨[2, 3, 4, 5, 6, 7, 8, 9, 12, 13, 14, 15, 16, 17, 18, 19, 20, 21, 22, 23, 24, 25, 26, 27, 28, 29, 30, 31], [], [], none, [], [], [], [], true⟩), (6, ⟨[2, 3, 4, 7, 8, 9, 12, 13, 17, 18, 19, 20, 21, 22, 23, 24, 25, 26, 27, 28, 29, 30, 31], [], [], none, [], [], [], [], true⟩)] [] [] 0
def P_text_all_0l1 : List Pat := [.leaf .str, .sl [.func 100 [.agg [.leaf (.int .u8), .leaf (.int .u8)]] []]]
def O_text_all_0l1 : Pat := .leaf .bool
def tup_text_all_0l1 : List AV → Bool := fun ls => getB (ls.getD 0 .junk)
def res_text_all_0l1 : Bool → AV := fun x => .bool (x)
noncomputable def T_text_all_0l1 (x0 : List UInt8) (x1 : Int) (x2 : Int) : Tr (((Int) ⊕ (Int) ⊕ (Bool × Int)) ⊕ (Bool)) := (.r (.inl (.inl ((0 : Int)))))
noncomputable def M_text_all_0l1 (x0 : List UInt8) (x1 : Int) (x2 : Int) : (Int) ⊕ (Int) ⊕ (Bool × Int) → Tr (((Int) ⊕ (Int) ⊕ (Bool × Int)) ⊕ (Bool))
  | .inl (i0) => (.c (Decidable.decide (i0 < (↑(List.length x0) : Int))) (.r (.inl (.inr (.inl (i0))))) (.r (.inr (Bool.true))))
  | .inr (.inl (i1)) => (.c (Decidable.decide ((0 : Int) ≤ i1)) (.c (Decidable.decide (i1 < (↑(List.length x0) : Int))) (opt (Go.Proofs.YtajknlhbfhemlaaDoor.g_text_span_has x1 x2 (↑(UInt8.toNat (List.getD x0 (Int.toNat i1) (0 : UInt8))) : Int)) fun (y0 : Bool) => (.r (.inl (.inr (.inr ((y0, i1))))))) .bad) .bad)
  | .inr (.inr ((b0, i2))) => (.c (!b0) (.r (.inr (Bool.false))) (.r (.inl (.inl (Go.IntKind.wrap Go.IntKind.i64 (i2 + (1 : Int)))))))
noncomputable def g_text_all_0l1 (x0 : List UInt8) (x1 : Int) (x2 : Int) : Option (Bool) := run (M_text_all_0l1 x0 x1 x2) (T_text_all_0l1 x0 x1 x2)
noncomputable def b_text_all_0l1 := Tryd.f99.body.getD .skip
noncomputable def st_text_all_0l1_0 (x0 : List UInt8) (x1 : Int) (x2 : Int) (i0 : Int) : St := ⟨[Go.Cx.AV.str x0, Go.Cx.AV.slice (1 : Nat) Go.Cx.Sh.any [Go.Cx.AV.func (100 : Nat) [Go.Cx.AV.agg [Go.Cx.AV.int Go.IntKind.u8 x1, Go.Cx.AV.int Go.IntKind.u8 x2]] []] Go.Cx.SK.ro, Go.Cx.AV.junk, Go.Cx.AV.junk, Go.Cx.AV.junk, Go.Cx.AV.junk, Go.Cx.AV.junk, Go.Cx.AV.junk, Go.Cx.AV.junk, Go.Cx.AV.junk, Go.Cx.AV.int Go.IntKind.i64 (↑(List.length x0) : Int), Go.Cx.AV.int Go.IntKind.i64 i0, Go.Cx.AV.junk, Go.Cx.AV.junk, Go.Cx.AV.junk, Go.Cx.AV.junk, Go.Cx.AV.junk, Go.Cx.AV.junk, Go.Cx.AV.junk, Go.Cx.AV.junk, Go.Cx.AV.junk, Go.Cx.AV.junk, Go.Cx.AV.junk, Go.Cx.AV.junk, Go.Cx.AV.junk, Go.Cx.AV.junk, Go.Cx.AV.junk, Go.Cx.AV.junk, Go.Cx.AV.junk, Go.Cx.AV.junk, Go.Cx.AV.junk, Go.Cx.AV.junk], []⟩
noncomputable def st_text_all_0l1_1 (x0 : List UInt8) (x1 : Int) (x2 : Int) (i1 : Int) : St := ⟨[Go.Cx.AV.str x0, Go.Cx.AV.slice (1 : Nat) Go.Cx.Sh.any [Go.Cx.AV.func (100 : Nat) [Go.Cx.AV.agg [Go.Cx.AV.int Go.IntKind.u8 x1, Go.Cx.AV.int Go.IntKind.u8 x2]] []] Go.Cx.SK.ro, Go.Cx.AV.junk, Go.Cx.AV.junk, Go.Cx.AV.junk, Go.Cx.AV.int Go.IntKind.i64 i1, Go.Cx.AV.bool Bool.false, Go.Cx.AV.junk, Go.Cx.AV.junk, Go.Cx.AV.junk, Go.Cx.AV.int Go.IntKind.i64 (↑(List.length x0) : Int), Go.Cx.AV.int Go.IntKind.i64 i1, Go.Cx.AV.junk, Go.Cx.AV.junk, Go.Cx.AV.slice (1 : Nat) Go.Cx.Sh.any [Go.Cx.AV.func (100 : Nat) [Go.Cx.AV.agg [Go.Cx.AV.int Go.IntKind.u8 x1, Go.Cx.AV.int Go.IntKind.u8 x2]] []] Go.Cx.SK.ro, Go.Cx.AV.int Go.IntKind.i64 (1 : Int), Go.Cx.AV.int Go.IntKind.i64 (0 : Int), Go.Cx.AV.junk, Go.Cx.AV.junk, Go.Cx.AV.junk, Go.Cx.AV.junk, Go.Cx.AV.junk, Go.Cx.AV.junk, Go.Cx.AV.junk, Go.Cx.AV.junk, Go.Cx.AV.junk, Go.Cx.AV.junk, Go.Cx.AV.junk, Go.Cx.AV.junk, Go.Cx.AV.junk, Go.Cx.AV.junk, Go.Cx.AV.junk], []⟩
noncomputable def st_text_all_0l1_2 (x0 : List UInt8) (x1 : Int) (x2 : Int) (b0 : Bool) (i2 : Int) : St := ⟨[Go.Cx.AV.str x0, Go.Cx.AV.slice (1 : Nat) Go.Cx.Sh.any [Go.Cx.AV.func (100 : Nat) [Go.Cx.AV.agg [Go.Cx.AV.int Go.IntKind.u8 x1, Go.Cx.AV.int Go.IntKind.u8 x2]] []] Go.Cx.SK.ro, Go.Cx.AV.junk, Go.Cx.AV.junk, Go.Cx.AV.junk, Go.Cx.AV.int Go.IntKind.i64 i2, Go.Cx.AV.bool b0, Go.Cx.AV.junk, Go.Cx.AV.junk, Go.Cx.AV.junk, Go.Cx.AV.int Go.IntKind.i64 (↑(List.length x0) : Int), Go.Cx.AV.int Go.IntKind.i64 i2, Go.Cx.AV.junk, Go.Cx.AV.junk, Go.Cx.AV.slice (1 : Nat) Go.Cx.Sh.any [Go.Cx.AV.func (100 : Nat) [Go.Cx.AV.agg [Go.Cx.AV.int Go.IntKind.u8 x1, Go.Cx.AV.int Go.IntKind.u8 x2]] []] Go.Cx.SK.ro, Go.Cx.AV.int Go.IntKind.i64 (1 : Int), Go.Cx.AV.int Go.IntKind.i64 (1 : Int), Go.Cx.AV.junk, Go.Cx.AV.junk, Go.Cx.AV.junk, Go.Cx.AV.junk, Go.Cx.AV.junk, Go.Cx.AV.junk, Go.Cx.AV.junk, Go.Cx.AV.junk, Go.Cx.AV.junk, Go.Cx.AV.junk, Go.Cx.AV.junk, Go.Cx.AV.junk, Go.Cx.AV.junk, Go.Cx.AV.junk, Go.Cx.AV.junk], []⟩
noncomputable def L_text_all_0l1 (x0 : List UInt8) (x1 : Int) (x2 : Int) (Rv : Bool → Prop) : (Int) ⊕ (Int) ⊕ (Bool × Int) → Prop
  | .inl (i0) => headL E_text_all_0l1 [.r, .l, .r, .d] b_text_all_0l1 1000 (bodyK E_text_all_0l1 Tryd.f99 (outP O_text_all_0l1 fun ls => Rv (tup_text_all_0l1 ls))) (st_text_all_0l1_0 x0 x1 x2 i0)
  | .inr (.inl (i1)) => headL E_text_all_0l1 [.r, .l, .r, .d, .o 1000, .r, .r, .l, .d, .r, .r, .l, .r, .d] b_text_all_0l1 1000 (bodyK E_text_all_0l1 Tryd.f99 (outP O_text_all_0l1 fun ls => Rv (tup_text_all_0l1 ls))) (st_text_all_0l1_1 x0 x1 x2 i1)
  | .inr (.inr ((b0, i2))) => headL E_text_all_0l1 [.r, .l, .r, .d, .o 1000, .r, .r, .l, .d, .r, .r, .l, .r, .d] b_text_all_0l1 1000 (bodyK E_text_all_0l1 Tryd.f99 (outP O_text_all_0l1 fun ls => Rv (tup_text_all_0l1 ls))) (st_text_all_0l1_2 x0 x1 x2 b0 i2)
set_option maxRecDepth 100000 in
theorem l_text_all_0l1_0 (x0 : List UInt8) (x1 : Int) (x2 : Int) (Rv : Bool → Prop) (i0 : Int) : stepL E_text_all_0l1 [.r, .l, .r, .d] b_text_all_0l1 1000 (bodyK E_text_all_0l1 Tryd.f99 (outP O_text_all_0l1 fun ls => Rv (tup_text_all_0l1 ls))) (st_text_all_0l1_0 x0 x1 x2 i0) =
  (M_text_all_0l1 x0 x1 x2 (.inl (i0))).fold False (Sum.elim (L_text_all_0l1 x0 x1 x2 Rv) Rv) := by kernel_rfl
set_option maxRecDepth 100000 in
theorem l_text_all_0l1_1 (x0 : List UInt8) (x1 : Int) (x2 : Int) (Rv : Bool → Prop) (i1 : Int) : stepL E_text_all_0l1 [.r, .l, .r, .d, .o 1000, .r, .r, .l, .d, .r, .r, .l, .r, .d] b_text_all_0l1 1000 (bodyK E_text_all_0l1 Tryd.f99 (outP O_text_all_0l1 fun ls => Rv (tup_text_all_0l1 ls))) (st_text_all_0l1_1 x0 x1 x2 i1) =
  (M_text_all_0l1 x0 x1 x2 (.inr (.inl (i1)))).fold False (Sum.elim (L_text_all_0l1 x0 x1 x2 Rv) Rv) := by kernel_rfl
set_option maxRecDepth 100000 in
theorem l_text_all_0l1_2 (x0 : List UInt8) (x1 : Int) (x2 : Int) (Rv : Bool → Prop) (b0 : Bool) (i2 : Int) : stepL E_text_all_0l1 [.r, .l, .r, .d, .o 1000, .r, .r, .l, .d, .r, .r, .l, .r, .d] b_text_all_0l1 1000 (bodyK E_text_all_0l1 Tryd.f99 (outP O_text_all_0l1 fun ls => Rv (tup_text_all_0l1 ls))) (st_text_all_0l1_2 x0 x1 x2 b0 i2) =
  (M_text_all_0l1 x0 x1 x2 (.inr (.inr ((b0, i2))))).fold False (Sum.elim (L_text_all_0l1 x0 x1 x2 Rv) Rv) := by kernel_rfl
set_option maxRecDepth 100000 in
theorem e_text_all_0l1_0 (x0 : List UInt8) (x1 : Int) (x2 : Int) (Rv : Bool → Prop) (i0 : Int) : L_text_all_0l1 x0 x1 x2 Rv (.inl (i0)) = headL E_text_all_0l1 [.r, .l, .r, .d] b_text_all_0l1 1000 (bodyK E_text_all_0l1 Tryd.f99 (outP O_text_all_0l1 fun ls => Rv (tup_text_all_0l1 ls))) (st_text_all_0l1_0 x0 x1 x2 i0) := by kernel_rfl
set_option maxRecDepth 100000 in
theorem e_text_all_0l1_1 (x0 : List UInt8) (x1 : Int) (x2 : Int) (Rv : Bool → Prop) (i1 : Int) : L_text_all_0l1 x0 x1 x2 Rv (.inr (.inl (i1))) = headL E_text_all_0l1 [.r, .l, .r, .d, .o 1000, .r, .r, .l, .d, .r, .r, .l, .r, .d] b_text_all_0l1 1000 (bodyK E_text_all_0l1 Tryd.f99 (outP O_text_all_0l1 fun ls => Rv (tup_text_all_0l1 ls))) (st_text_all_0l1_1 x0 x1 x2 i1) := by kernel_rfl
set_option maxRecDepth 100000 in
theorem e_text_all_0l1_2 (x0 : List UInt8) (x1 : Int) (x2 : Int) (Rv : Bool → Prop) (b0 : Bool) (i2 : Int) : L_text_all_0l1 x0 x1 x2 Rv (.inr (.inr ((b0, i2)))) = headL E_text_all_0l1 [.r, .l, .r, .d, .o 1000, .r, .r, .l, .d, .r, .r, .l, .r, .d] b_text_all_0l1 1000 (bodyK E_text_all_0l1 Tryd.f99 (outP O_text_all_0l1 fun ls => Rv (tup_text_all_0l1 ls))) (st_text_all_0l1_2 x0 x1 x2 b0 i2) := by kernel_rfl
section
attribute [local irreducible] Tr.fold M_text_all_0l1 L_text_all_0l1 T_text_all_0l1 E_text_all_0l1 b_text_all_0l1 bodyK headC headL stepC stepL wpX callA
set_option maxRecDepth 100000 in
theorem h_text_all_0l1 (x0 : List UInt8) (x1 : Int) (x2 : Int) (Rv : Bool → Prop) : ∀ s, (M_text_all_0l1 x0 x1 x2 s).fold False (Sum.elim (L_text_all_0l1 x0 x1 x2 Rv) Rv) → L_text_all_0l1 x0 x1 x2 Rv s := by
  rintro (v0 | v0 | ⟨v0, v1⟩)
  · exact fun h => Eq.mpr (e_text_all_0l1_0 x0 x1 x2 Rv v0) (headL_of (Eq.mpr (l_text_all_0l1_0 x0 x1 x2 Rv v0) h))
  · exact fun h => Eq.mpr (e_text_all_0l1_1 x0 x1 x2 Rv v0) (headL_of (Eq.mpr (l_text_all_0l1_1 x0 x1 x2 Rv v0) h))
  · exact fun h => Eq.mpr (e_text_all_0l1_2 x0 x1 x2 Rv v0 v1) (headL_of (Eq.mpr (l_text_all_0l1_2 x0 x1 x2 Rv v0 v1) h))
set_option maxRecDepth 100000 in
theorem c_text_all_0l1 (ls : List AV) (Rv : Bool → Prop) : callA E_text_all_0l1 Tryd.f99 (instL ls P_text_all_0l1 0) [] (outP O_text_all_0l1 fun ls => Rv (tup_text_all_0l1 ls)) = (T_text_all_0l1 (getS (ls.getD 0 .junk)) (getI (ls.getD 1 .junk)) (getI (ls.getD 2 .junk))).fold False (Sum.elim (L_text_all_0l1 (getS (ls.getD 0 .junk)) (getI (ls.getD 1 .junk)) (getI (ls.getD 2 .junk)) Rv) Rv) := by kernel_rfl
end
noncomputable def S_text_all_0l1 : Go.Cx.Spec := pureS (patF P_text_all_0l1 fun ls => opt (g_text_all_0l1 (getS (ls.getD 0 .junk)) (getI (ls.getD 1 .junk)) (getI (ls.getD 2 .junk))) fun x => .r (res_text_all_0l1 x))
set_option maxRecDepth 100000 in
theorem S_text_all_0l1_ok : Sound Tryd.prog 99 S_text_all_0l1 :=
  pure_mach (E := E_text_all_0l1) (TblOK.enK TYiG415t_ok _ _ _ _ _) mixed rfl Tryd.func99 (c := Tryd.f99.body.getD .skip) (by kernel_rfl) (by kernel_rfl) (pats := P_text_all_0l1) (O := O_text_all_0l1) (tup := tup_text_all_0l1) (res := res_text_all_0l1) (g := fun ls => g_text_all_0l1 (getS (ls.getD 0 .junk)) (getI (ls.getD 1 .junk)) (getI (ls.getD 2 .junk))) (T := fun ls => T_text_all_0l1 (getS (ls.getD 0 .junk)) (getI (ls.getD 1 .junk)) (getI (ls.getD 2 .junk))) (step := fun ls => M_text_all_0l1 (getS (ls.getD 0 .junk)) (getI (ls.getD 1 .junk)) (getI (ls.getD 2 .junk))) (L := fun ls => L_text_all_0l1 (getS (ls.getD 0 .junk)) (getI (ls.getD 1 .junk)) (getI (ls.getD 2 .junk))) (fun _ => rfl) (fun ls => by kernel_rfl) c_text_all_0l1 (fun ls Rv => h_text_all_0l1 (getS (ls.getD 0 .junk)) (getI (ls.getD 1 .junk)) (getI (ls.getD 2 .junk)) Rv)

noncomputable def TYiG416t : FuncId → Option Go.Cx.Spec := addT TYiG415t 99 (orS (tagsB [0, 1010100]) S_text_all_0l1 S_text_all_0l3)
theorem TYiG416t_ok : TblOK Tryd.prog TYiG416t := TYiG415t_ok.add (Sound.or _ S_text_all_0l1_ok S_text_all_0l3_ok)

/- comptoir/text.Ans -/
noncomputable def E_text_Ans : En := enK Tryd.prog TYiG416t [] [] [] [] 0
def P_text_Ans : List Pat := [.leaf .str, .leaf (.int .i64)]
def O_text_Ans : Pat := .leaf .bool
def tup_text_Ans : List AV → Bool := fun ls => getB (ls.getD 0 .junk)
def res_text_Ans : Bool → AV := fun x => .bool (x)
noncomputable def T_text_Ans (x0 : List UInt8) (x1 : Int) : Tr (Bool) := (.c (Decidable.decide ((↑(List.length x0) : Int) ≥ (1 : Int))) (.c (Decidable.decide ((↑(List.length x0) : Int) ≤ x1)) (opt (Go.Proofs.YtajknlhbfhemlaaDoor.g_text_all_0l1 x0 (32 : Int) (126 : Int)) fun (y0 : Bool) => (.r (y0))) (.r (Bool.false))) (.r (Bool.false)))
noncomputable def g_text_Ans (x0 : List UInt8) (x1 : Int) : Option (Bool) := (T_text_Ans x0 x1).val
set_option maxRecDepth 100000 in
theorem c_text_Ans (ls : List AV) (Rv : Bool → Prop) : callA E_text_Ans Tryd.f91 (instL ls P_text_Ans 0) [] (outP O_text_Ans fun ls => Rv (tup_text_Ans ls)) = (T_text_Ans (getS (ls.getD 0 .junk)) (getI (ls.getD 1 .junk))).fold False Rv := by kernel_rfl
noncomputable def S_text_Ans : Go.Cx.Spec := pureS (patF P_text_Ans fun ls => opt (g_text_Ans (getS (ls.getD 0 .junk)) (getI (ls.getD 1 .junk))) fun x => .r (res_text_Ans x))
set_option maxRecDepth 100000 in
theorem S_text_Ans_ok : Sound Tryd.prog 91 S_text_Ans :=
  pure_flat (E := E_text_Ans) (TblOK.enK TYiG416t_ok _ _ _ _ _) mixed rfl Tryd.func91 (c := Tryd.f91.body.getD .skip) (by kernel_rfl) (by kernel_rfl) (pats := P_text_Ans) (O := O_text_Ans) (tup := tup_text_Ans) (res := res_text_Ans) (g := fun ls => g_text_Ans (getS (ls.getD 0 .junk)) (getI (ls.getD 1 .junk))) (T := fun ls => T_text_Ans (getS (ls.getD 0 .junk)) (getI (ls.getD 1 .junk))) (fun _ => rfl) (fun ls => by kernel_rfl) c_text_Ans

noncomputable def TYiG417t : FuncId → Option Go.Cx.Spec := addT TYiG416t 91 S_text_Ans
theorem TYiG417t_ok : TblOK Tryd.prog TYiG417t := TYiG416t_ok.add S_text_Ans_ok

/- (comptoir/element.data).signs -/
noncomputable def E_element_data_signs : En := enK Tryd.prog TYiG417t [] [] [] [] 0
def P_element_data_signs : List Pat := [.leaf .str, .leaf (.int .i64)]
def O_element_data_signs : Pat := .leaf .bool
def tup_element_data_signs : List AV → Bool := fun ls => getB (ls.getD 0 .junk)
def res_element_data_signs : Bool → AV := fun x => .bool (x)
noncomputable def T_element_data_signs (x0 : List UInt8) (x1 : Int) : Tr (Bool) := (opt (Go.Proofs.YtajknlhbfhemlaaDoor.g_text_Ans x0 x1) fun (y0 : Bool) => (.r (y0)))
noncomputable def g_element_data_signs (x0 : List UInt8) (x1 : Int) : Option (Bool) := (T_element_data_signs x0 x1).val
set_option maxRecDepth 100000 in
theorem c_element_data_signs (ls : List AV) (Rv : Bool → Prop) : callA E_element_data_signs Tryd.f79 (instL ls P_element_data_signs 0) [] (outP O_element_data_signs fun ls => Rv (tup_element_data_signs ls)) = (T_element_data_signs (getS (ls.getD 0 .junk)) (getI (ls.getD 1 .junk))).fold False Rv := by kernel_rfl
noncomputable def S_element_data_signs : Go.Cx.Spec := pureS (patF P_element_data_signs fun ls => opt (g_element_data_signs (getS (ls.getD 0 .junk)) (getI (ls.getD 1 .junk))) fun x => .r (res_element_data_signs x))
set_option maxRecDepth 100000 in
theorem S_element_data_signs_ok : Sound Tryd.prog 79 S_element_data_signs :=
  pure_flat (E := E_element_data_signs) (TblOK.enK TYiG417t_ok _ _ _ _ _) mixed rfl Tryd.func79 (c := Tryd.f79.body.getD .skip) (by kernel_rfl) (by kernel_rfl) (pats := P_element_data_signs) (O := O_element_data_signs) (tup := tup_element_data_signs) (res := res_element_data_signs) (g := fun ls => g_element_data_signs (getS (ls.getD 0 .junk)) (getI (ls.getD 1 .junk))) (T := fun ls => T_element_data_signs (getS (ls.getD 0 .junk)) (getI (ls.getD 1 .junk))) (fun _ => rfl) (fun ls => by kernel_rfl) c_element_data_signs

noncomputable def TYiG418t : FuncId → Option Go.Cx.Spec := addT TYiG417t 79 S_element_data_signs
theorem TYiG418t_ok : TblOK Tryd.prog TYiG418t := TYiG417t_ok.add S_element_data_signs_ok

/- (comptoir/element.data).any -/
noncomputable def E_element_data_any : En := enK Tryd.prog TYiG418t [] [] [] [] 0
def P_element_data_any : List Pat := [.leaf .str, .leaf (.int .i64)]
def O_element_data_any : Pat := .leaf .bool
def tup_element_data_any : List AV → Bool := fun ls => getB (ls.getD 0 .junk)
def res_element_data_any : Bool → AV := fun x => .bool (x)
noncomputable def T_element_data_any (x0 : List UInt8) (x1 : Int) : Tr (Bool) := (.r (Bool.true))
noncomputable def g_element_data_any (x0 : List UInt8) (x1 : Int) : Option (Bool) := (T_element_data_any x0 x1).val
set_option maxRecDepth 100000 in
theorem c_element_data_any (ls : List AV) (Rv : Bool → Prop) : callA E_element_data_any Tryd.f80 (instL ls P_element_data_any 0) [] (outP O_element_data_any fun ls => Rv (tup_element_data_any ls)) = (T_element_data_any (getS (ls.getD 0 .junk)) (getI (ls.getD 1 .junk))).fold False Rv := by kernel_rfl
noncomputable def S_element_data_any : Go.Cx.Spec := pureS (patF P_element_data_any fun ls => opt (g_element_data_any (getS (ls.getD 0 .junk)) (getI (ls.getD 1 .junk))) fun x => .r (res_element_data_any x))
set_option maxRecDepth 100000 in
theorem S_element_data_any_ok : Sound Tryd.prog 80 S_element_data_any :=
  pure_flat (E := E_element_data_any) (TblOK.enK TYiG418t_ok _ _ _ _ _) mixed rfl Tryd.func80 (c := Tryd.f80.body.getD .skip) (by kernel_rfl) (by kernel_rfl) (pats := P_element_data_any) (O := O_element_data_any) (tup := tup_element_data_any) (res := res_element_data_any) (g := fun ls => g_element_data_any (getS (ls.getD 0 .junk)) (getI (ls.getD 1 .junk))) (T := fun ls => T_element_data_any (getS (ls.getD 0 .junk)) (getI (ls.getD 1 .junk))) (fun _ => rfl) (fun ls => by kernel_rfl) c_element_data_any

noncomputable def TYiG419t : FuncId → Option Go.Cx.Spec := addT TYiG418t 80 S_element_data_any
theorem TYiG419t_ok : TblOK Tryd.prog TYiG419t := TYiG418t_ok.add S_element_data_any_ok

/- comptoir/element.right -/
noncomputable def E_element_right : En := enK Tryd.prog TYiG419t [] [] [] [] 0
def P_element_right : List Pat := [.agg [.leaf (.int .i64), .leaf (.int .i64), .leaf (.int .i64), .leaf (.int .i64)], .leaf (.slice 1 (.int .u8))]
def O_element_right : Pat := .leaf (.int .i64)
def tup_element_right : List AV → Int := fun ls => getI (ls.getD 0 .junk)
def res_element_right : Int → AV := fun x => .int .i64 (x)
noncomputable def T_element_right (x0 : Int) (x1 : Int) (x2 : Int) (x3 : Int) (x4 : List AV) : Tr (Int) := (.c (x1 == (1 : Int)) (opt (Go.Proofs.YtajknlhbfhemlaaDoor.g_element_data_numbers (Go.Cx.bytesOf x4) x3) fun (y0 : Bool) => (.c (!y0) (.r ((14 : Int))) (.r ((0 : Int))))) (.c (x1 == (2 : Int)) (opt (Go.Proofs.YtajknlhbfhemlaaDoor.g_element_data_letters (Go.Cx.bytesOf x4) x3) fun (y0 : Bool) => (.c (!y0) (.r ((14 : Int))) (.r ((0 : Int))))) (.c (x1 == (3 : Int)) (opt (Go.Proofs.YtajknlhbfhemlaaDoor.g_element_data_signs (Go.Cx.bytesOf x4) x3) fun (y0 : Bool) => (.c (!y0) (.r ((14 : Int))) (.r ((0 : Int))))) (.r ((0 : Int))))))
noncomputable def g_element_right (x0 : Int) (x1 : Int) (x2 : Int) (x3 : Int) (x4 : List AV) : Option (Int) := (T_element_right x0 x1 x2 x3 x4).val
set_option maxRecDepth 100000 in
theorem c_element_right (ls : List AV) (Rv : Int → Prop) : callA E_element_right Tryd.f56 (instL ls P_element_right 0) [] (outP O_element_right fun ls => Rv (tup_element_right ls)) = (T_element_right (getI (ls.getD 0 .junk)) (getI (ls.getD 1 .junk)) (getI (ls.getD 2 .junk)) (getI (ls.getD 3 .junk)) (getXs (ls.getD 4 .junk))).fold False Rv := by kernel_rfl
noncomputable def S_element_right : Go.Cx.Spec := pureS (patF P_element_right fun ls => opt (g_element_right (getI (ls.getD 0 .junk)) (getI (ls.getD 1 .junk)) (getI (ls.getD 2 .junk)) (getI (ls.getD 3 .junk)) (getXs (ls.getD 4 .junk))) fun x => .r (res_element_right x))
set_option maxRecDepth 100000 in
theorem S_element_right_ok : Sound Tryd.prog 56 S_element_right :=
  pure_flat (E := E_element_right) (TblOK.enK TYiG419t_ok _ _ _ _ _) mixed rfl Tryd.func56 (c := Tryd.f56.body.getD .skip) (by kernel_rfl) (by kernel_rfl) (pats := P_element_right) (O := O_element_right) (tup := tup_element_right) (res := res_element_right) (g := fun ls => g_element_right (getI (ls.getD 0 .junk)) (getI (ls.getD 1 .junk)) (getI (ls.getD 2 .junk)) (getI (ls.getD 3 .junk)) (getXs (ls.getD 4 .junk))) (T := fun ls => T_element_right (getI (ls.getD 0 .junk)) (getI (ls.getD 1 .junk)) (getI (ls.getD 2 .junk)) (getI (ls.getD 3 .junk)) (getXs (ls.getD 4 .junk))) (fun _ => rfl) (fun ls => by kernel_rfl) c_element_right

noncomputable def TYiG420t : FuncId → Option Go.Cx.Spec := addT TYiG419t 56 S_element_right
theorem TYiG420t_ok : TblOK Tryd.prog TYiG420t := TYiG419t_ok.add S_element_right_ok

/- comptoir/element.Check -/
noncomputable def E_element_Check : En := enK Tryd.prog TYiG420t [] [] [] [] 0
def P_element_Check : List Pat := [.agg [.leaf (.int .i64), .leaf (.slice 1 (.int .u8))]]
def O_element_Check : Pat := .leaf (.int .i64)
def tup_element_Check : List AV → Int := fun ls => getI (ls.getD 0 .junk)
def res_element_Check : Int → AV := fun x => .int .i64 (x)
noncomputable def T_element_Check (x0 : Int) (x1 : List AV) : Tr (Int) := (opt (Go.Proofs.YtajknlhbfhemlaaDoor.g_element_Of x0) fun (y0 : Int × Int × Int × Int × Bool) => (.c (!Prod.snd (Prod.snd (Prod.snd (Prod.snd y0)))) (.r ((16 : Int))) (opt (Go.Proofs.YtajknlhbfhemlaaDoor.g_element_long (Prod.fst y0) (Prod.fst (Prod.snd y0)) (Prod.fst (Prod.snd (Prod.snd y0))) (Prod.fst (Prod.snd (Prod.snd (Prod.snd y0)))) (↑(List.length x1) : Int)) fun (y1 : Bool) => (.c (!y1) (.r ((17 : Int))) (opt (Go.Proofs.YtajknlhbfhemlaaDoor.g_element_right (Prod.fst y0) (Prod.fst (Prod.snd y0)) (Prod.fst (Prod.snd (Prod.snd y0))) (Prod.fst (Prod.snd (Prod.snd (Prod.snd y0)))) x1) fun (y2 : Int) => (.r (y2)))))))
noncomputable def g_element_Check (x0 : Int) (x1 : List AV) : Option (Int) := (T_element_Check x0 x1).val
set_option maxRecDepth 100000 in
theorem c_element_Check (ls : List AV) (Rv : Int → Prop) : callA E_element_Check Tryd.f46 (instL ls P_element_Check 0) [] (outP O_element_Check fun ls => Rv (tup_element_Check ls)) = (T_element_Check (getI (ls.getD 0 .junk)) (getXs (ls.getD 1 .junk))).fold False Rv := by kernel_rfl
noncomputable def S_element_Check : Go.Cx.Spec := pureS (patF P_element_Check fun ls => opt (g_element_Check (getI (ls.getD 0 .junk)) (getXs (ls.getD 1 .junk))) fun x => .r (res_element_Check x))
set_option maxRecDepth 100000 in
theorem S_element_Check_ok : Sound Tryd.prog 46 S_element_Check :=
  pure_flat (E := E_element_Check) (TblOK.enK TYiG420t_ok _ _ _ _ _) mixed rfl Tryd.func46 (c := Tryd.f46.body.getD .skip) (by kernel_rfl) (by kernel_rfl) (pats := P_element_Check) (O := O_element_Check) (tup := tup_element_Check) (res := res_element_Check) (g := fun ls => g_element_Check (getI (ls.getD 0 .junk)) (getXs (ls.getD 1 .junk))) (T := fun ls => T_element_Check (getI (ls.getD 0 .junk)) (getXs (ls.getD 1 .junk))) (fun _ => rfl) (fun ls => by kernel_rfl) c_element_Check

noncomputable def TYiG421t : FuncId → Option Go.Cx.Spec := addT TYiG420t 46 S_element_Check
theorem TYiG421t_ok : TblOK Tryd.prog TYiG421t := TYiG420t_ok.add S_element_Check_ok

/- comptoir/digits.Text -/
noncomputable def E_digits_Text : En := enK Tryd.prog TYiG421t [] [] [] [] 0
def P_digits_Text : List Pat := [.leaf (.int .u64), .leaf (.int .i64)]
def O_digits_Text : Pat := .tuple [.leaf .str, .leaf (.int .i64)]
def tup_digits_Text : List AV → List UInt8 × Int := fun ls => (getS (ls.getD 0 .junk), getI (ls.getD 1 .junk))
def res_digits_Text : List UInt8 × Int → AV := fun x => .tuple [.str (x.1), .int .i64 (x.2)]
noncomputable def T_digits_Text (x0 : Int) (x1 : Int) : Tr (List UInt8 × Int) := (.c (Decidable.decide (x1 < (1 : Int))) (.r (([], (1 : Int)))) (.c (Decidable.decide (x1 > (20 : Int))) (.r (([], (1 : Int)))) (.c (Decidable.decide ((0 : Int) ≤ x0)) (.c (Decidable.decide (x0 < (18446744073709551616 : Int))) (.c (Decidable.decide ((↑(List.length (Go.Lib.decDigits (Int.toNat x0))) : Int) > x1)) (.r (([], (4 : Int)))) (.c (Decidable.decide ((0 : Int) ≤ Go.IntKind.wrap Go.IntKind.i64 (x1 - (↑(List.length (Go.Lib.decDigits (Int.toNat x0))) : Int)))) (.c (Decidable.decide (Go.IntKind.wrap Go.IntKind.i64 (x1 - (↑(List.length (Go.Lib.decDigits (Int.toNat x0))) : Int)) ≤ (1000000000 : Int))) (.c (Decidable.decide (List.length (Go.Lib.repeatL [(48 : UInt8)] (Int.toNat (Go.IntKind.wrap Go.IntKind.i64 (x1 - (↑(List.length (Go.Lib.decDigits (Int.toNat x0))) : Int))))) + List.length (Go.Lib.decDigits (Int.toNat x0)) < (70368744177664 : Nat))) (.r ((Go.Lib.repeatL [(48 : UInt8)] (Int.toNat (Go.IntKind.wrap Go.IntKind.i64 (x1 - (↑(List.length (Go.Lib.decDigits (Int.toNat x0))) : Int)))) ++ Go.Lib.decDigits (Int.toNat x0), (0 : Int)))) .bad) .bad) .bad)) .bad) .bad)))
noncomputable def g_digits_Text (x0 : Int) (x1 : Int) : Option (List UInt8 × Int) := (T_digits_Text x0 x1).val
set_option maxRecDepth 100000 in
theorem c_digits_Text (ls : List AV) (Rv : List UInt8 × Int → Prop) : callA E_digits_Text Tryd.f48 (instL ls P_digits_Text 0) [] (outP O_digits_Text fun ls => Rv (tup_digits_Text ls)) = (T_digits_Text (getI (ls.getD 0 .junk)) (getI (ls.getD 1 .junk))).fold False Rv := by kernel_rfl
noncomputable def S_digits_Text : Go.Cx.Spec := pureS (patF P_digits_Text fun ls => opt (g_digits_Text (getI (ls.getD 0 .junk)) (getI (ls.getD 1 .junk))) fun x => .r (res_digits_Text x))
set_option maxRecDepth 100000 in
theorem S_digits_Text_ok : Sound Tryd.prog 48 S_digits_Text :=
  pure_flat (E := E_digits_Text) (TblOK.enK TYiG421t_ok _ _ _ _ _) mixed rfl Tryd.func48 (c := Tryd.f48.body.getD .skip) (by kernel_rfl) (by kernel_rfl) (pats := P_digits_Text) (O := O_digits_Text) (tup := tup_digits_Text) (res := res_digits_Text) (g := fun ls => g_digits_Text (getI (ls.getD 0 .junk)) (getI (ls.getD 1 .junk))) (T := fun ls => T_digits_Text (getI (ls.getD 0 .junk)) (getI (ls.getD 1 .junk))) (fun _ => rfl) (fun ls => by kernel_rfl) c_digits_Text

noncomputable def TYiG422t : FuncId → Option Go.Cx.Spec := addT TYiG421t 48 S_digits_Text
theorem TYiG422t_ok : TblOK Tryd.prog TYiG422t := TYiG421t_ok.add S_digits_Text_ok

/- comptoir/element.Write -/
noncomputable def E_element_Write : En := enK Tryd.prog TYiG422t [33] [] [] [] 0
def P_element_Write : List Pat := [.agg [.leaf (.int .i64), .leaf (.slice 1 (.int .u8))]]
def O_element_Write : Pat := .tuple [.leaf (.slice 1 (.int .u8)), .leaf (.int .i64)]
def tup_element_Write : List AV → List AV × Int := fun ls => (getXs (ls.getD 0 .junk), getI (ls.getD 1 .junk))
def res_element_Write : List AV × Int → AV := fun x => .tuple [.slice 1 (.int .u8) (x.1) .ro, .int .i64 (x.2)]
noncomputable def T_element_Write (x0 : Int) (x1 : List AV) : Tr (List AV × Int) := (opt (Go.Proofs.YtajknlhbfhemlaaDoor.g_element_Check x0 x1) fun (y0 : Int) => (.c (y0 != (0 : Int)) (.r (([], y0))) (opt (Go.Proofs.YtajknlhbfhemlaaDoor.g_element_Of x0) fun (y1 : Int × Int × Int × Int × Bool) => (.c (Decidable.decide (Prod.fst (Prod.snd (Prod.snd y1)) > (0 : Int))) (opt (Go.Proofs.YtajknlhbfhemlaaDoor.g_digits_Text (Go.IntKind.wrap Go.IntKind.u64 (↑(List.length x1) : Int)) (Prod.fst (Prod.snd (Prod.snd y1)))) fun (y2 : List UInt8 × Int) => (.c (List.length (List.map Go.Cx.byte (Prod.fst y2)) == List.length (List.map Go.Cx.byte (Prod.fst y2))) (.c (Decidable.decide (List.length (List.map Go.Cx.byte (Prod.fst y2) ++ x1) * (2 : Nat) < (70368744177664 : Nat))) (.c (List.length (List.map Go.Cx.byte (Prod.fst y2) ++ x1) == List.length (List.map Go.Cx.byte (Prod.fst y2) ++ x1)) (.r ((List.map Go.Cx.byte (Prod.fst y2) ++ x1, (0 : Int)))) .bad) .bad) .bad)) (.c (Decidable.decide (List.length x1 * (2 : Nat) < (70368744177664 : Nat))) (.c (List.length x1 == List.length x1) (.r ((x1, (0 : Int)))) .bad) .bad)))))
noncomputable def g_element_Write (x0 : Int) (x1 : List AV) : Option (List AV × Int) := (T_element_Write x0 x1).val
set_option maxRecDepth 100000 in
theorem c_element_Write (ls : List AV) (Rv : List AV × Int → Prop) : callA E_element_Write Tryd.f26 (instL ls P_element_Write 0) [] (outP O_element_Write fun ls => Rv (tup_element_Write ls)) = (T_element_Write (getI (ls.getD 0 .junk)) (getXs (ls.getD 1 .junk))).fold False Rv := by kernel_rfl
noncomputable def S_element_Write : Go.Cx.Spec := pureS (patF P_element_Write fun ls => opt (g_element_Write (getI (ls.getD 0 .junk)) (getXs (ls.getD 1 .junk))) fun x => .r (res_element_Write x))
set_option maxRecDepth 100000 in
theorem S_element_Write_ok : Sound Tryd.prog 26 S_element_Write :=
  pure_flat (E := E_element_Write) (TblOK.enK TYiG422t_ok _ _ _ _ _) mixed rfl Tryd.func26 (c := Tryd.f26.body.getD .skip) (by kernel_rfl) (by kernel_rfl) (pats := P_element_Write) (O := O_element_Write) (tup := tup_element_Write) (res := res_element_Write) (g := fun ls => g_element_Write (getI (ls.getD 0 .junk)) (getXs (ls.getD 1 .junk))) (T := fun ls => T_element_Write (getI (ls.getD 0 .junk)) (getXs (ls.getD 1 .junk))) (fun _ => rfl) (fun ls => by kernel_rfl) c_element_Write

noncomputable def TYiG423t : FuncId → Option Go.Cx.Spec := addT TYiG422t 26 S_element_Write
theorem TYiG423t_ok : TblOK Tryd.prog TYiG423t := TYiG422t_ok.add S_element_Write_ok

/- comptoir/iso.Pack -/
noncomputable def E_iso_Pack : En := enK Tryd.prog (addT TYiG423t 24 (frzAr S_bitmap_Write)) [1000041] [(5, ⟨[0, 2, 3, 5, 6, 7, 8, 9, 10, 11, 12, 13, 14, 15, 16, 17, 18, 22, 23, 24, 25, 26, 27, 28, 29, 30, 31, 32, 33, 34, 35, 36, 37, 38, 39, 40, 41, 42, 43, 44, 45, 46, 47, 48, 49, 50, 51, 52, 53, 54, 55, 56, 57, 58, 59, 60, 61, 62, 63, 64, 65, 66], [], [], none, [], [], [], [], true⟩), (14, ⟨[0, 1, 2, 3, 4, 5, 6, 7, 8, 10, 11, 12, 13, 14, 15, 16, 17, 18, 19, 20, 21, 22, 23, 24, 25, 26, 27, 28, 29, 30, 31, 32, 33, 34, 35, 36, 37, 38, 39, 40, 41, 42, 43, 44, 48, 49, 50, 51, 52, 53, 54, 55, 56, 57, 58, 59, 60, 61, 62, 63, 64, 65, 66], [], [], none, [], [], [], [], true⟩)] [(5, [(4, 3, (.int .i64))])] [] 0
def P_iso_Pack : List Pat := [.agg [.leaf .str, .leaf (.slice 2 (.agg [(.int .i64), (.slice 1 (.int .u8))]))]]
def O_iso_Pack : Pat := .tuple [.leaf (.slice 1 (.int .u8)), .leaf (.int .i64)]
def tup_iso_Pack : List AV → List AV × Int := fun ls => (getXs (ls.getD 0 .junk), getI (ls.getD 1 .junk))
def res_iso_Pack : List AV × Int → AV := fun x => .tuple [.slice 1 (.int .u8) (x.1) .ro, .int .i64 (x.2)]
noncomputable def T_iso_Pack (x0 : List UInt8) (x1 : List AV) : Tr (((Int × List AV) ⊕ (List AV × Int)) ⊕ (List AV × Int)) := (opt (Go.Proofs.YtajknlhbfhemlaaDoor.g_digits_Right x0 (4 : Int) (4 : Int)) fun (y0 : Bool) => (.c (!y0) (.r (.inr (([], (5 : Int))))) (.r (.inl (.inl (((0 : Int), [])))))))
noncomputable def M_iso_Pack (x0 : List UInt8) (x1 : List AV) : (Int × List AV) ⊕ (List AV × Int) → Tr (((Int × List AV) ⊕ (List AV × Int)) ⊕ (List AV × Int))
  | .inl ((i0, l0)) => (.c (Decidable.decide (i0 < (↑(List.length x1) : Int))) (.c (Decidable.decide ((0 : Int) ≤ i0)) (.c (Decidable.decide (i0 < (↑(List.length x1) : Int))) (.c (List.length l0 == List.length l0) (.c (Decidable.decide (List.length (l0 ++ [Go.Cx.AV.int Go.IntKind.i64 (Go.Cx.getI (Go.Cx.getF (List.getD x1 (Int.toNat i0) (Go.Cx.AV.agg [Go.Cx.AV.int Go.IntKind.i64 (0 : Int), Go.Cx.AV.slice (1 : Nat) (Go.Cx.Sh.int Go.IntKind.u8) [] Go.Cx.SK.ro])) (0 : Nat)))]) * (9 : Nat) < (70368744177664 : Nat))) (.r (.inl (.inl ((Go.IntKind.wrap Go.IntKind.i64 (i0 + (1 : Int)), l0 ++ [Go.Cx.AV.int Go.IntKind.i64 (Go.Cx.getI (Go.Cx.getF (List.getD x1 (Int.toNat i0) (Go.Cx.AV.agg [Go.Cx.AV.int Go.IntKind.i64 (0 : Int), Go.Cx.AV.slice (1 : Nat) (Go.Cx.Sh.int Go.IntKind.u8) [] Go.Cx.SK.ro])) (0 : Nat)))]))))) .bad) .bad) .bad) .bad) (.c (Bool.true && List.length l0 == List.length l0) (opt (Go.Proofs.YtajknlhbfhemlaaDoor.g_bitmap_Write l0) fun (y0 : List Go.Cx.AV × Int) => (.c (Prod.snd y0 != (0 : Int)) (.r (.inr (([], (1 : Int))))) (opt (Go.Proofs.YtajknlhbfhemlaaDoor.g_slices_Concat_byte_byte [Go.Cx.AV.slice (1 : Nat) (Go.Cx.Sh.int Go.IntKind.u8) (List.map Go.Cx.byte x0) Go.Cx.SK.ro, Go.Cx.AV.slice (1 : Nat) (Go.Cx.Sh.int Go.IntKind.u8) (Prod.fst y0) Go.Cx.SK.ro]) fun (y1 : List Go.Cx.AV) => (.r (.inl (.inr ((y1, (0 : Int))))))))) .bad))
  | .inr ((l1, i1)) => (.c (Decidable.decide (i1 < (↑(List.length x1) : Int))) (.c (Decidable.decide ((0 : Int) ≤ i1)) (.c (Decidable.decide (i1 < (↑(List.length x1) : Int))) (opt (Go.Proofs.YtajknlhbfhemlaaDoor.g_element_Write (Go.Cx.getI (Go.Cx.getF (List.getD x1 (Int.toNat i1) (Go.Cx.AV.agg [Go.Cx.AV.int Go.IntKind.i64 (0 : Int), Go.Cx.AV.slice (1 : Nat) (Go.Cx.Sh.int Go.IntKind.u8) [] Go.Cx.SK.ro])) (0 : Nat))) (Go.Cx.getXs (Go.Cx.getF (List.getD x1 (Int.toNat i1) (Go.Cx.AV.agg [Go.Cx.AV.int Go.IntKind.i64 (0 : Int), Go.Cx.AV.slice (1 : Nat) (Go.Cx.Sh.int Go.IntKind.u8) [] Go.Cx.SK.ro])) (1 : Nat)))) fun (y0 : List Go.Cx.AV × Int) => (.c (Prod.snd y0 != (0 : Int)) (.r (.inr (([], Prod.snd y0)))) (.c (List.length l1 == List.length l1) (.c (Decidable.decide (List.length (l1 ++ Prod.fst y0) * (2 : Nat) < (70368744177664 : Nat))) (.r (.inl (.inr ((l1 ++ Prod.fst y0, Go.IntKind.wrap Go.IntKind.i64 (i1 + (1 : Int))))))) .bad) .bad))) .bad) .bad) (.c (Decidable.decide ((↑(List.length l1) : Int) > (4096 : Int))) (.r (.inr (([], (4 : Int))))) (.c (List.length l1 == List.length l1) (.r (.inr ((l1, (0 : Int))))) .bad)))
noncomputable def g_iso_Pack (x0 : List UInt8) (x1 : List AV) : Option (List AV × Int) := run (M_iso_Pack x0 x1) (T_iso_Pack x0 x1)
noncomputable def b_iso_Pack := Tryd.f10.body.getD .skip
noncomputable def st_iso_Pack_0 (x0 : List UInt8) (x1 : List AV) (i0 : Int) (l0 : List AV) : St := ⟨frOf 0 67 [(1, Go.Cx.AV.ptr (0 : Nat) (0 : Nat)), (4, Go.Cx.AV.oslice (1 : Nat) (0 : Nat) (List.length l0)), (19, Go.Cx.AV.slice (2 : Nat) (Go.Cx.Sh.agg [Go.Cx.Sh.int Go.IntKind.i64, Go.Cx.Sh.slice (1 : Nat) (Go.Cx.Sh.int Go.IntKind.u8)]) x1 Go.Cx.SK.ro), (20, Go.Cx.AV.int Go.IntKind.i64 (↑(List.length x1) : Int)), (21, Go.Cx.AV.int Go.IntKind.i64 i0)], [Go.Cx.Ob.fix (25 : Nat) [Go.Cx.AV.str x0, Go.Cx.AV.slice (2 : Nat) (Go.Cx.Sh.agg [Go.Cx.Sh.int Go.IntKind.i64, Go.Cx.Sh.slice (1 : Nat) (Go.Cx.Sh.int Go.IntKind.u8)]) x1 Go.Cx.SK.ro], Go.Cx.Ob.grow (3 : Nat) (0 : Nat) (1 : Nat) (Go.Cx.Sh.int Go.IntKind.i64) l0]⟩
noncomputable def st_iso_Pack_1 (x0 : List UInt8) (x1 : List AV) (l1 : List AV) (i1 : Int) : St := ⟨frOf 0 67 [(9, Go.Cx.AV.oslice (0 : Nat) (0 : Nat) (List.length l1)), (45, Go.Cx.AV.slice (2 : Nat) (Go.Cx.Sh.agg [Go.Cx.Sh.int Go.IntKind.i64, Go.Cx.Sh.slice (1 : Nat) (Go.Cx.Sh.int Go.IntKind.u8)]) x1 Go.Cx.SK.ro), (46, Go.Cx.AV.int Go.IntKind.i64 (↑(List.length x1) : Int)), (47, Go.Cx.AV.int Go.IntKind.i64 i1)], [Go.Cx.Ob.grow (5 : Nat) (0 : Nat) (1 : Nat) (Go.Cx.Sh.int Go.IntKind.u8) l1]⟩
noncomputable def L_iso_Pack (x0 : List UInt8) (x1 : List AV) (Rv : List AV × Int → Prop) : (Int × List AV) ⊕ (List AV × Int) → Prop
  | .inl ((i0, l0)) => headL E_iso_Pack [.r, .r, .r, .l, .r, .d] b_iso_Pack 1000 (bodyK E_iso_Pack Tryd.f10 (outP O_iso_Pack fun ls => Rv (tup_iso_Pack ls))) (st_iso_Pack_0 x0 x1 i0 l0)
  | .inr ((l1, i1)) => headL E_iso_Pack [.r, .r, .r, .r, .r, .r, .r, .l, .r, .d] b_iso_Pack 1000 (bodyK E_iso_Pack Tryd.f10 (outP O_iso_Pack fun ls => Rv (tup_iso_Pack ls))) (st_iso_Pack_1 x0 x1 l1 i1)
set_option maxRecDepth 100000 in
theorem l_iso_Pack_0 (x0 : List UInt8) (x1 : List AV) (Rv : List AV × Int → Prop) (i0 : Int) (l0 : List AV) : stepL E_iso_Pack [.r, .r, .r, .l, .r, .d] b_iso_Pack 1000 (bodyK E_iso_Pack Tryd.f10 (outP O_iso_Pack fun ls => Rv (tup_iso_Pack ls))) (st_iso_Pack_0 x0 x1 i0 l0) =
  (M_iso_Pack x0 x1 (.inl ((i0, l0)))).fold False (Sum.elim (L_iso_Pack x0 x1 Rv) Rv) := by kernel_rfl
set_option maxRecDepth 100000 in
theorem l_iso_Pack_1 (x0 : List UInt8) (x1 : List AV) (Rv : List AV × Int → Prop) (l1 : List AV) (i1 : Int) : stepL E_iso_Pack [.r, .r, .r, .r, .r, .r, .r, .l, .r, .d] b_iso_Pack 1000 (bodyK E_iso_Pack Tryd.f10 (outP O_iso_Pack fun ls => Rv (tup_iso_Pack ls))) (st_iso_Pack_1 x0 x1 l1 i1) =
  (M_iso_Pack x0 x1 (.inr ((l1, i1)))).fold False (Sum.elim (L_iso_Pack x0 x1 Rv) Rv) := by kernel_rfl
set_option maxRecDepth 100000 in
theorem e_iso_Pack_0 (x0 : List UInt8) (x1 : List AV) (Rv : List AV × Int → Prop) (i0 : Int) (l0 : List AV) : L_iso_Pack x0 x1 Rv (.inl ((i0, l0))) = headL E_iso_Pack [.r, .r, .r, .l, .r, .d] b_iso_Pack 1000 (bodyK E_iso_Pack Tryd.f10 (outP O_iso_Pack fun ls => Rv (tup_iso_Pack ls))) (st_iso_Pack_0 x0 x1 i0 l0) := by kernel_rfl
set_option maxRecDepth 100000 in
theorem e_iso_Pack_1 (x0 : List UInt8) (x1 : List AV) (Rv : List AV × Int → Prop) (l1 : List AV) (i1 : Int) : L_iso_Pack x0 x1 Rv (.inr ((l1, i1))) = headL E_iso_Pack [.r, .r, .r, .r, .r, .r, .r, .l, .r, .d] b_iso_Pack 1000 (bodyK E_iso_Pack Tryd.f10 (outP O_iso_Pack fun ls => Rv (tup_iso_Pack ls))) (st_iso_Pack_1 x0 x1 l1 i1) := by kernel_rfl
section
attribute [local irreducible] Tr.fold M_iso_Pack L_iso_Pack T_iso_Pack E_iso_Pack b_iso_Pack bodyK headC headL stepC stepL wpX callA
set_option maxRecDepth 100000 in
theorem h_iso_Pack (x0 : List UInt8) (x1 : List AV) (Rv : List AV × Int → Prop) : ∀ s, (M_iso_Pack x0 x1 s).fold False (Sum.elim (L_iso_Pack x0 x1 Rv) Rv) → L_iso_Pack x0 x1 Rv s := by
  rintro (⟨v0, v1⟩ | ⟨v0, v1⟩)
  · exact fun h => Eq.mpr (e_iso_Pack_0 x0 x1 Rv v0 v1) (headL_of (Eq.mpr (l_iso_Pack_0 x0 x1 Rv v0 v1) h))
  · exact fun h => Eq.mpr (e_iso_Pack_1 x0 x1 Rv v0 v1) (headL_of (Eq.mpr (l_iso_Pack_1 x0 x1 Rv v0 v1) h))
set_option maxRecDepth 100000 in
theorem c_iso_Pack (ls : List AV) (Rv : List AV × Int → Prop) : callA E_iso_Pack Tryd.f10 (instL ls P_iso_Pack 0) [] (outP O_iso_Pack fun ls => Rv (tup_iso_Pack ls)) = (T_iso_Pack (getS (ls.getD 0 .junk)) (getXs (ls.getD 1 .junk))).fold False (Sum.elim (L_iso_Pack (getS (ls.getD 0 .junk)) (getXs (ls.getD 1 .junk)) Rv) Rv) := by kernel_rfl
end
noncomputable def S_iso_Pack : Go.Cx.Spec := pureS (patF P_iso_Pack fun ls => opt (g_iso_Pack (getS (ls.getD 0 .junk)) (getXs (ls.getD 1 .junk))) fun x => .r (res_iso_Pack x))
set_option maxRecDepth 100000 in
theorem S_iso_Pack_ok : Sound Tryd.prog 10 S_iso_Pack :=
  pure_mach (E := E_iso_Pack) (TblOK.enK (TblOK.add TYiG423t_ok (Sound.frzAr S_bitmap_Write_ok)) _ _ _ _ _) mixed rfl Tryd.func10 (c := Tryd.f10.body.getD .skip) (by kernel_rfl) (by kernel_rfl) (pats := P_iso_Pack) (O := O_iso_Pack) (tup := tup_iso_Pack) (res := res_iso_Pack) (g := fun ls => g_iso_Pack (getS (ls.getD 0 .junk)) (getXs (ls.getD 1 .junk))) (T := fun ls => T_iso_Pack (getS (ls.getD 0 .junk)) (getXs (ls.getD 1 .junk))) (step := fun ls => M_iso_Pack (getS (ls.getD 0 .junk)) (getXs (ls.getD 1 .junk))) (L := fun ls => L_iso_Pack (getS (ls.getD 0 .junk)) (getXs (ls.getD 1 .junk))) (fun _ => rfl) (fun ls => by kernel_rfl) c_iso_Pack (fun ls Rv => h_iso_Pack (getS (ls.getD 0 .junk)) (getXs (ls.getD 1 .junk)) Rv)

noncomputable def TYiG424t : FuncId → Option Go.Cx.Spec := addT TYiG423t 10 S_iso_Pack
theorem TYiG424t_ok : TblOK Tryd.prog TYiG424t := TYiG423t_ok.add S_iso_Pack_ok

/- comptoir/cursor.New -/
noncomputable def E_cursor_New : En := enKB Tryd.prog TYiG424t [] [] [] [] 1 0 true
def P_cursor_New : List Pat := [.leaf (.slice 1 (.int .u8))]
def Q_cursor_New : List OPat := []
def O_cursor_New : Pat := .lit (.ptr 0 0)
def OO_cursor_New : List OPat := [.fix 64 [.leaf (.slice 1 (.int .u8)), .leaf (.int .i64)]]
def tup_cursor_New : List AV → List AV × Int := fun ls => (getXs (ls.getD 0 .junk), getI (ls.getD 1 .junk))
def res_cursor_New : List AV × Int → AV × List Ob := fun x => (.ptr 0 0, [.fix 64 [.slice 1 (.int .u8) (x.1) .ro, .int .i64 (x.2)]])
noncomputable def T_cursor_New (x0 : List AV) : Tr (List AV × Int) := (.c (Decidable.decide (List.length x0 * (2 : Nat) < (70368744177664 : Nat))) (.r ((x0, (0 : Int)))) .bad)
noncomputable def g_cursor_New (x0 : List AV) : Option (List AV × Int) := (T_cursor_New x0).val
set_option maxRecDepth 100000 in
theorem c_cursor_New (ls : List AV) (Rv : List AV × Int → Prop) : callA E_cursor_New Tryd.f15 (instL ls P_cursor_New 0) (instH ls Q_cursor_New 1) (outH O_cursor_New OO_cursor_New fun ls => Rv (tup_cursor_New ls)) = (T_cursor_New (getXs (ls.getD 0 .junk))).fold False Rv := by kernel_rfl
noncomputable def S_cursor_New : Go.Cx.Spec := heapS (patH P_cursor_New Q_cursor_New fun ls => opt (g_cursor_New (getXs (ls.getD 0 .junk))) fun x => .r (res_cursor_New x))
set_option maxRecDepth 100000 in
theorem S_cursor_New_ok : Sound Tryd.prog 15 S_cursor_New :=
  heap_flat (E := E_cursor_New) (TblOK.enKB TYiG424t_ok _ _ _ _ _ _ _) mixed Tryd.func15 (c := Tryd.f15.body.getD .skip) (by kernel_rfl) (by kernel_rfl) (by decide) (by decide) (pats := P_cursor_New) (ops := Q_cursor_New) (OO := OO_cursor_New) (O := O_cursor_New) (tup := tup_cursor_New) (res := res_cursor_New) (g := fun ls => g_cursor_New (getXs (ls.getD 0 .junk))) (T := fun ls => T_cursor_New (getXs (ls.getD 0 .junk))) (fun _ => rfl) (fun ls => by kernel_rfl) c_cursor_New

noncomputable def TYiG425t : FuncId → Option Go.Cx.Spec := addT TYiG424t 15 S_cursor_New
theorem TYiG425t_ok : TblOK Tryd.prog TYiG425t := TYiG424t_ok.add S_cursor_New_ok

/- (*comptoir/cursor.Cursor).Left -/
noncomputable def E_cursor_Cursor_Left_p : En := enK Tryd.prog TYiG425t [] [] [] [] 0
def P_cursor_Cursor_Left_p : List Pat := [.rptr [.leaf (.slice 1 (.int .u8)), .leaf (.int .i64)]]
def O_cursor_Cursor_Left_p : Pat := .leaf (.int .i64)
def tup_cursor_Cursor_Left_p : List AV → Int := fun ls => getI (ls.getD 0 .junk)
def res_cursor_Cursor_Left_p : Int → AV := fun x => .int .i64 (x)
noncomputable def T_cursor_Cursor_Left_p (x0 : List AV) (x1 : Int) : Tr (Int) := (.r (Go.IntKind.wrap Go.IntKind.i64 ((↑(List.length x0) : Int) - x1)))
noncomputable def g_cursor_Cursor_Left_p (x0 : List AV) (x1 : Int) : Option (Int) := (T_cursor_Cursor_Left_p x0 x1).val
set_option maxRecDepth 100000 in
theorem c_cursor_Cursor_Left_p (ls : List AV) (Rv : Int → Prop) : callA E_cursor_Cursor_Left_p Tryd.f64 (instL ls P_cursor_Cursor_Left_p 0) [] (outP O_cursor_Cursor_Left_p fun ls => Rv (tup_cursor_Cursor_Left_p ls)) = (T_cursor_Cursor_Left_p (getXs (ls.getD 0 .junk)) (getI (ls.getD 1 .junk))).fold False Rv := by kernel_rfl
noncomputable def S_cursor_Cursor_Left_p : Go.Cx.Spec := pureS (patF P_cursor_Cursor_Left_p fun ls => opt (g_cursor_Cursor_Left_p (getXs (ls.getD 0 .junk)) (getI (ls.getD 1 .junk))) fun x => .r (res_cursor_Cursor_Left_p x))
set_option maxRecDepth 100000 in
theorem S_cursor_Cursor_Left_p_ok : Sound Tryd.prog 64 S_cursor_Cursor_Left_p :=
  pure_flat (E := E_cursor_Cursor_Left_p) (TblOK.enK TYiG425t_ok _ _ _ _ _) mixed rfl Tryd.func64 (c := Tryd.f64.body.getD .skip) (by kernel_rfl) (by kernel_rfl) (pats := P_cursor_Cursor_Left_p) (O := O_cursor_Cursor_Left_p) (tup := tup_cursor_Cursor_Left_p) (res := res_cursor_Cursor_Left_p) (g := fun ls => g_cursor_Cursor_Left_p (getXs (ls.getD 0 .junk)) (getI (ls.getD 1 .junk))) (T := fun ls => T_cursor_Cursor_Left_p (getXs (ls.getD 0 .junk)) (getI (ls.getD 1 .junk))) (fun _ => rfl) (fun ls => by kernel_rfl) c_cursor_Cursor_Left_p

noncomputable def TYiG426t : FuncId → Option Go.Cx.Spec := addT TYiG425t 64 S_cursor_Cursor_Left_p
theorem TYiG426t_ok : TblOK Tryd.prog TYiG426t := TYiG425t_ok.add S_cursor_Cursor_Left_p_ok

/- (*comptoir/cursor.Cursor).take -/
noncomputable def E_cursor_Cursor_take_p0500 : En := enKB Tryd.prog TYiG426t [] [] [] [] 1 1 true
def P_cursor_Cursor_take_p0500 : List Pat := [.lit (.ptr 0 0), .leaf (.int .i64)]
def Q_cursor_Cursor_take_p0500 : List OPat := [.fix 64 [.leaf (.slice 1 (.int .u8)), .leaf (.int .i64)]]
def O_cursor_Cursor_take_p0500 : Pat := .tuple [.leaf (.slice 1 (.int .u8)), .leaf (.int .i64)]
def OO_cursor_Cursor_take_p0500 : List OPat := [.fix 64 [.leaf (.slice 1 (.int .u8)), .leaf (.int .i64)]]
def tup_cursor_Cursor_take_p0500 : List AV → List AV × Int × List AV × Int := fun ls => (getXs (ls.getD 0 .junk), getI (ls.getD 1 .junk), getXs (ls.getD 2 .junk), getI (ls.getD 3 .junk))
def res_cursor_Cursor_take_p0500 : List AV × Int × List AV × Int → AV × List Ob := fun x => (.tuple [.slice 1 (.int .u8) (x.1) .ro, .int .i64 (x.2.1)], [.fix 64 [.slice 1 (.int .u8) (x.2.2.1) .ro, .int .i64 (x.2.2.2)]])
noncomputable def T_cursor_Cursor_take_p0500 (x0 : Int) (x1 : List AV) (x2 : Int) : Tr (List AV × Int × List AV × Int) := (.c (Decidable.decide (x0 < (0 : Int))) (.r (([], (1 : Int), x1, x2))) (.c (Decidable.decide (x0 > Go.IntKind.wrap Go.IntKind.i64 ((↑(List.length x1) : Int) - x2))) (.r (([], (3 : Int), x1, x2))) (.c (Decidable.decide ((0 : Int) ≤ Go.IntKind.wrap Go.IntKind.i64 (x2 + x0))) (.c (Decidable.decide (Go.IntKind.wrap Go.IntKind.i64 (x2 + x0) ≤ (↑(List.length x1) : Int))) (.c (Decidable.decide ((0 : Int) ≤ Go.IntKind.wrap Go.IntKind.i64 (Go.IntKind.wrap Go.IntKind.i64 (x2 + x0) - x0))) (.c (Decidable.decide (Go.IntKind.wrap Go.IntKind.i64 (Go.IntKind.wrap Go.IntKind.i64 (x2 + x0) - x0) ≤ Go.IntKind.wrap Go.IntKind.i64 (x2 + x0))) (.r ((List.drop (Int.toNat (Go.IntKind.wrap Go.IntKind.i64 (Go.IntKind.wrap Go.IntKind.i64 (x2 + x0) - x0))) (List.take (Int.toNat (Go.IntKind.wrap Go.IntKind.i64 (x2 + x0))) x1), (0 : Int), x1, Go.IntKind.wrap Go.IntKind.i64 (x2 + x0)))) .bad) .bad) .bad) .bad)))
noncomputable def g_cursor_Cursor_take_p0500 (x0 : Int) (x1 : List AV) (x2 : Int) : Option (List AV × Int × List AV × Int) := (T_cursor_Cursor_take_p0500 x0 x1 x2).val
set_option maxRecDepth 100000 in
theorem c_cursor_Cursor_take_p0500 (ls : List AV) (Rv : List AV × Int × List AV × Int → Prop) : callA E_cursor_Cursor_take_p0500 Tryd.f53 (instL ls P_cursor_Cursor_take_p0500 0) (instH ls Q_cursor_Cursor_take_p0500 1) (outH O_cursor_Cursor_take_p0500 OO_cursor_Cursor_take_p0500 fun ls => Rv (tup_cursor_Cursor_take_p0500 ls)) = (T_cursor_Cursor_take_p0500 (getI (ls.getD 0 .junk)) (getXs (ls.getD 1 .junk)) (getI (ls.getD 2 .junk))).fold False Rv := by kernel_rfl
noncomputable def S_cursor_Cursor_take_p0500 : Go.Cx.Spec := heapS (patH P_cursor_Cursor_take_p0500 Q_cursor_Cursor_take_p0500 fun ls => opt (g_cursor_Cursor_take_p0500 (getI (ls.getD 0 .junk)) (getXs (ls.getD 1 .junk)) (getI (ls.getD 2 .junk))) fun x => .r (res_cursor_Cursor_take_p0500 x))
set_option maxRecDepth 100000 in
theorem S_cursor_Cursor_take_p0500_ok : Sound Tryd.prog 53 S_cursor_Cursor_take_p0500 :=
  heap_flat (E := E_cursor_Cursor_take_p0500) (TblOK.enKB TYiG426t_ok _ _ _ _ _ _ _) mixed Tryd.func53 (c := Tryd.f53.body.getD .skip) (by kernel_rfl) (by kernel_rfl) (by decide) (by decide) (pats := P_cursor_Cursor_take_p0500) (ops := Q_cursor_Cursor_take_p0500) (OO := OO_cursor_Cursor_take_p0500) (O := O_cursor_Cursor_take_p0500) (tup := tup_cursor_Cursor_take_p0500) (res := res_cursor_Cursor_take_p0500) (g := fun ls => g_cursor_Cursor_take_p0500 (getI (ls.getD 0 .junk)) (getXs (ls.getD 1 .junk)) (getI (ls.getD 2 .junk))) (T := fun ls => T_cursor_Cursor_take_p0500 (getI (ls.getD 0 .junk)) (getXs (ls.getD 1 .junk)) (getI (ls.getD 2 .junk))) (fun _ => rfl) (fun ls => by kernel_rfl) c_cursor_Cursor_take_p0500

noncomputable def TYiG427t : FuncId → Option Go.Cx.Spec := addT TYiG426t 53 S_cursor_Cursor_take_p0500
theorem TYiG427t_ok : TblOK Tryd.prog TYiG427t := TYiG426t_ok.add S_cursor_Cursor_take_p0500_ok

/- comptoir/cursor.read -/
noncomputable def E_cursor_read_ftake_0p500 : En := enKB Tryd.prog TYiG427t [] [] [] [] 1 1 true
def P_cursor_read_ftake_0p500 : List Pat := [.func 53 [.lit (.ptr 0 0)] [], .leaf (.int .i64)]
def Q_cursor_read_ftake_0p500 : List OPat := [.fix 64 [.leaf (.slice 1 (.int .u8)), .leaf (.int .i64)]]
def O_cursor_read_ftake_0p500 : Pat := .tuple [.leaf (.slice 1 (.int .u8)), .leaf (.int .i64)]
def OO_cursor_read_ftake_0p500 : List OPat := [.fix 64 [.leaf (.slice 1 (.int .u8)), .leaf (.int .i64)]]
def tup_cursor_read_ftake_0p500 : List AV → List AV × Int × List AV × Int := fun ls => (getXs (ls.getD 0 .junk), getI (ls.getD 1 .junk), getXs (ls.getD 2 .junk), getI (ls.getD 3 .junk))
def res_cursor_read_ftake_0p500 : List AV × Int × List AV × Int → AV × List Ob := fun x => (.tuple [.slice 1 (.int .u8) (x.1) .ro, .int .i64 (x.2.1)], [.fix 64 [.slice 1 (.int .u8) (x.2.2.1) .ro, .int .i64 (x.2.2.2)]])
noncomputable def T_cursor_read_ftake_0p500 (x0 : Int) (x1 : List AV) (x2 : Int) : Tr (List AV × Int × List AV × Int) := (opt (Go.Proofs.YtajknlhbfhemlaaDoor.g_cursor_Cursor_take_p0500 x0 x1 x2) fun (y0 : List Go.Cx.AV × Int × List Go.Cx.AV × Int) => (.r ((Prod.fst y0, Prod.fst (Prod.snd y0), Prod.fst (Prod.snd (Prod.snd y0)), Prod.snd (Prod.snd (Prod.snd y0))))))
noncomputable def g_cursor_read_ftake_0p500 (x0 : Int) (x1 : List AV) (x2 : Int) : Option (List AV × Int × List AV × Int) := (T_cursor_read_ftake_0p500 x0 x1 x2).val
set_option maxRecDepth 100000 in
theorem c_cursor_read_ftake_0p500 (ls : List AV) (Rv : List AV × Int × List AV × Int → Prop) : callA E_cursor_read_ftake_0p500 Tryd.f33 (instL ls P_cursor_read_ftake_0p500 0) (instH ls Q_cursor_read_ftake_0p500 1) (outH O_cursor_read_ftake_0p500 OO_cursor_read_ftake_0p500 fun ls => Rv (tup_cursor_read_ftake_0p500 ls)) = (T_cursor_read_ftake_0p500 (getI (ls.getD 0 .junk)) (getXs (ls.getD 1 .junk)) (getI (ls.getD 2 .junk))).fold False Rv := by kernel_rfl
noncomputable def S_cursor_read_ftake_0p500 : Go.Cx.Spec := heapS (patH P_cursor_read_ftake_0p500 Q_cursor_read_ftake_0p500 fun ls => opt (g_cursor_read_ftake_0p500 (getI (ls.getD 0 .junk)) (getXs (ls.getD 1 .junk)) (getI (ls.getD 2 .junk))) fun x => .r (res_cursor_read_ftake_0p500 x))
set_option maxRecDepth 100000 in
theorem S_cursor_read_ftake_0p500_ok : Sound Tryd.prog 33 S_cursor_read_ftake_0p500 :=
  heap_flat (E := E_cursor_read_ftake_0p500) (TblOK.enKB TYiG427t_ok _ _ _ _ _ _ _) mixed Tryd.func33 (c := Tryd.f33.body.getD .skip) (by kernel_rfl) (by kernel_rfl) (by decide) (by decide) (pats := P_cursor_read_ftake_0p500) (ops := Q_cursor_read_ftake_0p500) (OO := OO_cursor_read_ftake_0p500) (O := O_cursor_read_ftake_0p500) (tup := tup_cursor_read_ftake_0p500) (res := res_cursor_read_ftake_0p500) (g := fun ls => g_cursor_read_ftake_0p500 (getI (ls.getD 0 .junk)) (getXs (ls.getD 1 .junk)) (getI (ls.getD 2 .junk))) (T := fun ls => T_cursor_read_ftake_0p500 (getI (ls.getD 0 .junk)) (getXs (ls.getD 1 .junk)) (getI (ls.getD 2 .junk))) (fun _ => rfl) (fun ls => by kernel_rfl) c_cursor_read_ftake_0p500

noncomputable def TYiG428t : FuncId → Option Go.Cx.Spec := addT TYiG427t 33 S_cursor_read_ftake_0p500
theorem TYiG428t_ok : TblOK Tryd.prog TYiG428t := TYiG427t_ok.add S_cursor_read_ftake_0p500_ok

/- (*comptoir/cursor.Cursor).Take -/
noncomputable def E_cursor_Cursor_Take_p0500 : En := enKB Tryd.prog (addT TYiG428t 32 SCloneO) [] [] [] [] 2 1 true
def P_cursor_Cursor_Take_p0500 : List Pat := [.lit (.ptr 0 0), .leaf (.int .i64)]
def Q_cursor_Cursor_Take_p0500 : List OPat := [.fix 64 [.leaf (.slice 1 (.int .u8)), .leaf (.int .i64)]]
def O_cursor_Cursor_Take_p0500 : Pat := .tuple [.own 1 0 3, .leaf (.int .i64)]
def OO_cursor_Cursor_Take_p0500 : List OPat := [.fix 64 [.leaf (.slice 1 (.int .u8)), .leaf (.int .i64)], .grow 5 0 1 (.int .u8)]
def tup_cursor_Cursor_Take_p0500 : List AV → Int × List AV × Int × List AV := fun ls => (getI (ls.getD 0 .junk), getXs (ls.getD 1 .junk), getI (ls.getD 2 .junk), getXs (ls.getD 3 .junk))
def res_cursor_Cursor_Take_p0500 : Int × List AV × Int × List AV → AV × List Ob := fun x => (.tuple [.oslice 1 0 (List.length (x.2.2.2)), .int .i64 (x.1)], [.fix 64 [.slice 1 (.int .u8) (x.2.1) .ro, .int .i64 (x.2.2.1)], .grow 5 0 1 (.int .u8) (x.2.2.2)])
noncomputable def T_cursor_Cursor_Take_p0500 (x0 : Int) (x1 : List AV) (x2 : Int) : Tr (Int × List AV × Int × List AV) := (opt (Go.Proofs.YtajknlhbfhemlaaDoor.g_cursor_read_ftake_0p500 x0 x1 x2) fun (y0 : List Go.Cx.AV × Int × List Go.Cx.AV × Int) => (.c (Decidable.decide (List.length (Prod.fst y0) * (2 : Nat) < (70368744177664 : Nat))) (.c (List.length (Prod.fst y0) == List.length (Prod.fst y0 : List AV)) (.r ((Prod.fst (Prod.snd y0), Prod.fst (Prod.snd (Prod.snd y0)), Prod.snd (Prod.snd (Prod.snd y0)), Prod.fst y0))) .bad) .bad))
noncomputable def g_cursor_Cursor_Take_p0500 (x0 : Int) (x1 : List AV) (x2 : Int) : Option (Int × List AV × Int × List AV) := (T_cursor_Cursor_Take_p0500 x0 x1 x2).val
set_option maxRecDepth 100000 in
theorem c_cursor_Cursor_Take_p0500 (ls : List AV) (Rv : Int × List AV × Int × List AV → Prop) : callA E_cursor_Cursor_Take_p0500 Tryd.f34 (instL ls P_cursor_Cursor_Take_p0500 0) (instH ls Q_cursor_Cursor_Take_p0500 1) (outH O_cursor_Cursor_Take_p0500 OO_cursor_Cursor_Take_p0500 fun ls => Rv (tup_cursor_Cursor_Take_p0500 ls)) = (T_cursor_Cursor_Take_p0500 (getI (ls.getD 0 .junk)) (getXs (ls.getD 1 .junk)) (getI (ls.getD 2 .junk))).fold False Rv := by kernel_rfl
noncomputable def S_cursor_Cursor_Take_p0500 : Go.Cx.Spec := heapS (patH P_cursor_Cursor_Take_p0500 Q_cursor_Cursor_Take_p0500 fun ls => opt (g_cursor_Cursor_Take_p0500 (getI (ls.getD 0 .junk)) (getXs (ls.getD 1 .junk)) (getI (ls.getD 2 .junk))) fun x => .r (res_cursor_Cursor_Take_p0500 x))
set_option maxRecDepth 100000 in
theorem S_cursor_Cursor_Take_p0500_ok : Sound Tryd.prog 34 S_cursor_Cursor_Take_p0500 :=
  heap_flat (E := E_cursor_Cursor_Take_p0500) (TblOK.enKB (TblOK.add TYiG428t_ok SCloneO_ok) _ _ _ _ _ _ _) mixed Tryd.func34 (c := Tryd.f34.body.getD .skip) (by kernel_rfl) (by kernel_rfl) (by decide) (by decide) (pats := P_cursor_Cursor_Take_p0500) (ops := Q_cursor_Cursor_Take_p0500) (OO := OO_cursor_Cursor_Take_p0500) (O := O_cursor_Cursor_Take_p0500) (tup := tup_cursor_Cursor_Take_p0500) (res := res_cursor_Cursor_Take_p0500) (g := fun ls => g_cursor_Cursor_Take_p0500 (getI (ls.getD 0 .junk)) (getXs (ls.getD 1 .junk)) (getI (ls.getD 2 .junk))) (T := fun ls => T_cursor_Cursor_Take_p0500 (getI (ls.getD 0 .junk)) (getXs (ls.getD 1 .junk)) (getI (ls.getD 2 .junk))) (fun _ => rfl) (fun ls => by kernel_rfl) c_cursor_Cursor_Take_p0500

noncomputable def TYiG429t : FuncId → Option Go.Cx.Spec := addT TYiG428t 34 S_cursor_Cursor_Take_p0500
theorem TYiG429t_ok : TblOK Tryd.prog TYiG429t := TYiG428t_ok.add S_cursor_Cursor_Take_p0500_ok

/- comptoir/cursor.read -/
noncomputable def E_cursor_read_fTake_0p500 : En := enKB Tryd.prog TYiG429t [] [] [] [] 1 1 true
def P_cursor_read_fTake_0p500 : List Pat := [.func 34 [.lit (.ptr 0 0)] [], .leaf (.int .i64)]
def Q_cursor_read_fTake_0p500 : List OPat := [.fix 64 [.leaf (.slice 1 (.int .u8)), .leaf (.int .i64)]]
def O_cursor_read_fTake_0p500 : Pat := .tuple [.leaf (.slice 1 (.int .u8)), .leaf (.int .i64)]
def OO_cursor_read_fTake_0p500 : List OPat := [.fix 64 [.leaf (.slice 1 (.int .u8)), .leaf (.int .i64)]]
def tup_cursor_read_fTake_0p500 : List AV → List AV × Int × List AV × Int := fun ls => (getXs (ls.getD 0 .junk), getI (ls.getD 1 .junk), getXs (ls.getD 2 .junk), getI (ls.getD 3 .junk))
def res_cursor_read_fTake_0p500 : List AV × Int × List AV × Int → AV × List Ob := fun x => (.tuple [.slice 1 (.int .u8) (x.1) .ro, .int .i64 (x.2.1)], [.fix 64 [.slice 1 (.int .u8) (x.2.2.1) .ro, .int .i64 (x.2.2.2)]])
noncomputable def T_cursor_read_fTake_0p500 (x0 : Int) (x1 : List AV) (x2 : Int) : Tr (List AV × Int × List AV × Int) := (opt (Go.Proofs.YtajknlhbfhemlaaDoor.g_cursor_Cursor_Take_p0500 x0 x1 x2) fun (y0 : Int × List Go.Cx.AV × Int × List Go.Cx.AV) => (.c (List.length (Prod.snd (Prod.snd (Prod.snd y0))) == List.length (Prod.snd (Prod.snd (Prod.snd y0)))) (.r ((Prod.snd (Prod.snd (Prod.snd y0)), Prod.fst y0, Prod.fst (Prod.snd y0), Prod.fst (Prod.snd (Prod.snd y0))))) .bad))
noncomputable def g_cursor_read_fTake_0p500 (x0 : Int) (x1 : List AV) (x2 : Int) : Option (List AV × Int × List AV × Int) := (T_cursor_read_fTake_0p500 x0 x1 x2).val
set_option maxRecDepth 100000 in
theorem c_cursor_read_fTake_0p500 (ls : List AV) (Rv : List AV × Int × List AV × Int → Prop) : callA E_cursor_read_fTake_0p500 Tryd.f33 (instL ls P_cursor_read_fTake_0p500 0) (instH ls Q_cursor_read_fTake_0p500 1) (outH O_cursor_read_fTake_0p500 OO_cursor_read_fTake_0p500 fun ls => Rv (tup_cursor_read_fTake_0p500 ls)) = (T_cursor_read_fTake_0p500 (getI (ls.getD 0 .junk)) (getXs (ls.getD 1 .junk)) (getI (ls.getD 2 .junk))).fold False Rv := by kernel_rfl
noncomputable def S_cursor_read_fTake_0p500 : Go.Cx.Spec := heapS (patH P_cursor_read_fTake_0p500 Q_cursor_read_fTake_0p500 fun ls => opt (g_cursor_read_fTake_0p500 (getI (ls.getD 0 .junk)) (getXs (ls.getD 1 .junk)) (getI (ls.getD 2 .junk))) fun x => .r (res_cursor_read_fTake_0p500 x))
set_option maxRecDepth 100000 in
theorem S_cursor_read_fTake_0p500_ok : Sound Tryd.prog 33 S_cursor_read_fTake_0p500 :=
  heap_flat (E := E_cursor_read_fTake_0p500) (TblOK.enKB TYiG429t_ok _ _ _ _ _ _ _) mixed Tryd.func33 (c := Tryd.f33.body.getD .skip) (by kernel_rfl) (by kernel_rfl) (by decide) (by decide) (pats := P_cursor_read_fTake_0p500) (ops := Q_cursor_read_fTake_0p500) (OO := OO_cursor_read_fTake_0p500) (O := O_cursor_read_fTake_0p500) (tup := tup_cursor_read_fTake_0p500) (res := res_cursor_read_fTake_0p500) (g := fun ls => g_cursor_read_fTake_0p500 (getI (ls.getD 0 .junk)) (getXs (ls.getD 1 .junk)) (getI (ls.getD 2 .junk))) (T := fun ls => T_cursor_read_fTake_0p500 (getI (ls.getD 0 .junk)) (getXs (ls.getD 1 .junk)) (getI (ls.getD 2 .junk))) (fun _ => rfl) (fun ls => by kernel_rfl) c_cursor_read_fTake_0p500

noncomputable def TYiG430t : FuncId → Option Go.Cx.Spec := addT TYiG429t 33 (orH [44, 0, 3, 5, 0, 0] S_cursor_read_fTake_0p500 S_cursor_read_ftake_0p500)
theorem TYiG430t_ok : TblOK Tryd.prog TYiG430t := TYiG429t_ok.add (Sound.orH [44, 0, 3, 5, 0, 0] (Writes.heapS _) (Writes.heapS _) S_cursor_read_fTake_0p500_ok S_cursor_read_ftake_0p500_ok)

/- (*comptoir/cursor.Cursor).Text -/
noncomputable def E_cursor_Cursor_Text_p0500 : En := enKB Tryd.prog TYiG430t [] [] [] [] 1 1 true
def P_cursor_Cursor_Text_p0500 : List Pat := [.lit (.ptr 0 0), .leaf (.int .i64)]
def Q_cursor_Cursor_Text_p0500 : List OPat := [.fix 64 [.leaf (.slice 1 (.int .u8)), .leaf (.int .i64)]]
def O_cursor_Cursor_Text_p0500 : Pat := .tuple [.leaf .str, .leaf (.int .i64)]
def OO_cursor_Cursor_Text_p0500 : List OPat := [.fix 64 [.leaf (.slice 1 (.int .u8)), .leaf (.int .i64)]]
def tup_cursor_Cursor_Text_p0500 : List AV → List UInt8 × Int × List AV × Int := fun ls => (getS (ls.getD 0 .junk), getI (ls.getD 1 .junk), getXs (ls.getD 2 .junk), getI (ls.getD 3 .junk))
def res_cursor_Cursor_Text_p0500 : List UInt8 × Int × List AV × Int → AV × List Ob := fun x => (.tuple [.str (x.1), .int .i64 (x.2.1)], [.fix 64 [.slice 1 (.int .u8) (x.2.2.1) .ro, .int .i64 (x.2.2.2)]])
noncomputable def T_cursor_Cursor_Text_p0500 (x0 : Int) (x1 : List AV) (x2 : Int) : Tr (List UInt8 × Int × List AV × Int) := (opt (Go.Proofs.YtajknlhbfhemlaaDoor.g_cursor_read_fTake_0p500 x0 x1 x2) fun (y0 : List Go.Cx.AV × Int × List Go.Cx.AV × Int) => (.r ((Go.Cx.bytesOf (Prod.fst y0), Prod.fst (Prod.snd y0), Prod.fst (Prod.snd (Prod.snd y0)), Prod.snd (Prod.snd (Prod.snd y0))))))
noncomputable def g_cursor_Cursor_Text_p0500 (x0 : Int) (x1 : List AV) (x2 : Int) : Option (List UInt8 × Int × List AV × Int) := (T_cursor_Cursor_Text_p0500 x0 x1 x2).val
set_option maxRecDepth 100000 in
theorem c_cursor_Cursor_Text_p0500 (ls : List AV) (Rv : List UInt8 × Int × List AV × Int → Prop) : callA E_cursor_Cursor_Text_p0500 Tryd.f16 (instL ls P_cursor_Cursor_Text_p0500 0) (instH ls Q_cursor_Cursor_Text_p0500 1) (outH O_cursor_Cursor_Text_p0500 OO_cursor_Cursor_Text_p0500 fun ls => Rv (tup_cursor_Cursor_Text_p0500 ls)) = (T_cursor_Cursor_Text_p0500 (getI (ls.getD 0 .junk)) (getXs (ls.getD 1 .junk)) (getI (ls.getD 2 .junk))).fold False Rv := by kernel_rfl
noncomputable def S_cursor_Cursor_Text_p0500 : Go.Cx.Spec := heapS (patH P_cursor_Cursor_Text_p0500 Q_cursor_Cursor_Text_p0500 fun ls => opt (g_cursor_Cursor_Text_p0500 (getI (ls.getD 0 .junk)) (getXs (ls.getD 1 .junk)) (getI (ls.getD 2 .junk))) fun x => .r (res_cursor_Cursor_Text_p0500 x))
set_option maxRecDepth 100000 in
theorem S_cursor_Cursor_Text_p0500_ok : Sound Tryd.prog 16 S_cursor_Cursor_Text_p0500 :=
  heap_flat (E := E_cursor_Cursor_Text_p0500) (TblOK.enKB TYiG430t_ok _ _ _ _ _ _ _) mixed Tryd.func16 (c := Tryd.f16.body.getD .skip) (by kernel_rfl) (by kernel_rfl) (by decide) (by decide) (pats := P_cursor_Cursor_Text_p0500) (ops := Q_cursor_Cursor_Text_p0500) (OO := OO_cursor_Cursor_Text_p0500) (O := O_cursor_Cursor_Text_p0500) (tup := tup_cursor_Cursor_Text_p0500) (res := res_cursor_Cursor_Text_p0500) (g := fun ls => g_cursor_Cursor_Text_p0500 (getI (ls.getD 0 .junk)) (getXs (ls.getD 1 .junk)) (getI (ls.getD 2 .junk))) (T := fun ls => T_cursor_Cursor_Text_p0500 (getI (ls.getD 0 .junk)) (getXs (ls.getD 1 .junk)) (getI (ls.getD 2 .junk))) (fun _ => rfl) (fun ls => by kernel_rfl) c_cursor_Cursor_Text_p0500

noncomputable def TYiG431t : FuncId → Option Go.Cx.Spec := addT TYiG430t 16 S_cursor_Cursor_Text_p0500
theorem TYiG431t_ok : TblOK Tryd.prog TYiG431t := TYiG430t_ok.add S_cursor_Cursor_Text_p0500_ok

/- (comptoir/bitmap.bits).has -/
noncomputable def E_bitmap_bits_has : En := enK Tryd.prog TYiG431t [] [] [] [] 0
def P_bitmap_bits_has : List Pat := [.leaf (.slice 1 (.int .u8)), .leaf (.int .i64)]
def O_bitmap_bits_has : Pat := .leaf .bool
def tup_bitmap_bits_has : List AV → Bool := fun ls => getB (ls.getD 0 .junk)
def res_bitmap_bits_has : Bool → AV := fun x => .bool (x)
noncomputable def T_bitmap_bits_has (x0 : List AV) (x1 : Int) : Tr (Bool) := (.c (Decidable.decide ((0 : Int) ≤ Go.IntKind.wrap Go.IntKind.i64 (Int.tdiv (Go.IntKind.wrap Go.IntKind.i64 (x1 - (1 : Int))) (8 : Int)))) (.c (Decidable.decide (Go.IntKind.wrap Go.IntKind.i64 (Int.tdiv (Go.IntKind.wrap Go.IntKind.i64 (x1 - (1 : Int))) (8 : Int)) < (↑(List.length x0) : Int))) (.c (Decidable.decide ((0 : Int) ≤ Go.IntKind.wrap Go.IntKind.i64 ((7 : Int) - Int.tmod (Go.IntKind.wrap Go.IntKind.i64 (x1 - (1 : Int))) (8 : Int)))) (.r (Go.Cx.bitsA Go.BinOp.and Go.IntKind.u8 (Go.Cx.shrA Go.IntKind.u8 (Go.Cx.getI (List.getD x0 (Int.toNat (Go.IntKind.wrap Go.IntKind.i64 (Int.tdiv (Go.IntKind.wrap Go.IntKind.i64 (x1 - (1 : Int))) (8 : Int)))) (Go.Cx.AV.int Go.IntKind.u8 (0 : Int)))) (Go.IntKind.wrap Go.IntKind.i64 ((7 : Int) - Int.tmod (Go.IntKind.wrap Go.IntKind.i64 (x1 - (1 : Int))) (8 : Int)))) (1 : Int) == (1 : Int))) .bad) .bad) .bad)
noncomputable def g_bitmap_bits_has (x0 : List AV) (x1 : Int) : Option (Bool) := (T_bitmap_bits_has x0 x1).val
set_option maxRecDepth 100000 in
theorem c_bitmap_bits_has (ls : List AV) (Rv : Bool → Prop) : callA E_bitmap_bits_has Tryd.f37 (instL ls P_bitmap_bits_has 0) [] (outP O_bitmap_bits_has fun ls => Rv (tup_bitmap_bits_has ls)) = (T_bitmap_bits_has (getXs (ls.getD 0 .junk)) (getI (ls.getD 1 .junk))).fold False Rv := by kernel_rfl
noncomputable def S_bitmap_bits_has : Go.Cx.Spec := pureS (patF P_bitmap_bits_has fun ls => opt (g_bitmap_bits_has (getXs (ls.getD 0 .junk)) (getI (ls.getD 1 .junk))) fun x => .r (res_bitmap_bits_has x))
set_option maxRecDepth 100000 in
theorem S_bitmap_bits_has_ok : Sound Tryd.prog 37 S_bitmap_bits_has :=
  pure_flat (E := E_bitmap_bits_has) (TblOK.enK TYiG431t_ok _ _ _ _ _) mixed rfl Tryd.func37 (c := Tryd.f37.body.getD .skip) (by kernel_rfl) (by kernel_rfl) (pats := P_bitmap_bits_has) (O := O_bitmap_bits_has) (tup := tup_bitmap_bits_has) (res := res_bitmap_bits_has) (g := fun ls => g_bitmap_bits_has (getXs (ls.getD 0 .junk)) (getI (ls.getD 1 .junk))) (T := fun ls => T_bitmap_bits_has (getXs (ls.getD 0 .junk)) (getI (ls.getD 1 .junk))) (fun _ => rfl) (fun ls => by kernel_rfl) c_bitmap_bits_has

noncomputable def TYiG432t : FuncId → Option Go.Cx.Spec := addT TYiG431t 37 S_bitmap_bits_has
theorem TYiG432t_ok : TblOK Tryd.prog TYiG432t := TYiG431t_ok.add S_bitmap_bits_has_ok

/- comptoir/bitmap.which -/
noncomputable def E_bitmap_which_00fhas_ : En := enK Tryd.prog TYiG432t [] [(3, ⟨[0, 3, 4, 5, 6, 9, 10, 11, 12, 13, 14, 15, 16, 17, 18, 19, 20, 21, 22], [], [], none, [], [], [], [], true⟩)] [(3, [(7, 3, (.int .i64))])] [] 0
def P_bitmap_which_00fhas_ : List Pat := [.leaf (.int .i64), .leaf (.int .i64), .func 37 [.leaf (.slice 1 (.int .u8))] []]
def O_bitmap_which_00fhas_ : Pat := .leaf (.slice 1 (.int .i64))
def tup_bitmap_which_00fhas_ : List AV → List AV := fun ls => getXs (ls.getD 0 .junk)
def res_bitmap_which_00fhas_ : List AV → AV := fun x => .slice 1 (.int .i64) (x) .ro
noncomputable def T_bitmap_which_00fhas_ (x0 : Int) (x1 : Int) (x2 : List AV) : Tr ((Int × List AV) ⊕ (List AV)) := (.r (.inl ((x0, []))))
noncomputable def M_bitmap_which_00fhas_ (x0 : Int) (x1 : Int) (x2 : List AV) : Int × List AV → Tr ((Int × List AV) ⊕ (List AV))
  | (i0, l0) => (.c (Decidable.decide (i0 ≤ x1)) (opt (Go.Proofs.YtajknlhbfhemlaaDoor.g_bitmap_bits_has x2 i0) fun (y0 : Bool) => (.c (y0) (.c (List.length l0 == List.length l0) (.c (Decidable.decide (List.length (l0 ++ [Go.Cx.AV.int Go.IntKind.i64 i0]) * (9 : Nat) < (70368744177664 : Nat))) (.r (.inl ((Go.IntKind.wrap Go.IntKind.i64 (i0 + (1 : Int)), l0 ++ [Go.Cx.AV.int Go.IntKind.i64 i0])))) .bad) .bad) (.r (.inl ((Go.IntKind.wrap Go.IntKind.i64 (i0 + (1 : Int)), l0)))))) (.c (List.length l0 == List.length l0) (.r (.inr (l0))) .bad))
noncomputable def g_bitmap_which_00fhas_ (x0 : Int) (x1 : Int) (x2 : List AV) : Option (List AV) := run (M_bitmap_which_00fhas_ x0 x1 x2) (T_bitmap_which_00fhas_ x0 x1 x2)
noncomputable def b_bitmap_which_00fhas_ := Tryd.f38.body.getD .skip
noncomputable def st_bitmap_which_00fhas__0 (x0 : Int) (x1 : Int) (x2 : List AV) (i0 : Int) (l0 : List AV) : St := ⟨[Go.Cx.AV.junk, Go.Cx.AV.int Go.IntKind.i64 x1, Go.Cx.AV.func (37 : Nat) [Go.Cx.AV.slice (1 : Nat) (Go.Cx.Sh.int Go.IntKind.u8) x2 Go.Cx.SK.ro] [], Go.Cx.AV.junk, Go.Cx.AV.junk, Go.Cx.AV.junk, Go.Cx.AV.junk, Go.Cx.AV.oslice (0 : Nat) (0 : Nat) (List.length l0), Go.Cx.AV.int Go.IntKind.i64 i0, Go.Cx.AV.junk, Go.Cx.AV.junk, Go.Cx.AV.junk, Go.Cx.AV.junk, Go.Cx.AV.junk, Go.Cx.AV.junk, Go.Cx.AV.junk, Go.Cx.AV.junk, Go.Cx.AV.junk, Go.Cx.AV.junk, Go.Cx.AV.junk, Go.Cx.AV.junk, Go.Cx.AV.junk, Go.Cx.AV.junk], [Go.Cx.Ob.grow (3 : Nat) (0 : Nat) (1 : Nat) (Go.Cx.Sh.int Go.IntKind.i64) l0]⟩
noncomputable def L_bitmap_which_00fhas_ (x0 : Int) (x1 : Int) (x2 : List AV) (Rv : List AV → Prop) : Int × List AV → Prop
  | (i0, l0) => headL E_bitmap_which_00fhas_ [.r, .r, .l, .r, .d] b_bitmap_which_00fhas_ 1000 (bodyK E_bitmap_which_00fhas_ Tryd.f38 (outP O_bitmap_which_00fhas_ fun ls => Rv (tup_bitmap_which_00fhas_ ls))) (st_bitmap_which_00fhas__0 x0 x1 x2 i0 l0)
set_option maxRecDepth 100000 in
theorem l_bitmap_which_00fhas__0 (x0 : Int) (x1 : Int) (x2 : List AV) (Rv : List AV → Prop) (i0 : Int) (l0 : List AV) : stepL E_bitmap_which_00fhas_ [.r, .r, .l, .r, .d] b_bitmap_which_00fhas_ 1000 (bodyK E_bitmap_which_00fhas_ Tryd.f38 (outP O_bitmap_which_00fhas_ fun ls => Rv (tup_bitmap_which_00fhas_ ls))) (st_bitmap_which_00fhas__0 x0 x1 x2 i0 l0) =
  (M_bitmap_which_00fhas_ x0 x1 x2 ((i0, l0))).fold False (Sum.elim (L_bitmap_which_00fhas_ x0 x1 x2 Rv) Rv) := by kernel_rfl
set_option maxRecDepth 100000 in
theorem e_bitmap_which_00fhas__0 (x0 : Int) (x1 : Int) (x2 : List AV) (Rv : List AV → Prop) (i0 : Int) (l0 : List AV) : L_bitmap_which_00fhas_ x0 x1 x2 Rv ((i0, l0)) = headL E_bitmap_which_00fhas_ [.r, .r, .l, .r, .d] b_bitmap_which_00fhas_ 1000 (bodyK E_bitmap_which_00fhas_ Tryd.f38 (outP O_bitmap_which_00fhas_ fun ls => Rv (tup_bitmap_which_00fhas_ ls))) (st_bitmap_which_00fhas__0 x0 x1 x2 i0 l0) := by kernel_rfl
section
attribute [local irreducible] Tr.fold M_bitmap_which_00fhas_ L_bitmap_which_00fhas_ T_bitmap_which_00fhas_ E_bitmap_which_00fhas_ b_bitmap_which_00fhas_ bodyK headC headL stepC stepL wpX callA
set_option maxRecDepth 100000 in
theorem h_bitmap_which_00fhas_ (x0 : Int) (x1 : Int) (x2 : List AV) (Rv : List AV → Prop) : ∀ s, (M_bitmap_which_00fhas_ x0 x1 x2 s).fold False (Sum.elim (L_bitmap_which_00fhas_ x0 x1 x2 Rv) Rv) → L_bitmap_which_00fhas_ x0 x1 x2 Rv s := by
  rintro (⟨v0, v1⟩)
  · exact fun h => Eq.mpr (e_bitmap_which_00fhas__0 x0 x1 x2 Rv v0 v1) (headL_of (Eq.mpr (l_bitmap_which_00fhas__0 x0 x1 x2 Rv v0 v1) h))
set_option maxRecDepth 100000 in
theorem c_bitmap_which_00fhas_ (ls : List AV) (Rv : List AV → Prop) : callA E_bitmap_which_00fhas_ Tryd.f38 (instL ls P_bitmap_which_00fhas_ 0) [] (outP O_bitmap_which_00fhas_ fun ls => Rv (tup_bitmap_which_00fhas_ ls)) = (T_bitmap_which_00fhas_ (getI (ls.getD 0 .junk)) (getI (ls.getD 1 .junk)) (getXs (ls.getD 2 .junk))).fold False (Sum.elim (L_bitmap_which_00fhas_ (getI (ls.getD 0 .junk)) (getI (ls.getD 1 .junk)) (getXs (ls.getD 2 .junk)) Rv) Rv) := by kernel_rfl
end
noncomputable def S_bitmap_which_00fhas_ : Go.Cx.Spec := pureS (patF P_bitmap_which_00fhas_ fun ls => opt (g_bitmap_which_00fhas_ (getI (ls.getD 0 .junk)) (getI (ls.getD 1 .junk)) (getXs (ls.getD 2 .junk))) fun x => .r (res_bitmap_which_00fhas_ x))
set_option maxRecDepth 100000 in
theorem S_bitmap_which_00fhas__ok : Sound Tryd.prog 38 S_bitmap_which_00fhas_ :=
  pure_mach (E := E_bitmap_which_00fhas_) (TblOK.enK TYiG432t_ok _ _ _ _ _) mixed rfl Tryd.func38 (c := Tryd.f38.body.getD .skip) (by kernel_rfl) (by kernel_rfl) (pats := P_bitmap_which_00fhas_) (O := O_bitmap_which_00fhas_) (tup := tup_bitmap_which_00fhas_) (res := res_bitmap_which_00fhas_) (g := fun ls => g_bitmap_which_00fhas_ (getI (ls.getD 0 .junk)) (getI (ls.getD 1 .junk)) (getXs (ls.getD 2 .junk))) (T := fun ls => T_bitmap_which_00fhas_ (getI (ls.getD 0 .junk)) (getI (ls.getD 1 .junk)) (getXs (ls.getD 2 .junk))) (step := fun ls => M_bitmap_which_00fhas_ (getI (ls.getD 0 .junk)) (getI (ls.getD 1 .junk)) (getXs (ls.getD 2 .junk))) (L := fun ls => L_bitmap_which_00fhas_ (getI (ls.getD 0 .junk)) (getI (ls.getD 1 .junk)) (getXs (ls.getD 2 .junk))) (fun _ => rfl) (fun ls => by kernel_rfl) c_bitmap_which_00fhas_ (fun ls Rv => h_bitmap_which_00fhas_ (getI (ls.getD 0 .junk)) (getI (ls.getD 1 .junk)) (getXs (ls.getD 2 .junk)) Rv)

noncomputable def TYiG433t : FuncId → Option Go.Cx.Spec := addT TYiG432t 38 S_bitmap_which_00fhas_
theorem TYiG433t_ok : TblOK Tryd.prog TYiG433t := TYiG432t_ok.add S_bitmap_which_00fhas__ok

/- comptoir/bitmap.Parse -/
noncomputable def E_bitmap_Parse : En := enK Tryd.prog TYiG433t [1000009, 1000023] [] [] [] 0
def P_bitmap_Parse : List Pat := [.leaf (.slice 1 (.int .u8))]
def O_bitmap_Parse : Pat := .tuple [.leaf (.slice 1 (.int .i64)), .leaf (.int .i64), .leaf (.int .i64)]
def tup_bitmap_Parse : List AV → List AV × Int × Int := fun ls => (getXs (ls.getD 0 .junk), getI (ls.getD 1 .junk), getI (ls.getD 2 .junk))
def res_bitmap_Parse : List AV × Int × Int → AV := fun x => .tuple [.slice 1 (.int .i64) (x.1) .ro, .int .i64 (x.2.1), .int .i64 (x.2.2)]
noncomputable def T_bitmap_Parse (x0 : List AV) : Tr (List AV × Int × Int) := (opt (Go.Proofs.YtajknlhbfhemlaaDoor.g_cursor_New x0) fun (y0 : List Go.Cx.AV × Int) => (opt (Go.Proofs.YtajknlhbfhemlaaDoor.g_cursor_Cursor_Take_p0500 (8 : Int) (Prod.fst y0) (Prod.snd y0)) fun (y1 : Int × List Go.Cx.AV × Int × List Go.Cx.AV) => (.c (Prod.fst y1 != (0 : Int)) (.r (([], (0 : Int), Prod.fst y1))) (.c (bif List.length (Prod.snd (Prod.snd (Prod.snd y1))) == List.length (Prod.snd (Prod.snd (Prod.snd y1))) then Bool.true else Bool.false) (opt (Go.Proofs.YtajknlhbfhemlaaDoor.g_bitmap_bits_has (Prod.snd (Prod.snd (Prod.snd y1))) (1 : Int)) fun (y2 : Bool) => (.c (!y2) (.c (List.length (Prod.snd (Prod.snd (Prod.snd y1))) == List.length (Prod.snd (Prod.snd (Prod.snd y1)))) (opt (Go.Proofs.YtajknlhbfhemlaaDoor.g_bitmap_which_00fhas_ (2 : Int) (64 : Int) (Prod.snd (Prod.snd (Prod.snd y1)))) fun (y3 : List Go.Cx.AV) => (.r ((y3, (8 : Int), (0 : Int))))) .bad) (opt (Go.Proofs.YtajknlhbfhemlaaDoor.g_cursor_Cursor_Take_p0500 (8 : Int) (Prod.fst (Prod.snd y1)) (Prod.fst (Prod.snd (Prod.snd y1)))) fun (y3 : Int × List Go.Cx.AV × Int × List Go.Cx.AV) => (.c (Prod.fst y3 != (0 : Int)) (.r (([], (0 : Int), Prod.fst y3))) (.c (List.length (Prod.snd (Prod.snd (Prod.snd y3))) == List.length (Prod.snd (Prod.snd (Prod.snd y3)))) (.c (List.length (Prod.snd (Prod.snd (Prod.snd y1))) == List.length (Prod.snd (Prod.snd (Prod.snd y1)))) (.c (Decidable.decide (List.length (Prod.snd (Prod.snd (Prod.snd y1)) ++ Prod.snd (Prod.snd (Prod.snd y3))) * (2 : Nat) < (70368744177664 : Nat))) (.c (List.length (Prod.snd (Prod.snd (Prod.snd y1)) ++ Prod.snd (Prod.snd (Prod.snd y3))) == List.length (Prod.snd (Prod.snd (Prod.snd y1)) ++ Prod.snd (Prod.snd (Prod.snd y3)))) (opt (Go.Proofs.YtajknlhbfhemlaaDoor.g_bitmap_bits_has (Prod.snd (Prod.snd (Prod.snd y1)) ++ Prod.snd (Prod.snd (Prod.snd y3))) (65 : Int)) fun (y4 : Bool) => (.c (y4) (.r (([], (0 : Int), (6 : Int)))) (opt (Go.Proofs.YtajknlhbfhemlaaDoor.g_bitmap_which_00fhas_ (66 : Int) (128 : Int) (Prod.snd (Prod.snd (Prod.snd y1)) ++ Prod.snd (Prod.snd (Prod.snd y3)))) fun (y5 : List Go.Cx.AV) => (.c ((↑(List.length y5) : Int) == (0 : Int)) (.r (([], (0 : Int), (6 : Int)))) (opt (Go.Proofs.YtajknlhbfhemlaaDoor.g_bitmap_which_00fhas_ (2 : Int) (128 : Int) (Prod.snd (Prod.snd (Prod.snd y1)) ++ Prod.snd (Prod.snd (Prod.snd y3)))) fun (y6 : List Go.Cx.AV) => (.r ((y6, (16 : Int), (0 : Int))))))))) .bad) .bad) .bad) .bad))))) .bad))))
noncomputable def g_bitmap_Parse (x0 : List AV) : Option (List AV × Int × Int) := (T_bitmap_Parse x0).val
set_option maxRecDepth 100000 in
theorem c_bitmap_Parse (ls : List AV) (Rv : List AV × Int × Int → Prop) : callA E_bitmap_Parse Tryd.f18 (instL ls P_bitmap_Parse 0) [] (outP O_bitmap_Parse fun ls => Rv (tup_bitmap_Parse ls)) = (T_bitmap_Parse (getXs (ls.getD 0 .junk))).fold False Rv := by kernel_rfl
noncomputable def S_bitmap_Parse : Go.Cx.Spec := pureS (patF P_bitmap_Parse fun ls => opt (g_bitmap_Parse (getXs (ls.getD 0 .junk))) fun x => .r (res_bitmap_Parse x))
set_option maxRecDepth 100000 in
theorem S_bitmap_Parse_ok : Sound Tryd.prog 18 S_bitmap_Parse :=
  pure_flat (E := E_bitmap_Parse) (TblOK.enK TYiG433t_ok _ _ _ _ _) mixed rfl Tryd.func18 (c := Tryd.f18.body.getD .skip) (by kernel_rfl) (by kernel_rfl) (pats := P_bitmap_Parse) (O := O_bitmap_Parse) (tup := tup_bitmap_Parse) (res := res_bitmap_Parse) (g := fun ls => g_bitmap_Parse (getXs (ls.getD 0 .junk))) (T := fun ls => T_bitmap_Parse (getXs (ls.getD 0 .junk))) (fun _ => rfl) (fun ls => by kernel_rfl) c_bitmap_Parse

noncomputable def TYiG434t : FuncId → Option Go.Cx.Spec := addT TYiG433t 18 S_bitmap_Parse
theorem TYiG434t_ok : TblOK Tryd.prog TYiG434t := TYiG433t_ok.add S_bitmap_Parse_ok

/- comptoir/digits.Number -/
noncomputable def E_digits_Number : En := enK Tryd.prog TYiG434t [] [(5, ⟨[1, 2, 3, 5, 6, 7, 8, 9, 12, 13, 14, 15, 16, 17, 18, 19, 20, 21, 22, 23], [], [], none, [], [], [], [], true⟩)] [] [] 0
def P_digits_Number : List Pat := [.leaf .str]
def O_digits_Number : Pat := .tuple [.leaf (.int .u64), .leaf (.int .i64)]
def tup_digits_Number : List AV → Int × Int := fun ls => (getI (ls.getD 0 .junk), getI (ls.getD 1 .junk))
def res_digits_Number : Int × Int → AV := fun x => .tuple [.int .u64 (x.1), .int .i64 (x.2)]
noncomputable def T_digits_Number (x0 : List UInt8) : Tr ((Int × Int) ⊕ (Int × Int)) := (opt (Go.Proofs.YtajknlhbfhemlaaDoor.g_digits_Right x0 (1 : Int) (18 : Int)) fun (y0 : Bool) => (.c (!y0) (.r (.inr (((0 : Int), (5 : Int))))) (.r (.inl (((0 : Int), (0 : Int)))))))
noncomputable def M_digits_Number (x0 : List UInt8) : Int × Int → Tr ((Int × Int) ⊕ (Int × Int))
  | (i0, i1) => (.c (Decidable.decide (i1 < (↑(List.length x0) : Int))) (.c (Decidable.decide ((0 : Int) ≤ i1)) (.c (Decidable.decide (i1 < (↑(List.length x0) : Int))) (.r (.inl ((Go.IntKind.wrap Go.IntKind.u64 (Go.IntKind.wrap Go.IntKind.u64 (i0 * (10 : Int)) + Go.IntKind.wrap Go.IntKind.u64 (Go.IntKind.wrap Go.IntKind.u8 ((↑(UInt8.toNat (List.getD x0 (Int.toNat i1) (0 : UInt8))) : Int) - (48 : Int)))), Go.IntKind.wrap Go.IntKind.i64 (i1 + (1 : Int)))))) .bad) .bad) (.r (.inr ((i0, (0 : Int))))))
noncomputable def g_digits_Number (x0 : List UInt8) : Option (Int × Int) := run (M_digits_Number x0) (T_digits_Number x0)
noncomputable def b_digits_Number := Tryd.f66.body.getD .skip
noncomputable def st_digits_Number_0 (x0 : List UInt8) (i0 : Int) (i1 : Int) : St := ⟨[Go.Cx.AV.str x0, Go.Cx.AV.junk, Go.Cx.AV.junk, Go.Cx.AV.junk, Go.Cx.AV.int Go.IntKind.u64 i0, Go.Cx.AV.junk, Go.Cx.AV.junk, Go.Cx.AV.junk, Go.Cx.AV.junk, Go.Cx.AV.junk, Go.Cx.AV.int Go.IntKind.i64 (↑(List.length x0) : Int), Go.Cx.AV.int Go.IntKind.i64 i1, Go.Cx.AV.junk, Go.Cx.AV.junk, Go.Cx.AV.junk, Go.Cx.AV.junk, Go.Cx.AV.junk, Go.Cx.AV.junk, Go.Cx.AV.junk, Go.Cx.AV.junk, Go.Cx.AV.junk, Go.Cx.AV.junk, Go.Cx.AV.junk, Go.Cx.AV.junk], []⟩
noncomputable def L_digits_Number (x0 : List UInt8) (Rv : Int × Int → Prop) : Int × Int → Prop
  | (i0, i1) => headL E_digits_Number [.r, .r, .r, .l, .r, .d] b_digits_Number 1000 (bodyK E_digits_Number Tryd.f66 (outP O_digits_Number fun ls => Rv (tup_digits_Number ls))) (st_digits_Number_0 x0 i0 i1)
set_option maxRecDepth 100000 in
theorem l_digits_Number_0 (x0 : List UInt8) (Rv : Int × Int → Prop) (i0 : Int) (i1 : Int) : stepL E_digits_Number [.r, .r, .r, .l, .r, .d] b_digits_Number 1000 (bodyK E_digits_Number Tryd.f66 (outP O_digits_Number fun ls => Rv (tup_digits_Number ls))) (st_digits_Number_0 x0 i0 i1) =
  (M_digits_Number x0 ((i0, i1))).fold False (Sum.elim (L_digits_Number x0 Rv) Rv) := by kernel_rfl
set_option maxRecDepth 100000 in
theorem e_digits_Number_0 (x0 : List UInt8) (Rv : Int × Int → Prop) (i0 : Int) (i1 : Int) : L_digits_Number x0 Rv ((i0, i1)) = headL E_digits_Number [.r, .r, .r, .l, .r, .d] b_digits_Number 1000 (bodyK E_digits_Number Tryd.f66 (outP O_digits_Number fun ls => Rv (tup_digits_Number ls))) (st_digits_Number_0 x0 i0 i1) := by kernel_rfl
section
attribute [local irreducible] Tr.fold M_digits_Number L_digits_Number T_digits_Number E_digits_Number b_digits_Number bodyK headC headL stepC stepL wpX callA
set_option maxRecDepth 100000 in
theorem h_digits_Number (x0 : List UInt8) (Rv : Int × Int → Prop) : ∀ s, (M_digits_Number x0 s).fold False (Sum.elim (L_digits_Number x0 Rv) Rv) → L_digits_Number x0 Rv s := by
  rintro (⟨v0, v1⟩)
  · exact fun h => Eq.mpr (e_digits_Number_0 x0 Rv v0 v1) (headL_of (Eq.mpr (l_digits_Number_0 x0 Rv v0 v1) h))
set_option maxRecDepth 100000 in
theorem c_digits_Number (ls : List AV) (Rv : Int × Int → Prop) : callA E_digits_Number Tryd.f66 (instL ls P_digits_Number 0) [] (outP O_digits_Number fun ls => Rv (tup_digits_Number ls)) = (T_digits_Number (getS (ls.getD 0 .junk))).fold False (Sum.elim (L_digits_Number (getS (ls.getD 0 .junk)) Rv) Rv) := by kernel_rfl
end
noncomputable def S_digits_Number : Go.Cx.Spec := pureS (patF P_digits_Number fun ls => opt (g_digits_Number (getS (ls.getD 0 .junk))) fun x => .r (res_digits_Number x))
set_option maxRecDepth 100000 in
theorem S_digits_Number_ok : Sound Tryd.prog 66 S_digits_Number :=
  pure_mach (E := E_digits_Number) (TblOK.enK TYiG434t_ok _ _ _ _ _) mixed rfl Tryd.func66 (c := Tryd.f66.body.getD .skip) (by kernel_rfl) (by kernel_rfl) (pats := P_digits_Number) (O := O_digits_Number) (tup := tup_digits_Number) (res := res_digits_Number) (g := fun ls => g_digits_Number (getS (ls.getD 0 .junk))) (T := fun ls => T_digits_Number (getS (ls.getD 0 .junk))) (step := fun ls => M_digits_Number (getS (ls.getD 0 .junk))) (L := fun ls => L_digits_Number (getS (ls.getD 0 .junk))) (fun _ => rfl) (fun ls => by kernel_rfl) c_digits_Number (fun ls Rv => h_digits_Number (getS (ls.getD 0 .junk)) Rv)

noncomputable def TYiG435t : FuncId → Option Go.Cx.Spec := addT TYiG434t 66 S_digits_Number
theorem TYiG435t_ok : TblOK Tryd.prog TYiG435t := TYiG434t_ok.add S_digits_Number_ok

/- comptoir/element.size -/
noncomputable def E_element_size : En := enK Tryd.prog TYiG435t [] [] [] [] 0
def P_element_size : List Pat := [.agg [.leaf (.int .i64), .leaf (.int .i64), .leaf (.int .i64), .leaf (.int .i64)], .leaf (.slice 1 (.int .u8))]
def O_element_size : Pat := .tuple [.leaf (.int .i64), .leaf (.int .i64)]
def tup_element_size : List AV → Int × Int := fun ls => (getI (ls.getD 0 .junk), getI (ls.getD 1 .junk))
def res_element_size : Int × Int → AV := fun x => .tuple [.int .i64 (x.1), .int .i64 (x.2)]
noncomputable def T_element_size (x0 : Int) (x1 : Int) (x2 : Int) (x3 : Int) (x4 : List AV) : Tr (Int × Int) := (.c (x2 == (0 : Int)) (.r ((x3, (0 : Int)))) (.c (Decidable.decide ((↑(List.length x4) : Int) < x2)) (.r (((0 : Int), (3 : Int)))) (.c (Decidable.decide ((0 : Int) ≤ x2)) (.c (Decidable.decide (x2 ≤ (↑(List.length x4) : Int))) (.c (Decidable.decide ((0 : Int) ≤ x2)) (opt (Go.Proofs.YtajknlhbfhemlaaDoor.g_digits_Number (Go.Cx.bytesOf (List.drop (0 : Nat) (List.take (Int.toNat x2) x4)))) fun (y0 : Int × Int) => (.c (Prod.snd y0 != (0 : Int)) (.r (((0 : Int), Prod.snd y0))) (opt (Go.Proofs.YtajknlhbfhemlaaDoor.g_element_long x0 x1 x2 x3 (Go.IntKind.wrap Go.IntKind.i64 (Prod.fst y0))) fun (y1 : Bool) => (.c (!y1) (.r (((0 : Int), (17 : Int)))) (.r ((Go.IntKind.wrap Go.IntKind.i64 (Prod.fst y0), (0 : Int)))))))) .bad) .bad) .bad)))
noncomputable def g_element_size (x0 : Int) (x1 : Int) (x2 : Int) (x3 : Int) (x4 : List AV) : Option (Int × Int) := (T_element_size x0 x1 x2 x3 x4).val
set_option maxRecDepth 100000 in
theorem c_element_size (ls : List AV) (Rv : Int × Int → Prop) : callA E_element_size Tryd.f55 (instL ls P_element_size 0) [] (outP O_element_size fun ls => Rv (tup_element_size ls)) = (T_element_size (getI (ls.getD 0 .junk)) (getI (ls.getD 1 .junk)) (getI (ls.getD 2 .junk)) (getI (ls.getD 3 .junk)) (getXs (ls.getD 4 .junk))).fold False Rv := by kernel_rfl
noncomputable def S_element_size : Go.Cx.Spec := pureS (patF P_element_size fun ls => opt (g_element_size (getI (ls.getD 0 .junk)) (getI (ls.getD 1 .junk)) (getI (ls.getD 2 .junk)) (getI (ls.getD 3 .junk)) (getXs (ls.getD 4 .junk))) fun x => .r (res_element_size x))
set_option maxRecDepth 100000 in
theorem S_element_size_ok : Sound Tryd.prog 55 S_element_size :=
  pure_flat (E := E_element_size) (TblOK.enK TYiG435t_ok _ _ _ _ _) mixed rfl Tryd.func55 (c := Tryd.f55.body.getD .skip) (by kernel_rfl) (by kernel_rfl) (pats := P_element_size) (O := O_element_size) (tup := tup_element_size) (res := res_element_size) (g := fun ls => g_element_size (getI (ls.getD 0 .junk)) (getI (ls.getD 1 .junk)) (getI (ls.getD 2 .junk)) (getI (ls.getD 3 .junk)) (getXs (ls.getD 4 .junk))) (T := fun ls => T_element_size (getI (ls.getD 0 .junk)) (getI (ls.getD 1 .junk)) (getI (ls.getD 2 .junk)) (getI (ls.getD 3 .junk)) (getXs (ls.getD 4 .junk))) (fun _ => rfl) (fun ls => by kernel_rfl) c_element_size

noncomputable def TYiG436t : FuncId → Option Go.Cx.Spec := addT TYiG435t 55 S_element_size
theorem TYiG436t_ok : TblOK Tryd.prog TYiG436t := TYiG435t_ok.add S_element_size_ok

/- comptoir/element.Read -/
noncomputable def E_element_Read : En := enK Tryd.prog TYiG436t [] [] [] [] 0
def P_element_Read : List Pat := [.leaf (.int .i64), .leaf (.slice 1 (.int .u8))]
def O_element_Read : Pat := .tuple [.leaf (.slice 1 (.int .u8)), .leaf (.int .i64), .leaf (.int .i64)]
def tup_element_Read : List AV → List AV × Int × Int := fun ls => (getXs (ls.getD 0 .junk), getI (ls.getD 1 .junk), getI (ls.getD 2 .junk))
def res_element_Read : List AV × Int × Int → AV := fun x => .tuple [.slice 1 (.int .u8) (x.1) .ro, .int .i64 (x.2.1), .int .i64 (x.2.2)]
noncomputable def T_element_Read (x0 : Int) (x1 : List AV) : Tr (List AV × Int × Int) := (opt (Go.Proofs.YtajknlhbfhemlaaDoor.g_element_Of x0) fun (y0 : Int × Int × Int × Int × Bool) => (.c (!Prod.snd (Prod.snd (Prod.snd (Prod.snd y0)))) (.r (([], (0 : Int), (16 : Int)))) (opt (Go.Proofs.YtajknlhbfhemlaaDoor.g_element_size (Prod.fst y0) (Prod.fst (Prod.snd y0)) (Prod.fst (Prod.snd (Prod.snd y0))) (Prod.fst (Prod.snd (Prod.snd (Prod.snd y0)))) x1) fun (y1 : Int × Int) => (.c (Prod.snd y1 != (0 : Int)) (.r (([], (0 : Int), Prod.snd y1))) (.c (Decidable.decide ((↑(List.length x1) : Int) < Go.IntKind.wrap Go.IntKind.i64 (Prod.fst (Prod.snd (Prod.snd y0)) + Prod.fst y1))) (.r (([], (0 : Int), (3 : Int)))) (.c (Decidable.decide ((0 : Int) ≤ Go.IntKind.wrap Go.IntKind.i64 (Prod.fst (Prod.snd (Prod.snd y0)) + Prod.fst y1))) (.c (Decidable.decide (Go.IntKind.wrap Go.IntKind.i64 (Prod.fst (Prod.snd (Prod.snd y0)) + Prod.fst y1) ≤ (↑(List.length x1) : Int))) (.c (Decidable.decide ((0 : Int) ≤ Prod.fst (Prod.snd (Prod.snd y0)))) (.c (Decidable.decide (Prod.fst (Prod.snd (Prod.snd y0)) ≤ Go.IntKind.wrap Go.IntKind.i64 (Prod.fst (Prod.snd (Prod.snd y0)) + Prod.fst y1))) (opt (Go.Proofs.YtajknlhbfhemlaaDoor.g_element_right (Prod.fst y0) (Prod.fst (Prod.snd y0)) (Prod.fst (Prod.snd (Prod.snd y0))) (Prod.fst (Prod.snd (Prod.snd (Prod.snd y0)))) (List.drop (Int.toNat (Prod.fst (Prod.snd (Prod.snd y0)))) (List.take (Int.toNat (Go.IntKind.wrap Go.IntKind.i64 (Prod.fst (Prod.snd (Prod.snd y0)) + Prod.fst y1))) x1))) fun (y2 : Int) => (.c (y2 != (0 : Int)) (.r (([], (0 : Int), y2))) (.c (Decidable.decide ((0 : Int) ≤ Go.IntKind.wrap Go.IntKind.i64 (Prod.fst (Prod.snd (Prod.snd y0)) + Prod.fst y1))) (.c (Decidable.decide (Go.IntKind.wrap Go.IntKind.i64 (Prod.fst (Prod.snd (Prod.snd y0)) + Prod.fst y1) ≤ (↑(List.length x1) : Int))) (.c (Decidable.decide ((0 : Int) ≤ Prod.fst (Prod.snd (Prod.snd y0)))) (.c (Decidable.decide (Prod.fst (Prod.snd (Prod.snd y0)) ≤ Go.IntKind.wrap Go.IntKind.i64 (Prod.fst (Prod.snd (Prod.snd y0)) + Prod.fst y1))) (.c (Decidable.decide (List.length (List.drop (Int.toNat (Prod.fst (Prod.snd (Prod.snd y0)))) (List.take (Int.toNat (Go.IntKind.wrap Go.IntKind.i64 (Prod.fst (Prod.snd (Prod.snd y0)) + Prod.fst y1))) x1)) * (2 : Nat) < (70368744177664 : Nat))) (.c (List.length (List.drop (Int.toNat (Prod.fst (Prod.snd (Prod.snd y0)))) (List.take (Int.toNat (Go.IntKind.wrap Go.IntKind.i64 (Prod.fst (Prod.snd (Prod.snd y0)) + Prod.fst y1))) x1)) == List.length (List.drop (Int.toNat (Prod.fst (Prod.snd (Prod.snd y0)))) (List.take (Int.toNat (Go.IntKind.wrap Go.IntKind.i64 (Prod.fst (Prod.snd (Prod.snd y0)) + Prod.fst y1))) x1))) (.r ((List.drop (Int.toNat (Prod.fst (Prod.snd (Prod.snd y0)))) (List.take (Int.toNat (Go.IntKind.wrap Go.IntKind.i64 (Prod.fst (Prod.snd (Prod.snd y0)) + Prod.fst y1))) x1), Go.IntKind.wrap Go.IntKind.i64 (Prod.fst (Prod.snd (Prod.snd y0)) + Prod.fst y1), (0 : Int)))) .bad) .bad) .bad) .bad) .bad) .bad))) .bad) .bad) .bad) .bad))))))
noncomputable def g_element_Read (x0 : Int) (x1 : List AV) : Option (List AV × Int × Int) := (T_element_Read x0 x1).val
set_option maxRecDepth 100000 in
theorem c_element_Read (ls : List AV) (Rv : List AV × Int × Int → Prop) : callA E_element_Read Tryd.f39 (instL ls P_element_Read 0) [] (outP O_element_Read fun ls => Rv (tup_element_Read ls)) = (T_element_Read (getI (ls.getD 0 .junk)) (getXs (ls.getD 1 .junk))).fold False Rv := by kernel_rfl
noncomputable def S_element_Read : Go.Cx.Spec := pureS (patF P_element_Read fun ls => opt (g_element_Read (getI (ls.getD 0 .junk)) (getXs (ls.getD 1 .junk))) fun x => .r (res_element_Read x))
set_option maxRecDepth 100000 in
theorem S_element_Read_ok : Sound Tryd.prog 39 S_element_Read :=
  pure_flat (E := E_element_Read) (TblOK.enK TYiG436t_ok _ _ _ _ _) mixed rfl Tryd.func39 (c := Tryd.f39.body.getD .skip) (by kernel_rfl) (by kernel_rfl) (pats := P_element_Read) (O := O_element_Read) (tup := tup_element_Read) (res := res_element_Read) (g := fun ls => g_element_Read (getI (ls.getD 0 .junk)) (getXs (ls.getD 1 .junk))) (T := fun ls => T_element_Read (getI (ls.getD 0 .junk)) (getXs (ls.getD 1 .junk))) (fun _ => rfl) (fun ls => by kernel_rfl) c_element_Read

noncomputable def TYiG437t : FuncId → Option Go.Cx.Spec := addT TYiG436t 39 S_element_Read
theorem TYiG437t_ok : TblOK Tryd.prog TYiG437t := TYiG436t_ok.add S_element_Read_ok

/- (*comptoir/iso.walk).read -/
noncomputable def E_iso_walk_read_p0500 : En := enKB Tryd.prog TYiG437t [] [] [] [] 3 2 true
def P_iso_walk_read_p0500 : List Pat := [.lit (.ptr 0 0), .leaf (.int .i64)]
def Q_iso_walk_read_p0500 : List OPat := [.fix 52 [.leaf (.slice 1 (.int .u8)), .own 1 0 2], .grow 40 0 2 (.agg [(.int .i64), (.slice 1 (.int .u8))])]
def O_iso_walk_read_p0500 : Pat := .leaf (.int .i64)
def OO_iso_walk_read_p0500 : List OPat := [.fix 52 [.leaf (.slice 1 (.int .u8)), .own 2 0 2], .dead, .grow 40 0 2 (.agg [(.int .i64), (.slice 1 (.int .u8))])]
def tup_iso_walk_read_p0500 : List AV → Int × List AV × List AV := fun ls => (getI (ls.getD 0 .junk), getXs (ls.getD 1 .junk), getXs (ls.getD 2 .junk))
def res_iso_walk_read_p0500 : Int × List AV × List AV → AV × List Ob := fun x => (.int .i64 (x.1), [.fix 52 [.slice 1 (.int .u8) (x.2.1) .ro, .oslice 2 0 (List.length (x.2.2))], .dead, .grow 40 0 2 (.agg [(.int .i64), (.slice 1 (.int .u8))]) (x.2.2)])
noncomputable def T_iso_walk_read_p0500 (x0 : Int) (x1 : List AV) (x2 : List AV) : Tr (Int × List AV × List AV) := (opt (Go.Proofs.YtajknlhbfhemlaaDoor.g_element_Read x0 x1) fun (y0 : List Go.Cx.AV × Int × Int) => (.c (Prod.snd (Prod.snd y0) == (0 : Int)) (.c (Decidable.decide ((↑(List.length x1) : Int) ≤ (↑(List.length x1) : Int))) (.c (Decidable.decide ((0 : Int) ≤ Prod.fst (Prod.snd y0))) (.c (Decidable.decide (Prod.fst (Prod.snd y0) ≤ (↑(List.length x1) : Int))) (.c (List.length x2 == List.length x2) (.c (Decidable.decide (List.length (x2 ++ [Go.Cx.AV.agg [Go.Cx.AV.int Go.IntKind.i64 x0, Go.Cx.AV.slice (1 : Nat) (Go.Cx.Sh.int Go.IntKind.u8) (Prod.fst y0) Go.Cx.SK.ro]]) * (33 : Nat) < (70368744177664 : Nat))) (.c (List.length (x2 ++ [Go.Cx.AV.agg [Go.Cx.AV.int Go.IntKind.i64 x0, Go.Cx.AV.slice (1 : Nat) (Go.Cx.Sh.int Go.IntKind.u8) (Prod.fst y0) Go.Cx.SK.ro]]) == List.length (x2 ++ [Go.Cx.AV.agg [Go.Cx.AV.int Go.IntKind.i64 x0, Go.Cx.AV.slice (1 : Nat) (Go.Cx.Sh.int Go.IntKind.u8) (Prod.fst y0) Go.Cx.SK.ro]] : List AV)) (.r ((Prod.snd (Prod.snd y0), List.drop (Int.toNat (Prod.fst (Prod.snd y0))) (List.take (List.length x1) x1), x2 ++ [Go.Cx.AV.agg [Go.Cx.AV.int Go.IntKind.i64 x0, Go.Cx.AV.slice (1 : Nat) (Go.Cx.Sh.int Go.IntKind.u8) (Prod.fst y0) Go.Cx.SK.ro]]))) .bad) .bad) .bad) .bad) .bad) .bad) (.c (List.length x2 == List.length (x2 : List AV)) (.r ((Prod.snd (Prod.snd y0), x1, x2))) .bad)))
noncomputable def g_iso_walk_read_p0500 (x0 : Int) (x1 : List AV) (x2 : List AV) : Option (Int × List AV × List AV) := (T_iso_walk_read_p0500 x0 x1 x2).val
set_option maxRecDepth 100000 in
theorem c_iso_walk_read_p0500 (ls : List AV) (Rv : Int × List AV × List AV → Prop) : callA E_iso_walk_read_p0500 Tryd.f20 (instL ls P_iso_walk_read_p0500 0) (instH ls Q_iso_walk_read_p0500 1) (outH O_iso_walk_read_p0500 OO_iso_walk_read_p0500 fun ls => Rv (tup_iso_walk_read_p0500 ls)) = (T_iso_walk_read_p0500 (getI (ls.getD 0 .junk)) (getXs (ls.getD 1 .junk)) (getXs (ls.getD 2 .junk))).fold False Rv := by kernel_rfl
noncomputable def S_iso_walk_read_p0500 : Go.Cx.Spec := heapS (patH P_iso_walk_read_p0500 Q_iso_walk_read_p0500 fun ls => opt (g_iso_walk_read_p0500 (getI (ls.getD 0 .junk)) (getXs (ls.getD 1 .junk)) (getXs (ls.getD 2 .junk))) fun x => .r (res_iso_walk_read_p0500 x))
set_option maxRecDepth 100000 in
theorem S_iso_walk_read_p0500_ok : Sound Tryd.prog 20 S_iso_walk_read_p0500 :=
  heap_flat (E := E_iso_walk_read_p0500) (TblOK.enKB TYiG437t_ok _ _ _ _ _ _ _) mixed Tryd.func20 (c := Tryd.f20.body.getD .skip) (by kernel_rfl) (by kernel_rfl) (by decide) (by decide) (pats := P_iso_walk_read_p0500) (ops := Q_iso_walk_read_p0500) (OO := OO_iso_walk_read_p0500) (O := O_iso_walk_read_p0500) (tup := tup_iso_walk_read_p0500) (res := res_iso_walk_read_p0500) (g := fun ls => g_iso_walk_read_p0500 (getI (ls.getD 0 .junk)) (getXs (ls.getD 1 .junk)) (getXs (ls.getD 2 .junk))) (T := fun ls => T_iso_walk_read_p0500 (getI (ls.getD 0 .junk)) (getXs (ls.getD 1 .junk)) (getXs (ls.getD 2 .junk))) (fun _ => rfl) (fun ls => by kernel_rfl) c_iso_walk_read_p0500

noncomputable def TYiG438t : FuncId → Option Go.Cx.Spec := addT TYiG437t 20 S_iso_walk_read_p0500
theorem TYiG438t_ok : TblOK Tryd.prog TYiG438t := TYiG437t_ok.add S_iso_walk_read_p0500_ok

/- comptoir/iso.each -/
noncomputable def E_iso_each_0fread_p500 : En := enKB Tryd.prog TYiG438t [] [(2, ⟨[0, 2, 3, 4, 5, 6, 7, 11, 12, 13, 14, 15, 16, 17, 18, 19, 20], [], [], none, [], [], [], [], true⟩)] [] [] 3 2 true
def P_iso_each_0fread_p500 : List Pat := [.leaf (.slice 1 (.int .i64)), .func 20 [.lit (.ptr 0 0)] []]
def Q_iso_each_0fread_p500 : List OPat := [.fix 52 [.leaf (.slice 1 (.int .u8)), .own 1 0 2], .grow 40 0 2 (.agg [(.int .i64), (.slice 1 (.int .u8))])]
def O_iso_each_0fread_p500 : Pat := .leaf (.int .i64)
def OO_iso_each_0fread_p500 : List OPat := [.fix 52 [.leaf (.slice 1 (.int .u8)), .own 2 0 2], .dead, .grow 40 0 2 (.agg [(.int .i64), (.slice 1 (.int .u8))])]
def tup_iso_each_0fread_p500 : List AV → Int × List AV × List AV := fun ls => (getI (ls.getD 0 .junk), getXs (ls.getD 1 .junk), getXs (ls.getD 2 .junk))
def res_iso_each_0fread_p500 : Int × List AV × List AV → AV × List Ob := fun x => (.int .i64 (x.1), [.fix 52 [.slice 1 (.int .u8) (x.2.1) .ro, .oslice 2 0 (List.length (x.2.2))], .dead, .grow 40 0 2 (.agg [(.int .i64), (.slice 1 (.int .u8))]) (x.2.2)])
noncomputable def T_iso_each_0fread_p500 (x0 : List AV) (x1 : List AV) (x2 : List AV) : Tr ((Int × List AV × List AV) ⊕ (Int × List AV × List AV)) := (.r (.inl (((0 : Int), x1, x2))))
noncomputable def M_iso_each_0fread_p500 (x0 : List AV) (x1 : List AV) (x2 : List AV) : Int × List AV × List AV → Tr ((Int × List AV × List AV) ⊕ (Int × List AV × List AV))
  | (i0, l0, l1) => (.c (Decidable.decide (i0 < (↑(List.length x0) : Int))) (.c (Decidable.decide ((0 : Int) ≤ i0)) (.c (Decidable.decide (i0 < (↑(List.length x0) : Int))) (.c (List.length l1 == List.length l1) (opt (Go.Proofs.YtajknlhbfhemlaaDoor.g_iso_walk_read_p0500 (Go.Cx.getI (List.getD x0 (Int.toNat i0) (Go.Cx.AV.int Go.IntKind.i64 (0 : Int)))) l0 l1) fun (y0 : Int × List Go.Cx.AV × List Go.Cx.AV) => (.c (Prod.fst y0 != (0 : Int)) (.c (List.length (Prod.snd (Prod.snd y0)) == List.length (Prod.snd (Prod.snd y0) : List AV)) (.r (.inr ((Prod.fst y0, Prod.fst (Prod.snd y0), Prod.snd (Prod.snd y0))))) .bad) (.r (.inl ((Go.IntKind.wrap Go.IntKind.i64 (i0 + (1 : Int)), Prod.fst (Prod.snd y0), Prod.snd (Prod.snd y0))))))) .bad) .bad) .bad) (.c (List.length l1 == List.length (l1 : List AV)) (.r (.inr (((0 : Int), l0, l1)))) .bad))
noncomputable def g_iso_each_0fread_p500 (x0 : List AV) (x1 : List AV) (x2 : List AV) : Option (Int × List AV × List AV) := run (M_iso_each_0fread_p500 x0 x1 x2) (T_iso_each_0fread_p500 x0 x1 x2)
noncomputable def b_iso_each_0fread_p500 := Tryd.f19.body.getD .skip
noncomputable def st_iso_each_0fread_p500_0 (x0 : List AV) (x1 : List AV) (x2 : List AV) (i0 : Int) (l0 : List AV) (l1 : List AV) : St := ⟨[Go.Cx.AV.junk, Go.Cx.AV.func (20 : Nat) [Go.Cx.AV.ptr (0 : Nat) (0 : Nat)] [], Go.Cx.AV.junk, Go.Cx.AV.junk, Go.Cx.AV.junk, Go.Cx.AV.junk, Go.Cx.AV.junk, Go.Cx.AV.junk, Go.Cx.AV.slice (1 : Nat) (Go.Cx.Sh.int Go.IntKind.i64) x0 Go.Cx.SK.ro, Go.Cx.AV.int Go.IntKind.i64 (↑(List.length x0) : Int), Go.Cx.AV.int Go.IntKind.i64 i0, Go.Cx.AV.junk, Go.Cx.AV.junk, Go.Cx.AV.junk, Go.Cx.AV.junk, Go.Cx.AV.junk, Go.Cx.AV.junk, Go.Cx.AV.junk, Go.Cx.AV.junk, Go.Cx.AV.junk, Go.Cx.AV.junk], [Go.Cx.Ob.fix (52 : Nat) [Go.Cx.AV.slice (1 : Nat) (Go.Cx.Sh.int Go.IntKind.u8) l0 Go.Cx.SK.ro, Go.Cx.AV.oslice (2 : Nat) (0 : Nat) (List.length l1)], Go.Cx.Ob.dead, Go.Cx.Ob.grow (40 : Nat) (0 : Nat) (2 : Nat) (Go.Cx.Sh.agg [Go.Cx.Sh.int Go.IntKind.i64, Go.Cx.Sh.slice (1 : Nat) (Go.Cx.Sh.int Go.IntKind.u8)]) l1]⟩
noncomputable def L_iso_each_0fread_p500 (x0 : List AV) (x1 : List AV) (x2 : List AV) (Rv : Int × List AV × List AV → Prop) : Int × List AV × List AV → Prop
  | (i0, l0, l1) => headL E_iso_each_0fread_p500 [.r, .l, .r, .d] b_iso_each_0fread_p500 1000 (bodyK E_iso_each_0fread_p500 Tryd.f19 (outH O_iso_each_0fread_p500 OO_iso_each_0fread_p500 fun ls => Rv (tup_iso_each_0fread_p500 ls))) (st_iso_each_0fread_p500_0 x0 x1 x2 i0 l0 l1)
set_option maxRecDepth 100000 in
theorem l_iso_each_0fread_p500_0 (x0 : List AV) (x1 : List AV) (x2 : List AV) (Rv : Int × List AV × List AV → Prop) (i0 : Int) (l0 : List AV) (l1 : List AV) : stepL E_iso_each_0fread_p500 [.r, .l, .r, .d] b_iso_each_0fread_p500 1000 (bodyK E_iso_each_0fread_p500 Tryd.f19 (outH O_iso_each_0fread_p500 OO_iso_each_0fread_p500 fun ls => Rv (tup_iso_each_0fread_p500 ls))) (st_iso_each_0fread_p500_0 x0 x1 x2 i0 l0 l1) =
  (M_iso_each_0fread_p500 x0 x1 x2 ((i0, l0, l1))).fold False (Sum.elim (L_iso_each_0fread_p500 x0 x1 x2 Rv) Rv) := by kernel_rfl
set_option maxRecDepth 100000 in
theorem e_iso_each_0fread_p500_0 (x0 : List AV) (x1 : List AV) (x2 : List AV) (Rv : Int × List AV × List AV → Prop) (i0 : Int) (l0 : List AV) (l1 : List AV) : L_iso_each_0fread_p500 x0 x1 x2 Rv ((i0, l0, l1)) = headL E_iso_each_0fread_p500 [.r, .l, .r, .d] b_iso_each_0fread_p500 1000 (bodyK E_iso_each_0fread_p500 Tryd.f19 (outH O_iso_each_0fread_p500 OO_iso_each_0fread_p500 fun ls => Rv (tup_iso_each_0fread_p500 ls))) (st_iso_each_0fread_p500_0 x0 x1 x2 i0 l0 l1) := by kernel_rfl
section
attribute [local irreducible] Tr.fold M_iso_each_0fread_p500 L_iso_each_0fread_p500 T_iso_each_0fread_p500 E_iso_each_0fread_p500 b_iso_each_0fread_p500 bodyK headC headL stepC stepL wpX callA
set_option maxRecDepth 100000 in
theorem h_iso_each_0fread_p500 (x0 : List AV) (x1 : List AV) (x2 : List AV) (Rv : Int × List AV × List AV → Prop) : ∀ s, (M_iso_each_0fread_p500 x0 x1 x2 s).fold False (Sum.elim (L_iso_each_0fread_p500 x0 x1 x2 Rv) Rv) → L_iso_each_0fread_p500 x0 x1 x2 Rv s := by
  rintro (⟨v0, v1, v2⟩)
  · exact fun h => Eq.mpr (e_iso_each_0fread_p500_0 x0 x1 x2 Rv v0 v1 v2) (headL_of (Eq.mpr (l_iso_each_0fread_p500_0 x0 x1 x2 Rv v0 v1 v2) h))
set_option maxRecDepth 100000 in
theorem c_iso_each_0fread_p500 (ls : List AV) (Rv : Int × List AV × List AV → Prop) : callA E_iso_each_0fread_p500 Tryd.f19 (instL ls P_iso_each_0fread_p500 0) (instH ls Q_iso_each_0fread_p500 1) (outH O_iso_each_0fread_p500 OO_iso_each_0fread_p500 fun ls => Rv (tup_iso_each_0fread_p500 ls)) = (T_iso_each_0fread_p500 (getXs (ls.getD 0 .junk)) (getXs (ls.getD 1 .junk)) (getXs (ls.getD 2 .junk))).fold False (Sum.elim (L_iso_each_0fread_p500 (getXs (ls.getD 0 .junk)) (getXs (ls.getD 1 .junk)) (getXs (ls.getD 2 .junk)) Rv) Rv) := by kernel_rfl
end
noncomputable def S_iso_each_0fread_p500 : Go.Cx.Spec := heapS (patH P_iso_each_0fread_p500 Q_iso_each_0fread_p500 fun ls => opt (g_iso_each_0fread_p500 (getXs (ls.getD 0 .junk)) (getXs (ls.getD 1 .junk)) (getXs (ls.getD 2 .junk))) fun x => .r (res_iso_each_0fread_p500 x))
set_option maxRecDepth 100000 in
theorem S_iso_each_0fread_p500_ok : Sound Tryd.prog 19 S_iso_each_0fread_p500 :=
  heap_mach (E := E_iso_each_0fread_p500) (TblOK.enKB TYiG438t_ok _ _ _ _ _ _ _) mixed Tryd.func19 (c := Tryd.f19.body.getD .skip) (by kernel_rfl) (by kernel_rfl) (by decide) (by decide) (pats := P_iso_each_0fread_p500) (ops := Q_iso_each_0fread_p500) (OO := OO_iso_each_0fread_p500) (O := O_iso_each_0fread_p500) (tup := tup_iso_each_0fread_p500) (res := res_iso_each_0fread_p500) (g := fun ls => g_iso_each_0fread_p500 (getXs (ls.getD 0 .junk)) (getXs (ls.getD 1 .junk)) (getXs (ls.getD 2 .junk))) (T := fun ls => T_iso_each_0fread_p500 (getXs (ls.getD 0 .junk)) (getXs (ls.getD 1 .junk)) (getXs (ls.getD 2 .junk))) (step := fun ls => M_iso_each_0fread_p500 (getXs (ls.getD 0 .junk)) (getXs (ls.getD 1 .junk)) (getXs (ls.getD 2 .junk))) (L := fun ls => L_iso_each_0fread_p500 (getXs (ls.getD 0 .junk)) (getXs (ls.getD 1 .junk)) (getXs (ls.getD 2 .junk))) (fun _ => rfl) (fun ls => by kernel_rfl) c_iso_each_0fread_p500 (fun ls Rv => h_iso_each_0fread_p500 (getXs (ls.getD 0 .junk)) (getXs (ls.getD 1 .junk)) (getXs (ls.getD 2 .junk)) Rv)

noncomputable def TYiG439t : FuncId → Option Go.Cx.Spec := addT TYiG438t 19 S_iso_each_0fread_p500
theorem TYiG439t_ok : TblOK Tryd.prog TYiG439t := TYiG438t_ok.add S_iso_each_0fread_p500_ok

/- comptoir/iso.Parse -/
noncomputable def E_iso_Parse : En := enK Tryd.prog TYiG439t [] [] [] [(47, [(1, 40, (.agg [(.int .i64), (.slice 1 (.int .u8))]))])] 0
def P_iso_Parse : List Pat := [.leaf (.slice 1 (.int .u8))]
def O_iso_Parse : Pat := .tuple [.agg [.leaf .str, .leaf (.slice 2 (.agg [(.int .i64), (.slice 1 (.int .u8))]))], .leaf (.int .i64)]
def tup_iso_Parse : List AV → List UInt8 × List AV × Int := fun ls => (getS (ls.getD 0 .junk), getXs (ls.getD 1 .junk), getI (ls.getD 2 .junk))
def res_iso_Parse : List UInt8 × List AV × Int → AV := fun x => .tuple [.agg [.str (x.1), .slice 2 (.agg [(.int .i64), (.slice 1 (.int .u8))]) (x.2.1) .ro], .int .i64 (x.2.2)]
noncomputable def T_iso_Parse (x0 : List AV) : Tr (List UInt8 × List AV × Int) := (.c (Decidable.decide ((↑(List.length x0) : Int) > (4096 : Int))) (.r (([], [], (4 : Int)))) (opt (Go.Proofs.YtajknlhbfhemlaaDoor.g_cursor_New x0) fun (y0 : List Go.Cx.AV × Int) => (opt (Go.Proofs.YtajknlhbfhemlaaDoor.g_cursor_Cursor_Text_p0500 (4 : Int) (Prod.fst y0) (Prod.snd y0)) fun (y1 : List UInt8 × Int × List Go.Cx.AV × Int) => (.c (Prod.fst (Prod.snd y1) != (0 : Int)) (.r (([], [], Prod.fst (Prod.snd y1)))) (opt (Go.Proofs.YtajknlhbfhemlaaDoor.g_digits_Right (Prod.fst y1) (4 : Int) (4 : Int)) fun (y2 : Bool) => (.c (!y2) (.r (([], [], (5 : Int)))) (.c (Decidable.decide ((↑(List.length x0) : Int) ≤ (↑(List.length x0) : Int))) (.c (Decidable.decide ((4 : Int) ≤ (↑(List.length x0) : Int))) (opt (Go.Proofs.YtajknlhbfhemlaaDoor.g_bitmap_Parse (List.drop (4 : Nat) (List.take (List.length x0) x0))) fun (y3 : List Go.Cx.AV × Int × Int) => (.c (Prod.snd (Prod.snd y3) != (0 : Int)) (.r (([], [], Prod.snd (Prod.snd y3)))) (.c (Decidable.decide ((↑(List.length x0) : Int) ≤ (↑(List.length x0) : Int))) (.c (Decidable.decide ((0 : Int) ≤ Go.IntKind.wrap Go.IntKind.i64 ((4 : Int) + Prod.fst (Prod.snd y3)))) (.c (Decidable.decide (Go.IntKind.wrap Go.IntKind.i64 ((4 : Int) + Prod.fst (Prod.snd y3)) ≤ (↑(List.length x0) : Int))) (opt (Go.Proofs.YtajknlhbfhemlaaDoor.g_iso_each_0fread_p500 (Prod.fst y3) (List.drop (Int.toNat (Go.IntKind.wrap Go.IntKind.i64 ((4 : Int) + Prod.fst (Prod.snd y3)))) (List.take (List.length x0) x0)) []) fun (y4 : Int × List Go.Cx.AV × List Go.Cx.AV) => (.c (Prod.fst y4 != (0 : Int)) (.r (([], [], Prod.fst y4))) (.c (Decidable.decide ((↑(List.length (Prod.fst (Prod.snd y4))) : Int) > (0 : Int))) (.r (([], [], (17 : Int)))) (.c (List.length (Prod.snd (Prod.snd y4)) == List.length (Prod.snd (Prod.snd y4))) (.r ((Prod.fst y1, Prod.snd (Prod.snd y4), (0 : Int)))) .bad)))) .bad) .bad) .bad))) .bad) .bad)))))))
noncomputable def g_iso_Parse (x0 : List AV) : Option (List UInt8 × List AV × Int) := (T_iso_Parse x0).val
set_option maxRecDepth 100000 in
theorem c_iso_Parse (ls : List AV) (Rv : List UInt8 × List AV × Int → Prop) : callA E_iso_Parse Tryd.f8 (instL ls P_iso_Parse 0) [] (outP O_iso_Parse fun ls => Rv (tup_iso_Parse ls)) = (T_iso_Parse (getXs (ls.getD 0 .junk))).fold False Rv := by kernel_rfl
noncomputable def S_iso_Parse : Go.Cx.Spec := pureS (patF P_iso_Parse fun ls => opt (g_iso_Parse (getXs (ls.getD 0 .junk))) fun x => .r (res_iso_Parse x))
set_option maxRecDepth 100000 in
theorem S_iso_Parse_ok : Sound Tryd.prog 8 S_iso_Parse :=
  pure_flat (E := E_iso_Parse) (TblOK.enK TYiG439t_ok _ _ _ _ _) mixed rfl Tryd.func8 (c := Tryd.f8.body.getD .skip) (by kernel_rfl) (by kernel_rfl) (pats := P_iso_Parse) (O := O_iso_Parse) (tup := tup_iso_Parse) (res := res_iso_Parse) (g := fun ls => g_iso_Parse (getXs (ls.getD 0 .junk))) (T := fun ls => T_iso_Parse (getXs (ls.getD 0 .junk))) (fun _ => rfl) (fun ls => by kernel_rfl) c_iso_Parse

noncomputable def TYiG440t : FuncId → Option Go.Cx.Spec := addT TYiG439t 8 S_iso_Parse
theorem TYiG440t_ok : TblOK Tryd.prog TYiG440t := TYiG439t_ok.add S_iso_Parse_ok

/- comptoir/comptoirlaw17.awake -/
noncomputable def E_comptoirlaw17_awake : En := enK Tryd.prog TYiG440t [6] [] [] [] 0
def P_comptoirlaw17_awake : List Pat := []
def O_comptoirlaw17_awake : Pat := .leaf .bool
def tup_comptoirlaw17_awake : List AV → Bool := fun ls => getB (ls.getD 0 .junk)
def res_comptoirlaw17_awake : Bool → AV := fun x => .bool (x)
noncomputable def T_comptoirlaw17_awake : Tr (Bool) := (opt (Go.Proofs.YtajknlhbfhemlaaDoor.g_iso_Pack [(50 : UInt8), (49 : UInt8), (48 : UInt8), (48 : UInt8)] [Go.Cx.AV.agg [Go.Cx.AV.int Go.IntKind.i64 (2 : Int), Go.Cx.AV.slice (1 : Nat) (Go.Cx.Sh.int Go.IntKind.u8) [Go.Cx.AV.int Go.IntKind.u8 (49 : Int), Go.Cx.AV.int Go.IntKind.u8 (50 : Int)] Go.Cx.SK.ro]]) fun (y0 : List Go.Cx.AV × Int) => (opt (Go.Proofs.YtajknlhbfhemlaaDoor.g_iso_Parse (Prod.fst y0)) fun (y1 : List UInt8 × List Go.Cx.AV × Int) => (.c (Prod.snd y0 == (0 : Int)) (.c (Prod.snd (Prod.snd y1) == (0 : Int)) (.c (Prod.fst y1 == [(50 : UInt8), (49 : UInt8), (48 : UInt8), (48 : UInt8)]) (.r ((↑(List.length (Prod.fst (Prod.snd y1))) : Int) == (1 : Int))) (.r (Bool.false))) (.r (Bool.false))) (.r (Bool.false)))))
noncomputable def g_comptoirlaw17_awake : Option (Bool) := (T_comptoirlaw17_awake).val
set_option maxRecDepth 100000 in
theorem c_comptoirlaw17_awake (ls : List AV) (Rv : Bool → Prop) : callA E_comptoirlaw17_awake Tryd.f6 (instL ls P_comptoirlaw17_awake 0) [] (outP O_comptoirlaw17_awake fun ls => Rv (tup_comptoirlaw17_awake ls)) = (T_comptoirlaw17_awake).fold False Rv := by kernel_rfl
noncomputable def S_comptoirlaw17_awake : Go.Cx.Spec := pureS (patF P_comptoirlaw17_awake fun ls => opt (g_comptoirlaw17_awake) fun x => .r (res_comptoirlaw17_awake x))
set_option maxRecDepth 100000 in
theorem S_comptoirlaw17_awake_ok : Sound Tryd.prog 6 S_comptoirlaw17_awake :=
  pure_flat (E := E_comptoirlaw17_awake) (TblOK.enK TYiG440t_ok _ _ _ _ _) mixed rfl Tryd.func6 (c := Tryd.f6.body.getD .skip) (by kernel_rfl) (by kernel_rfl) (pats := P_comptoirlaw17_awake) (O := O_comptoirlaw17_awake) (tup := tup_comptoirlaw17_awake) (res := res_comptoirlaw17_awake) (g := fun ls => g_comptoirlaw17_awake) (T := fun ls => T_comptoirlaw17_awake) (fun _ => rfl) (fun ls => by kernel_rfl) c_comptoirlaw17_awake

noncomputable def TYiG441t : FuncId → Option Go.Cx.Spec := addT TYiG440t 6 S_comptoirlaw17_awake
theorem TYiG441t_ok : TblOK Tryd.prog TYiG441t := TYiG440t_ok.add S_comptoirlaw17_awake_ok

/- comptoir/comptoirhelp.Bytes -/
noncomputable def E_comptoirhelp_Bytes : En := enK Tryd.prog TYiG441t [] [] [] [] 0
def P_comptoirhelp_Bytes : List Pat := [.leaf (.slice 1 (.int .u8)), .leaf (.slice 1 (.int .u8))]
def O_comptoirhelp_Bytes : Pat := .leaf .bool
def tup_comptoirhelp_Bytes : List AV → Bool := fun ls => getB (ls.getD 0 .junk)
def res_comptoirhelp_Bytes : Bool → AV := fun x => .bool (x)
noncomputable def T_comptoirhelp_Bytes (x0 : List AV) (x1 : List AV) : Tr (Bool) := (.r (Go.Cx.bytesOf x0 == Go.Cx.bytesOf x1))
noncomputable def g_comptoirhelp_Bytes (x0 : List AV) (x1 : List AV) : Option (Bool) := (T_comptoirhelp_Bytes x0 x1).val
set_option maxRecDepth 100000 in
theorem c_comptoirhelp_Bytes (ls : List AV) (Rv : Bool → Prop) : callA E_comptoirhelp_Bytes Tryd.f13 (instL ls P_comptoirhelp_Bytes 0) [] (outP O_comptoirhelp_Bytes fun ls => Rv (tup_comptoirhelp_Bytes ls)) = (T_comptoirhelp_Bytes (getXs (ls.getD 0 .junk)) (getXs (ls.getD 1 .junk))).fold False Rv := by kernel_rfl
noncomputable def S_comptoirhelp_Bytes : Go.Cx.Spec := pureS (patF P_comptoirhelp_Bytes fun ls => opt (g_comptoirhelp_Bytes (getXs (ls.getD 0 .junk)) (getXs (ls.getD 1 .junk))) fun x => .r (res_comptoirhelp_Bytes x))
set_option maxRecDepth 100000 in
theorem S_comptoirhelp_Bytes_ok : Sound Tryd.prog 13 S_comptoirhelp_Bytes :=
  pure_flat (E := E_comptoirhelp_Bytes) (TblOK.enK TYiG441t_ok _ _ _ _ _) mixed rfl Tryd.func13 (c := Tryd.f13.body.getD .skip) (by kernel_rfl) (by kernel_rfl) (pats := P_comptoirhelp_Bytes) (O := O_comptoirhelp_Bytes) (tup := tup_comptoirhelp_Bytes) (res := res_comptoirhelp_Bytes) (g := fun ls => g_comptoirhelp_Bytes (getXs (ls.getD 0 .junk)) (getXs (ls.getD 1 .junk))) (T := fun ls => T_comptoirhelp_Bytes (getXs (ls.getD 0 .junk)) (getXs (ls.getD 1 .junk))) (fun _ => rfl) (fun ls => by kernel_rfl) c_comptoirhelp_Bytes

noncomputable def TYiG442t : FuncId → Option Go.Cx.Spec := addT TYiG441t 13 S_comptoirhelp_Bytes
theorem TYiG442t_ok : TblOK Tryd.prog TYiG442t := TYiG441t_ok.add S_comptoirhelp_Bytes_ok

/- comptoir/comptoirhelp.Element -/
noncomputable def E_comptoirhelp_Element : En := enK Tryd.prog TYiG442t [] [] [] [] 0
def P_comptoirhelp_Element : List Pat := [.agg [.leaf (.int .i64), .leaf (.slice 1 (.int .u8))], .agg [.leaf (.int .i64), .leaf (.slice 1 (.int .u8))]]
def O_comptoirhelp_Element : Pat := .leaf .bool
def tup_comptoirhelp_Element : List AV → Bool := fun ls => getB (ls.getD 0 .junk)
def res_comptoirhelp_Element : Bool → AV := fun x => .bool (x)
noncomputable def T_comptoirhelp_Element (x0 : Int) (x1 : List AV) (x2 : Int) (x3 : List AV) : Tr (Bool) := (.c (x0 == x2) (.r (Go.Cx.bytesOf x1 == Go.Cx.bytesOf x3)) (.r (Bool.false)))
noncomputable def g_comptoirhelp_Element (x0 : Int) (x1 : List AV) (x2 : Int) (x3 : List AV) : Option (Bool) := (T_comptoirhelp_Element x0 x1 x2 x3).val
set_option maxRecDepth 100000 in
theorem c_comptoirhelp_Element (ls : List AV) (Rv : Bool → Prop) : callA E_comptoirhelp_Element Tryd.f30 (instL ls P_comptoirhelp_Element 0) [] (outP O_comptoirhelp_Element fun ls => Rv (tup_comptoirhelp_Element ls)) = (T_comptoirhelp_Element (getI (ls.getD 0 .junk)) (getXs (ls.getD 1 .junk)) (getI (ls.getD 2 .junk)) (getXs (ls.getD 3 .junk))).fold False Rv := by kernel_rfl
noncomputable def S_comptoirhelp_Element : Go.Cx.Spec := pureS (patF P_comptoirhelp_Element fun ls => opt (g_comptoirhelp_Element (getI (ls.getD 0 .junk)) (getXs (ls.getD 1 .junk)) (getI (ls.getD 2 .junk)) (getXs (ls.getD 3 .junk))) fun x => .r (res_comptoirhelp_Element x))
set_option maxRecDepth 100000 in
theorem S_comptoirhelp_Element_ok : Sound Tryd.prog 30 S_comptoirhelp_Element :=
  pure_flat (E := E_comptoirhelp_Element) (TblOK.enK TYiG442t_ok _ _ _ _ _) mixed rfl Tryd.func30 (c := Tryd.f30.body.getD .skip) (by kernel_rfl) (by kernel_rfl) (pats := P_comptoirhelp_Element) (O := O_comptoirhelp_Element) (tup := tup_comptoirhelp_Element) (res := res_comptoirhelp_Element) (g := fun ls => g_comptoirhelp_Element (getI (ls.getD 0 .junk)) (getXs (ls.getD 1 .junk)) (getI (ls.getD 2 .junk)) (getXs (ls.getD 3 .junk))) (T := fun ls => T_comptoirhelp_Element (getI (ls.getD 0 .junk)) (getXs (ls.getD 1 .junk)) (getI (ls.getD 2 .junk)) (getXs (ls.getD 3 .junk))) (fun _ => rfl) (fun ls => by kernel_rfl) c_comptoirhelp_Element

noncomputable def TYiG443t : FuncId → Option Go.Cx.Spec := addT TYiG442t 30 S_comptoirhelp_Element
theorem TYiG443t_ok : TblOK Tryd.prog TYiG443t := TYiG442t_ok.add S_comptoirhelp_Element_ok

/- comptoir/comptoirhelp.Same[comptoir/api.Element] -/
noncomputable def E_comptoirhelp_Same_api_Element_00fElement_ : En := enK Tryd.prog TYiG443t [] [(4, ⟨[3, 4, 5, 6, 8, 9, 10, 11, 12, 13, 14, 15, 16, 17, 18, 19, 20, 21, 22, 23, 24, 25, 26, 27, 28, 29], [], [], none, [], [], [], [], true⟩)] [] [] 0
def P_comptoirhelp_Same_api_Element_00fElement_ : List Pat := [.leaf (.slice 2 (.agg [(.int .i64), (.slice 1 (.int .u8))])), .leaf (.slice 2 (.agg [(.int .i64), (.slice 1 (.int .u8))])), .func 30 [] []]
def O_comptoirhelp_Same_api_Element_00fElement_ : Pat := .leaf .bool
def tup_comptoirhelp_Same_api_Element_00fElement_ : List AV → Bool := fun ls => getB (ls.getD 0 .junk)
def res_comptoirhelp_Same_api_Element_00fElement_ : Bool → AV := fun x => .bool (x)
noncomputable def T_comptoirhelp_Same_api_Element_00fElement_ (x0 : List AV) (x1 : List AV) : Tr ((Int) ⊕ (Bool)) := (.c ((↑(List.length x0) : Int) != (↑(List.length x1) : Int)) (.r (.inr (Bool.false))) (.r (.inl ((0 : Int)))))
noncomputable def M_comptoirhelp_Same_api_Element_00fElement_ (x0 : List AV) (x1 : List AV) : Int → Tr ((Int) ⊕ (Bool))
  | i0 => (.c (Decidable.decide (i0 < (↑(List.length x0) : Int))) (.c (Decidable.decide ((0 : Int) ≤ i0)) (.c (Decidable.decide (i0 < (↑(List.length x0) : Int))) (.c (Decidable.decide ((0 : Int) ≤ i0)) (.c (Decidable.decide (i0 < (↑(List.length x1) : Int))) (opt (Go.Proofs.YtajknlhbfhemlaaDoor.g_comptoirhelp_Element (Go.Cx.getI (Go.Cx.getF (List.getD x0 (Int.toNat i0) (Go.Cx.AV.agg [Go.Cx.AV.int Go.IntKind.i64 (0 : Int), Go.Cx.AV.slice (1 : Nat) (Go.Cx.Sh.int Go.IntKind.u8) [] Go.Cx.SK.ro])) (0 : Nat))) (Go.Cx.getXs (Go.Cx.getF (List.getD x0 (Int.toNat i0) (Go.Cx.AV.agg [Go.Cx.AV.int Go.IntKind.i64 (0 : Int), Go.Cx.AV.slice (1 : Nat) (Go.Cx.Sh.int Go.IntKind.u8) [] Go.Cx.SK.ro])) (1 : Nat))) (Go.Cx.getI (Go.Cx.getF (List.getD x1 (Int.toNat i0) (Go.Cx.AV.agg [Go.Cx.AV.int Go.IntKind.i64 (0 : Int), Go.Cx.AV.slice (1 : Nat) (Go.Cx.Sh.int Go.IntKind.u8) [] Go.Cx.SK.ro])) (0 : Nat))) (Go.Cx.getXs (Go.Cx.getF (List.getD x1 (Int.toNat i0) (Go.Cx.AV.agg [Go.Cx.AV.int Go.IntKind.i64 (0 : Int), Go.Cx.AV.slice (1 : Nat) (Go.Cx.Sh.int Go.IntKind.u8) [] Go.Cx.SK.ro])) (1 : Nat)))) fun (y0 : Bool) => (.c (!y0) (.r (.inr (Bool.false))) (.r (.inl (Go.IntKind.wrap Go.IntKind.i64 (i0 + (1 : Int))))))) .bad) .bad) .bad) .bad) (.r (.inr (Bool.true))))
noncomputable def g_comptoirhelp_Same_api_Element_00fElement_ (x0 : List AV) (x1 : List AV) : Option (Bool) := run (M_comptoirhelp_Same_api_Element_00fElement_ x0 x1) (T_comptoirhelp_Same_api_Element_00fElement_ x0 x1)
noncomputable def b_comptoirhelp_Same_api_Element_00fElement_ := Tryd.f29.body.getD .skip
noncomputable def st_comptoirhelp_Same_api_Element_00fElement__0 (x0 : List AV) (x1 : List AV) (i0 : Int) : St := ⟨[Go.Cx.AV.slice (2 : Nat) (Go.Cx.Sh.agg [Go.Cx.Sh.int Go.IntKind.i64, Go.Cx.Sh.slice (1 : Nat) (Go.Cx.Sh.int Go.IntKind.u8)]) x0 Go.Cx.SK.ro, Go.Cx.AV.slice (2 : Nat) (Go.Cx.Sh.agg [Go.Cx.Sh.int Go.IntKind.i64, Go.Cx.Sh.slice (1 : Nat) (Go.Cx.Sh.int Go.IntKind.u8)]) x1 Go.Cx.SK.ro, Go.Cx.AV.func (30 : Nat) [] [], Go.Cx.AV.junk, Go.Cx.AV.junk, Go.Cx.AV.junk, Go.Cx.AV.junk, Go.Cx.AV.int Go.IntKind.i64 i0, Go.Cx.AV.junk, Go.Cx.AV.junk, Go.Cx.AV.junk, Go.Cx.AV.junk, Go.Cx.AV.junk, Go.Cx.AV.junk, Go.Cx.AV.junk, Go.Cx.AV.junk, Go.Cx.AV.junk, Go.Cx.AV.junk, Go.Cx.AV.junk, Go.Cx.AV.junk, Go.Cx.AV.junk, Go.Cx.AV.junk, Go.Cx.AV.junk, Go.Cx.AV.junk, Go.Cx.AV.junk, Go.Cx.AV.junk, Go.Cx.AV.junk, Go.Cx.AV.junk, Go.Cx.AV.junk, Go.Cx.AV.junk], []⟩
noncomputable def L_comptoirhelp_Same_api_Element_00fElement_ (x0 : List AV) (x1 : List AV) (Rv : Bool → Prop) : Int → Prop
  | i0 => headL E_comptoirhelp_Same_api_Element_00fElement_ [.r, .r, .l, .r, .d] b_comptoirhelp_Same_api_Element_00fElement_ 1000 (bodyK E_comptoirhelp_Same_api_Element_00fElement_ Tryd.f29 (outP O_comptoirhelp_Same_api_Element_00fElement_ fun ls => Rv (tup_comptoirhelp_Same_api_Element_00fElement_ ls))) (st_comptoirhelp_Same_api_Element_00fElement__0 x0 x1 i0)
set_option maxRecDepth 100000 in
theorem l_comptoirhelp_Same_api_Element_00fElement__0 (x0 : List AV) (x1 : List AV) (Rv : Bool → Prop) (i0 : Int) : stepL E_comptoirhelp_Same_api_Element_00fElement_ [.r, .r, .l, .r, .d] b_comptoirhelp_Same_api_Element_00fElement_ 1000 (bodyK E_comptoirhelp_Same_api_Element_00fElement_ Tryd.f29 (outP O_comptoirhelp_Same_api_Element_00fElement_ fun ls => Rv (tup_comptoirhelp_Same_api_Element_00fElement_ ls))) (st_comptoirhelp_Same_api_Element_00fElement__0 x0 x1 i0) =
  (M_comptoirhelp_Same_api_Element_00fElement_ x0 x1 (i0)).fold False (Sum.elim (L_comptoirhelp_Same_api_Element_00fElement_ x0 x1 Rv) Rv) := by kernel_rfl
set_option maxRecDepth 100000 in
theorem e_comptoirhelp_Same_api_Element_00fElement__0 (x0 : List AV) (x1 : List AV) (Rv : Bool → Prop) (i0 : Int) : L_comptoirhelp_Same_api_Element_00fElement_ x0 x1 Rv (i0) = headL E_comptoirhelp_Same_api_Element_00fElement_ [.r, .r, .l, .r, .d] b_comptoirhelp_Same_api_Element_00fElement_ 1000 (bodyK E_comptoirhelp_Same_api_Element_00fElement_ Tryd.f29 (outP O_comptoirhelp_Same_api_Element_00fElement_ fun ls => Rv (tup_comptoirhelp_Same_api_Element_00fElement_ ls))) (st_comptoirhelp_Same_api_Element_00fElement__0 x0 x1 i0) := by kernel_rfl
section
attribute [local irreducible] Tr.fold M_comptoirhelp_Same_api_Element_00fElement_ L_comptoirhelp_Same_api_Element_00fElement_ T_comptoirhelp_Same_api_Element_00fElement_ E_comptoirhelp_Same_api_Element_00fElement_ b_comptoirhelp_Same_api_Element_00fElement_ bodyK headC headL stepC stepL wpX callA
set_option maxRecDepth 100000 in
theorem h_comptoirhelp_Same_api_Element_00fElement_ (x0 : List AV) (x1 : List AV) (Rv : Bool → Prop) : ∀ s, (M_comptoirhelp_Same_api_Element_00fElement_ x0 x1 s).fold False (Sum.elim (L_comptoirhelp_Same_api_Element_00fElement_ x0 x1 Rv) Rv) → L_comptoirhelp_Same_api_Element_00fElement_ x0 x1 Rv s := by
  rintro (v0)
  · exact fun h => Eq.mpr (e_comptoirhelp_Same_api_Element_00fElement__0 x0 x1 Rv v0) (headL_of (Eq.mpr (l_comptoirhelp_Same_api_Element_00fElement__0 x0 x1 Rv v0) h))
set_option maxRecDepth 100000 in
theorem c_comptoirhelp_Same_api_Element_00fElement_ (ls : List AV) (Rv : Bool → Prop) : callA E_comptoirhelp_Same_api_Element_00fElement_ Tryd.f29 (instL ls P_comptoirhelp_Same_api_Element_00fElement_ 0) [] (outP O_comptoirhelp_Same_api_Element_00fElement_ fun ls => Rv (tup_comptoirhelp_Same_api_Element_00fElement_ ls)) = (T_comptoirhelp_Same_api_Element_00fElement_ (getXs (ls.getD 0 .junk)) (getXs (ls.getD 1 .junk))).fold False (Sum.elim (L_comptoirhelp_Same_api_Element_00fElement_ (getXs (ls.getD 0 .junk)) (getXs (ls.getD 1 .junk)) Rv) Rv) := by kernel_rfl
end
noncomputable def S_comptoirhelp_Same_api_Element_00fElement_ : Go.Cx.Spec := pureS (patF P_comptoirhelp_Same_api_Element_00fElement_ fun ls => opt (g_comptoirhelp_Same_api_Element_00fElement_ (getXs (ls.getD 0 .junk)) (getXs (ls.getD 1 .junk))) fun x => .r (res_comptoirhelp_Same_api_Element_00fElement_ x))
set_option maxRecDepth 100000 in
theorem S_comptoirhelp_Same_api_Element_00fElement__ok : Sound Tryd.prog 29 S_comptoirhelp_Same_api_Element_00fElement_ :=
  pure_mach (E := E_comptoirhelp_Same_api_Element_00fElement_) (TblOK.enK TYiG443t_ok _ _ _ _ _) mixed rfl Tryd.func29 (c := Tryd.f29.body.getD .skip) (by kernel_rfl) (by kernel_rfl) (pats := P_comptoirhelp_Same_api_Element_00fElement_) (O := O_comptoirhelp_Same_api_Element_00fElement_) (tup := tup_comptoirhelp_Same_api_Element_00fElement_) (res := res_comptoirhelp_Same_api_Element_00fElement_) (g := fun ls => g_comptoirhelp_Same_api_Element_00fElement_ (getXs (ls.getD 0 .junk)) (getXs (ls.getD 1 .junk))) (T := fun ls => T_comptoirhelp_Same_api_Element_00fElement_ (getXs (ls.getD 0 .junk)) (getXs (ls.getD 1 .junk))) (step := fun ls => M_comptoirhelp_Same_api_Element_00fElement_ (getXs (ls.getD 0 .junk)) (getXs (ls.getD 1 .junk))) (L := fun ls => L_comptoirhelp_Same_api_Element_00fElement_ (getXs (ls.getD 0 .junk)) (getXs (ls.getD 1 .junk))) (fun _ => rfl) (fun ls => by kernel_rfl) c_comptoirhelp_Same_api_Element_00fElement_ (fun ls Rv => h_comptoirhelp_Same_api_Element_00fElement_ (getXs (ls.getD 0 .junk)) (getXs (ls.getD 1 .junk)) Rv)

noncomputable def TYiG444t : FuncId → Option Go.Cx.Spec := addT TYiG443t 29 S_comptoirhelp_Same_api_Element_00fElement_
theorem TYiG444t_ok : TblOK Tryd.prog TYiG444t := TYiG443t_ok.add S_comptoirhelp_Same_api_Element_00fElement__ok

/- comptoir/comptoirhelp.Iso -/
noncomputable def E_comptoirhelp_Iso : En := enK Tryd.prog TYiG444t [] [] [] [] 0
def P_comptoirhelp_Iso : List Pat := [.agg [.leaf .str, .leaf (.slice 2 (.agg [(.int .i64), (.slice 1 (.int .u8))]))], .agg [.leaf .str, .leaf (.slice 2 (.agg [(.int .i64), (.slice 1 (.int .u8))]))]]
def O_comptoirhelp_Iso : Pat := .leaf .bool
def tup_comptoirhelp_Iso : List AV → Bool := fun ls => getB (ls.getD 0 .junk)
def res_comptoirhelp_Iso : Bool → AV := fun x => .bool (x)
noncomputable def T_comptoirhelp_Iso (x0 : List UInt8) (x1 : List AV) (x2 : List UInt8) (x3 : List AV) : Tr (Bool) := (.c (x0 == x2) (opt (Go.Proofs.YtajknlhbfhemlaaDoor.g_comptoirhelp_Same_api_Element_00fElement_ x1 x3) fun (y0 : Bool) => (.r (y0))) (.r (Bool.false)))
noncomputable def g_comptoirhelp_Iso (x0 : List UInt8) (x1 : List AV) (x2 : List UInt8) (x3 : List AV) : Option (Bool) := (T_comptoirhelp_Iso x0 x1 x2 x3).val
set_option maxRecDepth 100000 in
theorem c_comptoirhelp_Iso (ls : List AV) (Rv : Bool → Prop) : callA E_comptoirhelp_Iso Tryd.f12 (instL ls P_comptoirhelp_Iso 0) [] (outP O_comptoirhelp_Iso fun ls => Rv (tup_comptoirhelp_Iso ls)) = (T_comptoirhelp_Iso (getS (ls.getD 0 .junk)) (getXs (ls.getD 1 .junk)) (getS (ls.getD 2 .junk)) (getXs (ls.getD 3 .junk))).fold False Rv := by kernel_rfl
noncomputable def S_comptoirhelp_Iso : Go.Cx.Spec := pureS (patF P_comptoirhelp_Iso fun ls => opt (g_comptoirhelp_Iso (getS (ls.getD 0 .junk)) (getXs (ls.getD 1 .junk)) (getS (ls.getD 2 .junk)) (getXs (ls.getD 3 .junk))) fun x => .r (res_comptoirhelp_Iso x))
set_option maxRecDepth 100000 in
theorem S_comptoirhelp_Iso_ok : Sound Tryd.prog 12 S_comptoirhelp_Iso :=
  pure_flat (E := E_comptoirhelp_Iso) (TblOK.enK TYiG444t_ok _ _ _ _ _) mixed rfl Tryd.func12 (c := Tryd.f12.body.getD .skip) (by kernel_rfl) (by kernel_rfl) (pats := P_comptoirhelp_Iso) (O := O_comptoirhelp_Iso) (tup := tup_comptoirhelp_Iso) (res := res_comptoirhelp_Iso) (g := fun ls => g_comptoirhelp_Iso (getS (ls.getD 0 .junk)) (getXs (ls.getD 1 .junk)) (getS (ls.getD 2 .junk)) (getXs (ls.getD 3 .junk))) (T := fun ls => T_comptoirhelp_Iso (getS (ls.getD 0 .junk)) (getXs (ls.getD 1 .junk)) (getS (ls.getD 2 .junk)) (getXs (ls.getD 3 .junk))) (fun _ => rfl) (fun ls => by kernel_rfl) c_comptoirhelp_Iso

noncomputable def TYiG445t : FuncId → Option Go.Cx.Spec := addT TYiG444t 12 S_comptoirhelp_Iso
theorem TYiG445t_ok : TblOK Tryd.prog TYiG445t := TYiG444t_ok.add S_comptoirhelp_Iso_ok

/- comptoir/comptoirlaw17.IsoBack -/
noncomputable def E_comptoirlaw17_IsoBack : En := enK Tryd.prog (addT TYiG445t 8 (frzAr S_iso_Parse)) [] [] [] [] 0
def P_comptoirlaw17_IsoBack : List Pat := [.agg [.leaf .str, .leaf (.slice 2 (.agg [(.int .i64), (.slice 1 (.int .u8))]))], .leaf (.slice 1 (.int .u8)), .leaf (.slice 1 (.int .u8)), .leaf (.int .i64)]
def O_comptoirlaw17_IsoBack : Pat := .leaf .bool
def tup_comptoirlaw17_IsoBack : List AV → Bool := fun ls => getB (ls.getD 0 .junk)
def res_comptoirlaw17_IsoBack : Bool → AV := fun x => .bool (x)
noncomputable def T_comptoirlaw17_IsoBack (x0 : List UInt8) (x1 : List AV) (x2 : List AV) (x3 : List AV) (x4 : Int) : Tr (Bool) := (.c (Decidable.decide ((↑(List.length x2) : Int) > (4096 : Int))) (opt (Go.Proofs.YtajknlhbfhemlaaDoor.g_comptoirlaw17_awake) fun (y0 : Bool) => (.r (y0))) (.c (Decidable.decide ((↑(List.length x1) : Int) > (60 : Int))) (opt (Go.Proofs.YtajknlhbfhemlaaDoor.g_comptoirlaw17_awake) fun (y0 : Bool) => (.r (y0))) (.c (Decidable.decide ((↑(List.length x3) : Int) > (50 : Int))) (opt (Go.Proofs.YtajknlhbfhemlaaDoor.g_comptoirlaw17_awake) fun (y0 : Bool) => (.r (y0))) (opt (Go.Proofs.YtajknlhbfhemlaaDoor.g_iso_Pack x0 x1) fun (y0 : List Go.Cx.AV × Int) => (opt (Go.Proofs.YtajknlhbfhemlaaDoor.g_comptoirlaw17_awake) fun (y1 : Bool) => (.c (!y1) (.r (Bool.false)) (.c (Prod.snd y0 == (0 : Int)) (.c ((↑(List.length (Prod.fst y0)) : Int) == (0 : Int)) (.r (Bool.false)) (.c (Prod.snd y0 == (0 : Int)) (opt (Go.Proofs.YtajknlhbfhemlaaDoor.g_iso_Parse (Prod.fst y0)) fun (y2 : List UInt8 × List Go.Cx.AV × Int) => (.c (Decidable.decide (List.length (Prod.fst y0) * (2 : Nat) < (70368744177664 : Nat))) (.c (List.length (Prod.fst y0) == List.length (Prod.fst y0)) (.c (Decidable.decide (List.length (Prod.fst y0 ++ x3) * (2 : Nat) < (70368744177664 : Nat))) (.c (Bool.true && List.length (Prod.fst y0 ++ x3) == List.length (Prod.fst y0 ++ x3)) (opt (Go.Proofs.YtajknlhbfhemlaaDoor.g_iso_Parse (Prod.fst y0 ++ x3)) fun (y3 : List UInt8 × List Go.Cx.AV × Int) => (.c (Go.Cx.isZ (Go.IntKind.wrap Go.IntKind.u64 (↑(List.length (Prod.fst y0)) : Int))) .bad (.c (Decidable.decide ((0 : Int) ≤ Go.IntKind.wrap Go.IntKind.i64 (Int.tmod (Go.IntKind.wrap Go.IntKind.u64 x4) (Go.IntKind.wrap Go.IntKind.u64 (↑(List.length (Prod.fst y0)) : Int))))) (.c (Decidable.decide (Go.IntKind.wrap Go.IntKind.i64 (Int.tmod (Go.IntKind.wrap Go.IntKind.u64 x4) (Go.IntKind.wrap Go.IntKind.u64 (↑(List.length (Prod.fst y0)) : Int))) ≤ (↑(List.length (Prod.fst y0)) : Int))) (.c (Decidable.decide ((0 : Int) ≤ Go.IntKind.wrap Go.IntKind.i64 (Int.tmod (Go.IntKind.wrap Go.IntKind.u64 x4) (Go.IntKind.wrap Go.IntKind.u64 (↑(List.length (Prod.fst y0)) : Int))))) (opt (Go.Proofs.YtajknlhbfhemlaaDoor.g_iso_Parse (List.drop (0 : Nat) (List.take (Int.toNat (Go.IntKind.wrap Go.IntKind.i64 (Int.tmod (Go.IntKind.wrap Go.IntKind.u64 x4) (Go.IntKind.wrap Go.IntKind.u64 (↑(List.length (Prod.fst y0)) : Int))))) (Prod.fst y0)))) fun (y4 : List UInt8 × List Go.Cx.AV × Int) => (.c (Prod.snd (Prod.snd y2) != (0 : Int)) (.r (Bool.false)) (opt (Go.Proofs.YtajknlhbfhemlaaDoor.g_comptoirhelp_Iso (Prod.fst y2) (Prod.fst (Prod.snd y2)) x0 x1) fun (y5 : Bool) => (.c (!y5) (.r (Bool.false)) (.c (Prod.snd (Prod.snd y4) == (0 : Int)) (.r (Bool.false)) (.c (Decidable.decide ((↑(List.length x3) : Int) > (0 : Int))) (.c (Prod.snd (Prod.snd y3) != (17 : Int)) (.c (!Decidable.decide (Go.IntKind.wrap Go.IntKind.i64 ((↑(List.length (Prod.fst y0)) : Int) + (↑(List.length x3) : Int)) > (4096 : Int))) (.r (Bool.false)) (opt (Go.Proofs.YtajknlhbfhemlaaDoor.g_iso_Parse x2) fun (y6 : List UInt8 × List Go.Cx.AV × Int) => (.c (Prod.snd (Prod.snd y6) != (0 : Int)) (opt (Go.Proofs.YtajknlhbfhemlaaDoor.g_comptoirlaw17_awake) fun (y7 : Bool) => (.r (y1))) (opt (Go.Proofs.YtajknlhbfhemlaaDoor.g_iso_Pack (Prod.fst y6) (Prod.fst (Prod.snd y6))) fun (y7 : List Go.Cx.AV × Int) => (opt (Go.Proofs.YtajknlhbfhemlaaDoor.g_comptoirlaw17_awake) fun (y8 : Bool) => (.c (y1) (.c (Prod.snd y7 == (0 : Int)) (.r (Go.Cx.bytesOf (Prod.fst y7) == Go.Cx.bytesOf x2)) (.r (Bool.false))) (.r (Bool.false)))))))) (opt (Go.Proofs.YtajknlhbfhemlaaDoor.g_iso_Parse x2) fun (y6 : List UInt8 × List Go.Cx.AV × Int) => (.c (Prod.snd (Prod.snd y6) != (0 : Int)) (opt (Go.Proofs.YtajknlhbfhemlaaDoor.g_comptoirlaw17_awake) fun (y7 : Bool) => (.r (y1))) (opt (Go.Proofs.YtajknlhbfhemlaaDoor.g_iso_Pack (Prod.fst y6) (Prod.fst (Prod.snd y6))) fun (y7 : List Go.Cx.AV × Int) => (opt (Go.Proofs.YtajknlhbfhemlaaDoor.g_comptoirlaw17_awake) fun (y8 : Bool) => (.c (y1) (.c (Prod.snd y7 == (0 : Int)) (.r (Go.Cx.bytesOf (Prod.fst y7) == Go.Cx.bytesOf x2)) (.r (Bool.false))) (.r (Bool.false)))))))) (opt (Go.Proofs.YtajknlhbfhemlaaDoor.g_iso_Parse x2) fun (y6 : List UInt8 × List Go.Cx.AV × Int) => (.c (Prod.snd (Prod.snd y6) != (0 : Int)) (opt (Go.Proofs.YtajknlhbfhemlaaDoor.g_comptoirlaw17_awake) fun (y7 : Bool) => (.r (y1))) (opt (Go.Proofs.YtajknlhbfhemlaaDoor.g_iso_Pack (Prod.fst y6) (Prod.fst (Prod.snd y6))) fun (y7 : List Go.Cx.AV × Int) => (opt (Go.Proofs.YtajknlhbfhemlaaDoor.g_comptoirlaw17_awake) fun (y8 : Bool) => (.c (y1) (.c (Prod.snd y7 == (0 : Int)) (.r (Go.Cx.bytesOf (Prod.fst y7) == Go.Cx.bytesOf x2)) (.r (Bool.false))) (.r (Bool.false))))))))))))) .bad) .bad) .bad))) .bad) .bad) .bad) .bad)) (opt (Go.Proofs.YtajknlhbfhemlaaDoor.g_iso_Parse x2) fun (y2 : List UInt8 × List Go.Cx.AV × Int) => (.c (Prod.snd (Prod.snd y2) != (0 : Int)) (opt (Go.Proofs.YtajknlhbfhemlaaDoor.g_comptoirlaw17_awake) fun (y3 : Bool) => (.r (y1))) (opt (Go.Proofs.YtajknlhbfhemlaaDoor.g_iso_Pack (Prod.fst y2) (Prod.fst (Prod.snd y2))) fun (y3 : List Go.Cx.AV × Int) => (opt (Go.Proofs.YtajknlhbfhemlaaDoor.g_comptoirlaw17_awake) fun (y4 : Bool) => (.c (y1) (.c (Prod.snd y3 == (0 : Int)) (.r (Go.Cx.bytesOf (Prod.fst y3) == Go.Cx.bytesOf x2)) (.r (Bool.false))) (.r (Bool.false))))))))) (.c (Prod.snd y0 == (0 : Int)) (opt (Go.Proofs.YtajknlhbfhemlaaDoor.g_iso_Parse (Prod.fst y0)) fun (y2 : List UInt8 × List Go.Cx.AV × Int) => (.c (Decidable.decide (List.length (Prod.fst y0) * (2 : Nat) < (70368744177664 : Nat))) (.c (List.length (Prod.fst y0) == List.length (Prod.fst y0)) (.c (Decidable.decide (List.length (Prod.fst y0 ++ x3) * (2 : Nat) < (70368744177664 : Nat))) (.c (Bool.true && List.length (Prod.fst y0 ++ x3) == List.length (Prod.fst y0 ++ x3)) (opt (Go.Proofs.YtajknlhbfhemlaaDoor.g_iso_Parse (Prod.fst y0 ++ x3)) fun (y3 : List UInt8 × List Go.Cx.AV × Int) => (.c (Go.Cx.isZ (Go.IntKind.wrap Go.IntKind.u64 (↑(List.length (Prod.fst y0)) : Int))) .bad (.c (Decidable.decide ((0 : Int) ≤ Go.IntKind.wrap Go.IntKind.i64 (Int.tmod (Go.IntKind.wrap Go.IntKind.u64 x4) (Go.IntKind.wrap Go.IntKind.u64 (↑(List.length (Prod.fst y0)) : Int))))) (.c (Decidable.decide (Go.IntKind.wrap Go.IntKind.i64 (Int.tmod (Go.IntKind.wrap Go.IntKind.u64 x4) (Go.IntKind.wrap Go.IntKind.u64 (↑(List.length (Prod.fst y0)) : Int))) ≤ (↑(List.length (Prod.fst y0)) : Int))) (.c (Decidable.decide ((0 : Int) ≤ Go.IntKind.wrap Go.IntKind.i64 (Int.tmod (Go.IntKind.wrap Go.IntKind.u64 x4) (Go.IntKind.wrap Go.IntKind.u64 (↑(List.length (Prod.fst y0)) : Int))))) (opt (Go.Proofs.YtajknlhbfhemlaaDoor.g_iso_Parse (List.drop (0 : Nat) (List.take (Int.toNat (Go.IntKind.wrap Go.IntKind.i64 (Int.tmod (Go.IntKind.wrap Go.IntKind.u64 x4) (Go.IntKind.wrap Go.IntKind.u64 (↑(List.length (Prod.fst y0)) : Int))))) (Prod.fst y0)))) fun (y4 : List UInt8 × List Go.Cx.AV × Int) => (.c (Prod.snd (Prod.snd y2) != (0 : Int)) (.r (Bool.false)) (opt (Go.Proofs.YtajknlhbfhemlaaDoor.g_comptoirhelp_Iso (Prod.fst y2) (Prod.fst (Prod.snd y2)) x0 x1) fun (y5 : Bool) => (.c (!y5) (.r (Bool.false)) (.c (Prod.snd (Prod.snd y4) == (0 : Int)) (.r (Bool.false)) (.c (Decidable.decide ((↑(List.length x3) : Int) > (0 : Int))) (.c (Prod.snd (Prod.snd y3) != (17 : Int)) (.c (!Decidable.decide (Go.IntKind.wrap Go.IntKind.i64 ((↑(List.length (Prod.fst y0)) : Int) + (↑(List.length x3) : Int)) > (4096 : Int))) (.r (Bool.false)) (opt (Go.Proofs.YtajknlhbfhemlaaDoor.g_iso_Parse x2) fun (y6 : List UInt8 × List Go.Cx.AV × Int) => (.c (Prod.snd (Prod.snd y6) != (0 : Int)) (opt (Go.Proofs.YtajknlhbfhemlaaDoor.g_comptoirlaw17_awake) fun (y7 : Bool) => (.r (y1))) (opt (Go.Proofs.YtajknlhbfhemlaaDoor.g_iso_Pack (Prod.fst y6) (Prod.fst (Prod.snd y6))) fun (y7 : List Go.Cx.AV × Int) => (opt (Go.Proofs.YtajknlhbfhemlaaDoor.g_comptoirlaw17_awake) fun (y8 : Bool) => (.c (y1) (.c (Prod.snd y7 == (0 : Int)) (.r (Go.Cx.bytesOf (Prod.fst y7) == Go.Cx.bytesOf x2)) (.r (Bool.false))) (.r (Bool.false)))))))) (opt (Go.Proofs.YtajknlhbfhemlaaDoor.g_iso_Parse x2) fun (y6 : List UInt8 × List Go.Cx.AV × Int) => (.c (Prod.snd (Prod.snd y6) != (0 : Int)) (opt (Go.Proofs.YtajknlhbfhemlaaDoor.g_comptoirlaw17_awake) fun (y7 : Bool) => (.r (y1))) (opt (Go.Proofs.YtajknlhbfhemlaaDoor.g_iso_Pack (Prod.fst y6) (Prod.fst (Prod.snd y6))) fun (y7 : List Go.Cx.AV × Int) => (opt (Go.Proofs.YtajknlhbfhemlaaDoor.g_comptoirlaw17_awake) fun (y8 : Bool) => (.c (y1) (.c (Prod.snd y7 == (0 : Int)) (.r (Go.Cx.bytesOf (Prod.fst y7) == Go.Cx.bytesOf x2)) (.r (Bool.false))) (.r (Bool.false)))))))) (opt (Go.Proofs.YtajknlhbfhemlaaDoor.g_iso_Parse x2) fun (y6 : List UInt8 × List Go.Cx.AV × Int) => (.c (Prod.snd (Prod.snd y6) != (0 : Int)) (opt (Go.Proofs.YtajknlhbfhemlaaDoor.g_comptoirlaw17_awake) fun (y7 : Bool) => (.r (y1))) (opt (Go.Proofs.YtajknlhbfhemlaaDoor.g_iso_Pack (Prod.fst y6) (Prod.fst (Prod.snd y6))) fun (y7 : List Go.Cx.AV × Int) => (opt (Go.Proofs.YtajknlhbfhemlaaDoor.g_comptoirlaw17_awake) fun (y8 : Bool) => (.c (y1) (.c (Prod.snd y7 == (0 : Int)) (.r (Go.Cx.bytesOf (Prod.fst y7) == Go.Cx.bytesOf x2)) (.r (Bool.false))) (.r (Bool.false))))))))))))) .bad) .bad) .bad))) .bad) .bad) .bad) .bad)) (opt (Go.Proofs.YtajknlhbfhemlaaDoor.g_iso_Parse x2) fun (y2 : List UInt8 × List Go.Cx.AV × Int) => (.c (Prod.snd (Prod.snd y2) != (0 : Int)) (opt (Go.Proofs.YtajknlhbfhemlaaDoor.g_comptoirlaw17_awake) fun (y3 : Bool) => (.r (y1))) (opt (Go.Proofs.YtajknlhbfhemlaaDoor.g_iso_Pack (Prod.fst y2) (Prod.fst (Prod.snd y2))) fun (y3 : List Go.Cx.AV × Int) => (opt (Go.Proofs.YtajknlhbfhemlaaDoor.g_comptoirlaw17_awake) fun (y4 : Bool) => (.c (y1) (.c (Prod.snd y3 == (0 : Int)) (.r (Go.Cx.bytesOf (Prod.fst y3) == Go.Cx.bytesOf x2)) (.r (Bool.false))) (.r (Bool.false)))))))))))))))
noncomputable def g_comptoirlaw17_IsoBack (x0 : List UInt8) (x1 : List AV) (x2 : List AV) (x3 : List AV) (x4 : Int) : Option (Bool) := (T_comptoirlaw17_IsoBack x0 x1 x2 x3 x4).val
set_option maxRecDepth 100000 in
theorem c_comptoirlaw17_IsoBack (ls : List AV) (Rv : Bool → Prop) : callA E_comptoirlaw17_IsoBack Tryd.f4 (instL ls P_comptoirlaw17_IsoBack 0) [] (outP O_comptoirlaw17_IsoBack fun ls => Rv (tup_comptoirlaw17_IsoBack ls)) = (T_comptoirlaw17_IsoBack (getS (ls.getD 0 .junk)) (getXs (ls.getD 1 .junk)) (getXs (ls.getD 2 .junk)) (getXs (ls.getD 3 .junk)) (getI (ls.getD 4 .junk))).fold False Rv := by kernel_rfl
theorem eok_comptoirlaw17_IsoBack : EnOK E_comptoirlaw17_IsoBack := TblOK.enK (TblOK.add TYiG445t_ok (Sound.frzAr S_iso_Parse_ok)) _ _ _ _ _


end Go.Proofs.YtajknlhbfhemlaaDoor
