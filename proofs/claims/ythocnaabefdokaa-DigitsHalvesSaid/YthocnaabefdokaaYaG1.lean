/- A part of the proof. -/
import Derived.Test.YthocnaabefdokaaYaB2
namespace Go.Proofs.Ythocnaabefdokaa
open Go.Cx Go.Cx.AV
set_option linter.unusedVariables false
/- (comptoir/digits.signs).has -/
noncomputable def E46 : En := enK Try.prog T0t [] [] [] [] 0
def P46 : List Pat := [.leaf .str, .leaf (.int .u8)]
def O46 : Pat := .leaf .bool
def tup46 : List AV → Bool := fun ls => getB (ls.getD 0 .junk)
def res46 : Bool → AV := fun x => .bool (x)
noncomputable def T46 (x0 : List UInt8) (x1 : Int) : Tr (Bool) := (.r (Decidable.decide (Go.Lib.indexByte x0 (Nat.toUInt8 (Int.toNat x1)) ≥ (0 : Int))))
noncomputable def g46 (x0 : List UInt8) (x1 : Int) : Option (Bool) := (T46 x0 x1).val
set_option maxRecDepth 100000 in
theorem c46 (ls : List AV) (Rv : Bool → Prop) : callA E46 Try.f46 (instL ls P46 0) [] (outP O46 fun ls => Rv (tup46 ls)) = (T46 (getS (ls.getD 0 .junk)) (getI (ls.getD 1 .junk))).fold False Rv := by kernel_rfl
noncomputable def S46 : Go.Cx.Spec := pureS (patF P46 fun ls => opt (g46 (getS (ls.getD 0 .junk)) (getI (ls.getD 1 .junk))) fun x => .r (res46 x))
set_option maxRecDepth 100000 in
theorem S46_ok : Sound Try.prog 46 S46 :=
  pure_flat (E := E46) (TblOK.enK T0t_ok _ _ _ _ _) mixed rfl Try.func46 (c := Try.f46.body.getD .skip) (by kernel_rfl) (by kernel_rfl) (pats := P46) (O := O46) (tup := tup46) (res := res46) (g := fun ls => g46 (getS (ls.getD 0 .junk)) (getI (ls.getD 1 .junk))) (T := fun ls => T46 (getS (ls.getD 0 .junk)) (getI (ls.getD 1 .junk))) (fun _ => rfl) (fun ls => by kernel_rfl) c46

noncomputable def TYaG11t : FuncId → Option Go.Cx.Spec := addT T0t 46 S46
theorem TYaG11t_ok : TblOK Try.prog TYaG11t := T0t_ok.add S46_ok

/- comptoir/digits.all -/
noncomputable def E47 : En := enK Try.prog TYaG11t [] [(2, ⟨[2, 3, 4, 5, 6, 9, 10, 11, 12, 13, 14, 15, 16, 17], [], []⟩)] [] [] 0
def P47 : List Pat := [.leaf .str, .func 46 [.leaf .str] []]
def O47 : Pat := .leaf .bool
def tup47 : List AV → Bool := fun ls => getB (ls.getD 0 .junk)
def res47 : Bool → AV := fun x => .bool (x)
noncomputable def T47 (x0 : List UInt8) (x1 : List UInt8) : Tr ((Int) ⊕ (Bool)) := (.r (.inl ((0 : Int))))
noncomputable def M47 (x0 : List UInt8) (x1 : List UInt8) : Int → Tr ((Int) ⊕ (Bool))
  | i0 => (.c (Decidable.decide (i0 < (↑(List.length x0) : Int))) (.c (Decidable.decide ((0 : Int) ≤ i0)) (.c (Decidable.decide (i0 < (↑(List.length x0) : Int))) (.c (!Decidable.decide (Go.Lib.indexByte x1 (Nat.toUInt8 (UInt8.toNat (List.getD x0 (Int.toNat i0) (0 : UInt8)))) ≥ (0 : Int))) (.r (.inr (Bool.false))) (.r (.inl (Go.IntKind.wrap Go.IntKind.i64 (i0 + (1 : Int)))))) .bad) .bad) (.r (.inr (Bool.true))))
noncomputable def g47 (x0 : List UInt8) (x1 : List UInt8) : Option (Bool) := run (M47 x0 x1) (T47 x0 x1)
noncomputable def b47 := Try.f47.body.getD .skip
def st47_0 (x0 : List UInt8) (x1 : List UInt8) (i0 : Int) : St := ⟨[Go.Cx.AV.str x0, Go.Cx.AV.func (46 : Nat) [Go.Cx.AV.str x1] [], Go.Cx.AV.junk, Go.Cx.AV.junk, Go.Cx.AV.junk, Go.Cx.AV.junk, Go.Cx.AV.junk, Go.Cx.AV.int Go.IntKind.i64 (↑(List.length x0) : Int), Go.Cx.AV.int Go.IntKind.i64 i0, Go.Cx.AV.junk, Go.Cx.AV.junk, Go.Cx.AV.junk, Go.Cx.AV.junk, Go.Cx.AV.junk, Go.Cx.AV.junk, Go.Cx.AV.junk, Go.Cx.AV.junk, Go.Cx.AV.junk], []⟩
noncomputable def L47 (x0 : List UInt8) (x1 : List UInt8) (Rv : Bool → Prop) : Int → Prop
  | i0 => LP E47 (topLoop b47 0) 0 (contL E47 b47 0 (bodyK E47 Try.f47 (outP O47 fun ls => Rv (tup47 ls)))) (st47_0 x0 x1 i0)
set_option maxRecDepth 100000 in
theorem l47_0 (x0 : List UInt8) (x1 : List UInt8) (Rv : Bool → Prop) (i0 : Int) : wpA E47 (topLoop b47 0) (stepK 0 (E47.forget (firstRegion (topLoop b47 0))) (LP E47 (topLoop b47 0) 0 (contL E47 b47 0 (bodyK E47 Try.f47 (outP O47 fun ls => Rv (tup47 ls))))) (contL E47 b47 0 (bodyK E47 Try.f47 (outP O47 fun ls => Rv (tup47 ls))))) (st47_0 x0 x1 i0) =
  (M47 x0 x1 (i0)).fold False (Sum.elim (L47 x0 x1 Rv) Rv) := by kernel_rfl
set_option maxRecDepth 100000 in
theorem c47 (ls : List AV) (Rv : Bool → Prop) : callA E47 Try.f47 (instL ls P47 0) [] (outP O47 fun ls => Rv (tup47 ls)) = (T47 (getS (ls.getD 0 .junk)) (getS (ls.getD 1 .junk))).fold False (Sum.elim (L47 (getS (ls.getD 0 .junk)) (getS (ls.getD 1 .junk)) Rv) Rv) := by kernel_rfl
noncomputable def S47 : Go.Cx.Spec := pureS (patF P47 fun ls => opt (g47 (getS (ls.getD 0 .junk)) (getS (ls.getD 1 .junk))) fun x => .r (res47 x))
set_option maxRecDepth 100000 in
theorem S47_ok : Sound Try.prog 47 S47 :=
  pure_mach (E := E47) (TblOK.enK TYaG11t_ok _ _ _ _ _) mixed rfl Try.func47 (c := Try.f47.body.getD .skip) (by kernel_rfl) (by kernel_rfl) (pats := P47) (O := O47) (tup := tup47) (res := res47) (g := fun ls => g47 (getS (ls.getD 0 .junk)) (getS (ls.getD 1 .junk))) (T := fun ls => T47 (getS (ls.getD 0 .junk)) (getS (ls.getD 1 .junk))) (step := fun ls => M47 (getS (ls.getD 0 .junk)) (getS (ls.getD 1 .junk))) (L := fun ls => L47 (getS (ls.getD 0 .junk)) (getS (ls.getD 1 .junk))) (fun _ => rfl) (fun ls => by kernel_rfl) c47 (fun ls Rv s => match s with
    | v0 => fun h => LP.unfold (Eq.mpr (l47_0 _ _ Rv v0) h)
    )

noncomputable def TYaG12t : FuncId → Option Go.Cx.Spec := addT TYaG11t 47 S47
theorem TYaG12t_ok : TblOK Try.prog TYaG12t := TYaG11t_ok.add S47_ok

/- comptoir/digits.Right -/
noncomputable def E18 : En := enK Try.prog TYaG12t [] [] [] [] 0
def P18 : List Pat := [.leaf .str, .leaf (.int .i64), .leaf (.int .i64)]
def O18 : Pat := .leaf .bool
def tup18 : List AV → Bool := fun ls => getB (ls.getD 0 .junk)
def res18 : Bool → AV := fun x => .bool (x)
noncomputable def T18 (x0 : List UInt8) (x1 : Int) (x2 : Int) : Tr (Bool) := (.c (Decidable.decide ((↑(List.length x0) : Int) ≥ x1)) (.c (Decidable.decide ((↑(List.length x0) : Int) ≤ x2)) (.c (Option.isSome (Go.Proofs.Ythocnaabefdokaa.g47 x0 [(48 : UInt8), (49 : UInt8), (50 : UInt8), (51 : UInt8), (52 : UInt8), (53 : UInt8), (54 : UInt8), (55 : UInt8), (56 : UInt8), (57 : UInt8)])) (.r (Option.getD (Go.Proofs.Ythocnaabefdokaa.g47 x0 [(48 : UInt8), (49 : UInt8), (50 : UInt8), (51 : UInt8), (52 : UInt8), (53 : UInt8), (54 : UInt8), (55 : UInt8), (56 : UInt8), (57 : UInt8)]) Bool.false)) .bad) (.r (Bool.false))) (.r (Bool.false)))
noncomputable def g18 (x0 : List UInt8) (x1 : Int) (x2 : Int) : Option (Bool) := (T18 x0 x1 x2).val
set_option maxRecDepth 100000 in
theorem c18 (ls : List AV) (Rv : Bool → Prop) : callA E18 Try.f18 (instL ls P18 0) [] (outP O18 fun ls => Rv (tup18 ls)) = (T18 (getS (ls.getD 0 .junk)) (getI (ls.getD 1 .junk)) (getI (ls.getD 2 .junk))).fold False Rv := by kernel_rfl
noncomputable def S18 : Go.Cx.Spec := pureS (patF P18 fun ls => opt (g18 (getS (ls.getD 0 .junk)) (getI (ls.getD 1 .junk)) (getI (ls.getD 2 .junk))) fun x => .r (res18 x))
set_option maxRecDepth 100000 in
theorem S18_ok : Sound Try.prog 18 S18 :=
  pure_flat (E := E18) (TblOK.enK TYaG12t_ok _ _ _ _ _) mixed rfl Try.func18 (c := Try.f18.body.getD .skip) (by kernel_rfl) (by kernel_rfl) (pats := P18) (O := O18) (tup := tup18) (res := res18) (g := fun ls => g18 (getS (ls.getD 0 .junk)) (getI (ls.getD 1 .junk)) (getI (ls.getD 2 .junk))) (T := fun ls => T18 (getS (ls.getD 0 .junk)) (getI (ls.getD 1 .junk)) (getI (ls.getD 2 .junk))) (fun _ => rfl) (fun ls => by kernel_rfl) c18

noncomputable def TYaG13t : FuncId → Option Go.Cx.Spec := addT TYaG12t 18 S18
theorem TYaG13t_ok : TblOK Try.prog TYaG13t := TYaG12t_ok.add S18_ok

/- comptoir/digits.Bcd -/
noncomputable def E16 : En := enK Try.prog TYaG13t [] [(7, ⟨[1, 2, 3, 6, 7, 8, 9, 10, 11, 12, 13, 14, 15, 16, 17, 18, 19, 20, 21, 22, 23, 24, 25, 26, 27, 28, 29, 30, 31, 32, 33, 34, 35], [], []⟩)] [(7, [(4, 5, (.int .u8))])] [] 0
def P16 : List Pat := [.leaf .str]
def O16 : Pat := .tuple [.leaf (.slice 1 (.int .u8)), .leaf (.int .i64)]
def tup16 : List AV → List AV × Int := fun ls => (getXs (ls.getD 0 .junk), getI (ls.getD 1 .junk))
def res16 : List AV × Int → AV := fun x => .tuple [.slice 1 (.int .u8) (x.1) .ro, .int .i64 (x.2)]
noncomputable def T16 (x0 : List UInt8) : Tr ((List UInt8 × Int × List AV) ⊕ (List AV × Int)) := (.c (Option.isSome (Go.Proofs.Ythocnaabefdokaa.g18 x0 (0 : Int) (100 : Int))) (.c (!Option.getD (Go.Proofs.Ythocnaabefdokaa.g18 x0 (0 : Int) (100 : Int)) Bool.false) (.r (.inr (([], (5 : Int))))) (.c (Int.tmod (↑(List.length x0) : Int) (2 : Int) == (1 : Int)) (.c (Decidable.decide ((1 : Nat) + List.length x0 < (70368744177664 : Nat))) (.r (.inl (([(48 : UInt8)] ++ x0, (0 : Int), [])))) .bad) (.r (.inl ((x0, (0 : Int), [])))))) .bad)
noncomputable def M16 (x0 : List UInt8) : List UInt8 × Int × List AV → Tr ((List UInt8 × Int × List AV) ⊕ (List AV × Int))
  | (s0, i0, l0) => (.c (Decidable.decide (i0 < (↑(List.length s0) : Int))) (.c (Decidable.decide ((0 : Int) ≤ i0)) (.c (Decidable.decide (i0 < (↑(List.length s0) : Int))) (.c (Decidable.decide ((0 : Int) ≤ Go.IntKind.wrap Go.IntKind.i64 (i0 + (1 : Int)))) (.c (Decidable.decide (Go.IntKind.wrap Go.IntKind.i64 (i0 + (1 : Int)) < (↑(List.length s0) : Int))) (.c (List.length l0 == List.length l0) (.c (Decidable.decide (List.length (l0 ++ [Go.Cx.AV.int Go.IntKind.u8 (Go.Cx.bitsA Go.BinOp.or Go.IntKind.u8 (Go.Cx.shlA Go.IntKind.u8 (Go.IntKind.wrap Go.IntKind.u8 ((↑(UInt8.toNat (List.getD s0 (Int.toNat i0) (0 : UInt8))) : Int) - (48 : Int))) (4 : Int)) (Go.IntKind.wrap Go.IntKind.u8 ((↑(UInt8.toNat (List.getD s0 (Int.toNat (Go.IntKind.wrap Go.IntKind.i64 (i0 + (1 : Int)))) (0 : UInt8))) : Int) - (48 : Int))))]) * (2 : Nat) < (70368744177664 : Nat))) (.r (.inl ((s0, Go.IntKind.wrap Go.IntKind.i64 (i0 + (2 : Int)), l0 ++ [Go.Cx.AV.int Go.IntKind.u8 (Go.Cx.bitsA Go.BinOp.or Go.IntKind.u8 (Go.Cx.shlA Go.IntKind.u8 (Go.IntKind.wrap Go.IntKind.u8 ((↑(UInt8.toNat (List.getD s0 (Int.toNat i0) (0 : UInt8))) : Int) - (48 : Int))) (4 : Int)) (Go.IntKind.wrap Go.IntKind.u8 ((↑(UInt8.toNat (List.getD s0 (Int.toNat (Go.IntKind.wrap Go.IntKind.i64 (i0 + (1 : Int)))) (0 : UInt8))) : Int) - (48 : Int))))])))) .bad) .bad) .bad) .bad) .bad) .bad) (.c (List.length l0 == List.length l0) (.r (.inr ((l0, (0 : Int))))) .bad))
noncomputable def g16 (x0 : List UInt8) : Option (List AV × Int) := run (M16 x0) (T16 x0)
noncomputable def b16 := Try.f16.body.getD .skip
def st16_0 (x0 : List UInt8) (s0 : List UInt8) (i0 : Int) (l0 : List AV) : St := ⟨[Go.Cx.AV.str s0, Go.Cx.AV.junk, Go.Cx.AV.junk, Go.Cx.AV.junk, Go.Cx.AV.oslice (0 : Nat) (0 : Nat) (List.length l0), Go.Cx.AV.int Go.IntKind.i64 i0, Go.Cx.AV.junk, Go.Cx.AV.junk, Go.Cx.AV.junk, Go.Cx.AV.junk, Go.Cx.AV.junk, Go.Cx.AV.junk, Go.Cx.AV.junk, Go.Cx.AV.junk, Go.Cx.AV.junk, Go.Cx.AV.junk, Go.Cx.AV.junk, Go.Cx.AV.junk, Go.Cx.AV.junk, Go.Cx.AV.junk, Go.Cx.AV.junk, Go.Cx.AV.junk, Go.Cx.AV.junk, Go.Cx.AV.junk, Go.Cx.AV.junk, Go.Cx.AV.junk, Go.Cx.AV.junk, Go.Cx.AV.junk, Go.Cx.AV.junk, Go.Cx.AV.junk, Go.Cx.AV.junk, Go.Cx.AV.junk, Go.Cx.AV.junk, Go.Cx.AV.junk, Go.Cx.AV.junk, Go.Cx.AV.junk], [Go.Cx.Ob.grow (5 : Nat) (0 : Nat) (1 : Nat) (Go.Cx.Sh.int Go.IntKind.u8) l0]⟩
noncomputable def L16 (x0 : List UInt8) (Rv : List AV × Int → Prop) : List UInt8 × Int × List AV → Prop
  | (s0, i0, l0) => LP E16 (topLoop b16 0) 1 (contL E16 b16 0 (bodyK E16 Try.f16 (outP O16 fun ls => Rv (tup16 ls)))) (st16_0 x0 s0 i0 l0)
set_option maxRecDepth 100000 in
theorem l16_0 (x0 : List UInt8) (Rv : List AV × Int → Prop) (s0 : List UInt8) (i0 : Int) (l0 : List AV) : wpA E16 (topLoop b16 0) (stepK 1 (E16.forget (firstRegion (topLoop b16 0))) (LP E16 (topLoop b16 0) 1 (contL E16 b16 0 (bodyK E16 Try.f16 (outP O16 fun ls => Rv (tup16 ls))))) (contL E16 b16 0 (bodyK E16 Try.f16 (outP O16 fun ls => Rv (tup16 ls))))) (st16_0 x0 s0 i0 l0) =
  (M16 x0 ((s0, i0, l0))).fold False (Sum.elim (L16 x0 Rv) Rv) := by kernel_rfl
set_option maxRecDepth 100000 in
theorem c16 (ls : List AV) (Rv : List AV × Int → Prop) : callA E16 Try.f16 (instL ls P16 0) [] (outP O16 fun ls => Rv (tup16 ls)) = (T16 (getS (ls.getD 0 .junk))).fold False (Sum.elim (L16 (getS (ls.getD 0 .junk)) Rv) Rv) := by kernel_rfl
noncomputable def S16 : Go.Cx.Spec := pureS (patF P16 fun ls => opt (g16 (getS (ls.getD 0 .junk))) fun x => .r (res16 x))
set_option maxRecDepth 100000 in
theorem S16_ok : Sound Try.prog 16 S16 :=
  pure_mach (E := E16) (TblOK.enK TYaG13t_ok _ _ _ _ _) mixed rfl Try.func16 (c := Try.f16.body.getD .skip) (by kernel_rfl) (by kernel_rfl) (pats := P16) (O := O16) (tup := tup16) (res := res16) (g := fun ls => g16 (getS (ls.getD 0 .junk))) (T := fun ls => T16 (getS (ls.getD 0 .junk))) (step := fun ls => M16 (getS (ls.getD 0 .junk))) (L := fun ls => L16 (getS (ls.getD 0 .junk))) (fun _ => rfl) (fun ls => by kernel_rfl) c16 (fun ls Rv s => match s with
    | (v0, v1, v2) => fun h => LP.unfold (Eq.mpr (l16_0 _ Rv v0 v1 v2) h)
    )

noncomputable def TYaG14t : FuncId → Option Go.Cx.Spec := addT TYaG13t 16 S16
theorem TYaG14t_ok : TblOK Try.prog TYaG14t := TYaG13t_ok.add S16_ok

/- comptoir/comptoirhelp.Bytes -/
noncomputable def E21 : En := enK Try.prog TYaG14t [] [] [] [] 0
def P21 : List Pat := [.leaf (.slice 1 (.int .u8)), .leaf (.slice 1 (.int .u8))]
def O21 : Pat := .leaf .bool
def tup21 : List AV → Bool := fun ls => getB (ls.getD 0 .junk)
def res21 : Bool → AV := fun x => .bool (x)
noncomputable def T21 (x0 : List AV) (x1 : List AV) : Tr (Bool) := (.r (Go.Cx.bytesOf x0 == Go.Cx.bytesOf x1))
noncomputable def g21 (x0 : List AV) (x1 : List AV) : Option (Bool) := (T21 x0 x1).val
set_option maxRecDepth 100000 in
theorem c21 (ls : List AV) (Rv : Bool → Prop) : callA E21 Try.f21 (instL ls P21 0) [] (outP O21 fun ls => Rv (tup21 ls)) = (T21 (getXs (ls.getD 0 .junk)) (getXs (ls.getD 1 .junk))).fold False Rv := by kernel_rfl
noncomputable def S21 : Go.Cx.Spec := pureS (patF P21 fun ls => opt (g21 (getXs (ls.getD 0 .junk)) (getXs (ls.getD 1 .junk))) fun x => .r (res21 x))
set_option maxRecDepth 100000 in
theorem S21_ok : Sound Try.prog 21 S21 :=
  pure_flat (E := E21) (TblOK.enK TYaG14t_ok _ _ _ _ _) mixed rfl Try.func21 (c := Try.f21.body.getD .skip) (by kernel_rfl) (by kernel_rfl) (pats := P21) (O := O21) (tup := tup21) (res := res21) (g := fun ls => g21 (getXs (ls.getD 0 .junk)) (getXs (ls.getD 1 .junk))) (T := fun ls => T21 (getXs (ls.getD 0 .junk)) (getXs (ls.getD 1 .junk))) (fun _ => rfl) (fun ls => by kernel_rfl) c21

noncomputable def TYaG15t : FuncId → Option Go.Cx.Spec := addT TYaG14t 21 S21
theorem TYaG15t_ok : TblOK Try.prog TYaG15t := TYaG14t_ok.add S21_ok

/- (*strings.Builder).WriteByte -/
noncomputable def E59 : En := enK Try.prog TYaG15t [] [] [] [] 2
def P59 : List Pat := [.lit (.ptr 0 0), .leaf (.int .u8)]
def Q59 : List OPat := [.fix 92 [.lit .nilptr, .own 1 0 1], .grow 5 0 1 (.int .u8)]
def O59 : Pat := .lit .nilIface
def OO59 : List OPat := [.fix 92 [.lit (.ptr 0 0), .own 1 0 0], .grow 5 0 1 (.int .u8)]
def tup59 : List AV → List AV := fun ls => getXs (ls.getD 0 .junk)
def res59 : List AV → AV × List Ob := fun x => (.nilIface, [.fix 92 [.ptr 0 0, .oslice 1 0 (List.length (x))], .grow 5 0 1 (.int .u8) (x)])
noncomputable def T59 (x0 : Int) (x1 : List AV) : Tr (List AV) := (.c (List.length x1 == List.length x1) (.c (Decidable.decide (List.length (x1 ++ [Go.Cx.AV.int Go.IntKind.u8 x0]) * (2 : Nat) < (70368744177664 : Nat))) (.c (List.length (x1 ++ [Go.Cx.AV.int Go.IntKind.u8 x0]) == List.length (x1 ++ [Go.Cx.AV.int Go.IntKind.u8 x0])) (.r (x1 ++ [Go.Cx.AV.int Go.IntKind.u8 x0])) .bad) .bad) .bad)
noncomputable def g59 (x0 : Int) (x1 : List AV) : Option (List AV) := (T59 x0 x1).val
set_option maxRecDepth 100000 in
theorem c59 (ls : List AV) (Rv : List AV → Prop) : callA E59 Try.f59 (instL ls P59 0) (instH ls Q59 1) (outH O59 OO59 fun ls => Rv (tup59 ls)) = (T59 (getI (ls.getD 0 .junk)) (getXs (ls.getD 1 .junk))).fold False Rv := by kernel_rfl
noncomputable def S59 : Go.Cx.Spec := heapS (patH P59 Q59 fun ls => opt (g59 (getI (ls.getD 0 .junk)) (getXs (ls.getD 1 .junk))) fun x => .r (res59 x))
set_option maxRecDepth 100000 in
theorem S59_ok : Sound Try.prog 59 S59 :=
  heap_flat (E := E59) (TblOK.enK TYaG15t_ok _ _ _ _ _) mixed Try.func59 (c := Try.f59.body.getD .skip) (by kernel_rfl) (by kernel_rfl) (by decide) (pats := P59) (ops := Q59) (OO := OO59) (O := O59) (tup := tup59) (res := res59) (g := fun ls => g59 (getI (ls.getD 0 .junk)) (getXs (ls.getD 1 .junk))) (T := fun ls => T59 (getI (ls.getD 0 .junk)) (getXs (ls.getD 1 .junk))) (fun _ => rfl) (fun ls => by kernel_rfl) c59

noncomputable def TYaG16t : FuncId → Option Go.Cx.Spec := addT TYaG15t 59 S59
theorem TYaG16t_ok : TblOK Try.prog TYaG16t := TYaG15t_ok.add S59_ok

/- (*strings.Builder).WriteByte -/
noncomputable def E59v1 : En := enK Try.prog TYaG16t [] [] [] [] 2
def P59v1 : List Pat := [.lit (.ptr 0 0), .leaf (.int .u8)]
def Q59v1 : List OPat := [.fix 92 [.lit (.ptr 0 0), .own 1 0 1], .grow 5 0 1 (.int .u8)]
def O59v1 : Pat := .lit .nilIface
def OO59v1 : List OPat := [.fix 92 [.lit (.ptr 0 0), .own 1 0 0], .grow 5 0 1 (.int .u8)]
def tup59v1 : List AV → List AV := fun ls => getXs (ls.getD 0 .junk)
def res59v1 : List AV → AV × List Ob := fun x => (.nilIface, [.fix 92 [.ptr 0 0, .oslice 1 0 (List.length (x))], .grow 5 0 1 (.int .u8) (x)])
noncomputable def T59v1 (x0 : Int) (x1 : List AV) : Tr (List AV) := (.c (List.length x1 == List.length x1) (.c (Decidable.decide (List.length (x1 ++ [Go.Cx.AV.int Go.IntKind.u8 x0]) * (2 : Nat) < (70368744177664 : Nat))) (.c (List.length (x1 ++ [Go.Cx.AV.int Go.IntKind.u8 x0]) == List.length (x1 ++ [Go.Cx.AV.int Go.IntKind.u8 x0])) (.r (x1 ++ [Go.Cx.AV.int Go.IntKind.u8 x0])) .bad) .bad) .bad)
noncomputable def g59v1 (x0 : Int) (x1 : List AV) : Option (List AV) := (T59v1 x0 x1).val
set_option maxRecDepth 100000 in
theorem c59v1 (ls : List AV) (Rv : List AV → Prop) : callA E59v1 Try.f59 (instL ls P59v1 0) (instH ls Q59v1 1) (outH O59v1 OO59v1 fun ls => Rv (tup59v1 ls)) = (T59v1 (getI (ls.getD 0 .junk)) (getXs (ls.getD 1 .junk))).fold False Rv := by kernel_rfl
noncomputable def S59v1 : Go.Cx.Spec := heapS (patH P59v1 Q59v1 fun ls => opt (g59v1 (getI (ls.getD 0 .junk)) (getXs (ls.getD 1 .junk))) fun x => .r (res59v1 x))
set_option maxRecDepth 100000 in
theorem S59v1_ok : Sound Try.prog 59 S59v1 :=
  heap_flat (E := E59v1) (TblOK.enK TYaG16t_ok _ _ _ _ _) mixed Try.func59 (c := Try.f59.body.getD .skip) (by kernel_rfl) (by kernel_rfl) (by decide) (pats := P59v1) (ops := Q59v1) (OO := OO59v1) (O := O59v1) (tup := tup59v1) (res := res59v1) (g := fun ls => g59v1 (getI (ls.getD 0 .junk)) (getXs (ls.getD 1 .junk))) (T := fun ls => T59v1 (getI (ls.getD 0 .junk)) (getXs (ls.getD 1 .junk))) (fun _ => rfl) (fun ls => by kernel_rfl) c59v1

noncomputable def TYaG17t : FuncId → Option Go.Cx.Spec := addT TYaG16t 59 (orH [3, 0, 5, 3, 0] S59v1 S59)
theorem TYaG17t_ok : TblOK Try.prog TYaG17t := TYaG16t_ok.add (Sound.orH [3, 0, 5, 3, 0] (Writes.heapS _) (Writes.heapS _) S59v1_ok S59_ok)

/- comptoir/digits.Hex -/
noncomputable def E45 : En := enK Try.prog TYaG17t [] [(3, ⟨[0, 1, 2, 4, 5, 9, 10, 11, 12, 13, 14, 15, 16, 17, 18, 19, 20, 21], [], []⟩)] [] [(3, [(1, 5, (.int .u8))])] 0
def P45 : List Pat := [.leaf (.slice 1 (.int .u8))]
def O45 : Pat := .leaf .str
def tup45 : List AV → List UInt8 := fun ls => getS (ls.getD 0 .junk)
def res45 : List UInt8 → AV := fun x => .str (x)
noncomputable def T45 (x0 : List AV) : Tr (((Unit) ⊕ (Int × List AV)) ⊕ (List UInt8)) := (.r (.inl (.inl (()))))
noncomputable def M45 (x0 : List AV) : (Unit) ⊕ (Int × List AV) → Tr (((Unit) ⊕ (Int × List AV)) ⊕ (List UInt8))
  | .inl (()) => (.c (Decidable.decide ((0 : Int) < (↑(List.length x0) : Int))) (.c (Decidable.decide ((0 : Int) < (↑(List.length x0) : Int))) (.c (Decidable.decide ((0 : Int) ≤ Go.Cx.shrA Go.IntKind.u8 (Go.Cx.getI (List.getD x0 (0 : Nat) (Go.Cx.AV.int Go.IntKind.u8 (0 : Int)))) (4 : Int))) (.c (Decidable.decide (Go.Cx.shrA Go.IntKind.u8 (Go.Cx.getI (List.getD x0 (0 : Nat) (Go.Cx.AV.int Go.IntKind.u8 (0 : Int)))) (4 : Int) < (16 : Int))) (.c (Decidable.decide (Go.Cx.bitsA Go.BinOp.and Go.IntKind.u8 (Go.Cx.getI (List.getD x0 (0 : Nat) (Go.Cx.AV.int Go.IntKind.u8 (0 : Int)))) (15 : Int) < (16 : Int))) (.r (.inl (.inr (((1 : Int), [Go.Cx.AV.int Go.IntKind.u8 (↑(UInt8.toNat (List.getD [(48 : UInt8), (49 : UInt8), (50 : UInt8), (51 : UInt8), (52 : UInt8), (53 : UInt8), (54 : UInt8), (55 : UInt8), (56 : UInt8), (57 : UInt8), (65 : UInt8), (66 : UInt8), (67 : UInt8), (68 : UInt8), (69 : UInt8), (70 : UInt8)] (Int.toNat (Go.Cx.shrA Go.IntKind.u8 (Go.Cx.getI (List.getD x0 (0 : Nat) (Go.Cx.AV.int Go.IntKind.u8 (0 : Int)))) (4 : Int))) (0 : UInt8))) : Int), Go.Cx.AV.int Go.IntKind.u8 (↑(UInt8.toNat (List.getD [(48 : UInt8), (49 : UInt8), (50 : UInt8), (51 : UInt8), (52 : UInt8), (53 : UInt8), (54 : UInt8), (55 : UInt8), (56 : UInt8), (57 : UInt8), (65 : UInt8), (66 : UInt8), (67 : UInt8), (68 : UInt8), (69 : UInt8), (70 : UInt8)] (Int.toNat (Go.Cx.bitsA Go.BinOp.and Go.IntKind.u8 (Go.Cx.getI (List.getD x0 (0 : Nat) (Go.Cx.AV.int Go.IntKind.u8 (0 : Int)))) (15 : Int))) (0 : UInt8))) : Int)]))))) .bad) .bad) .bad) .bad) (.r (.inr ([]))))
  | .inr ((i0, l0)) => (.c (Decidable.decide (i0 < (↑(List.length x0) : Int))) (.c (Decidable.decide ((0 : Int) ≤ i0)) (.c (Decidable.decide (i0 < (↑(List.length x0) : Int))) (.c (Decidable.decide ((0 : Int) ≤ Go.Cx.shrA Go.IntKind.u8 (Go.Cx.getI (List.getD x0 (Int.toNat i0) (Go.Cx.AV.int Go.IntKind.u8 (0 : Int)))) (4 : Int))) (.c (Decidable.decide (Go.Cx.shrA Go.IntKind.u8 (Go.Cx.getI (List.getD x0 (Int.toNat i0) (Go.Cx.AV.int Go.IntKind.u8 (0 : Int)))) (4 : Int) < (16 : Int))) (.c (List.length l0 == List.length l0) (.c (Option.isSome (Go.Proofs.Ythocnaabefdokaa.g59v1 (↑(UInt8.toNat (List.getD [(48 : UInt8), (49 : UInt8), (50 : UInt8), (51 : UInt8), (52 : UInt8), (53 : UInt8), (54 : UInt8), (55 : UInt8), (56 : UInt8), (57 : UInt8), (65 : UInt8), (66 : UInt8), (67 : UInt8), (68 : UInt8), (69 : UInt8), (70 : UInt8)] (Int.toNat (Go.Cx.shrA Go.IntKind.u8 (Go.Cx.getI (List.getD x0 (Int.toNat i0) (Go.Cx.AV.int Go.IntKind.u8 (0 : Int)))) (4 : Int))) (0 : UInt8))) : Int) l0)) (.c (Decidable.decide (Go.Cx.bitsA Go.BinOp.and Go.IntKind.u8 (Go.Cx.getI (List.getD x0 (Int.toNat i0) (Go.Cx.AV.int Go.IntKind.u8 (0 : Int)))) (15 : Int) < (16 : Int))) (.c (List.length (Option.getD (Go.Proofs.Ythocnaabefdokaa.g59v1 (↑(UInt8.toNat (List.getD [(48 : UInt8), (49 : UInt8), (50 : UInt8), (51 : UInt8), (52 : UInt8), (53 : UInt8), (54 : UInt8), (55 : UInt8), (56 : UInt8), (57 : UInt8), (65 : UInt8), (66 : UInt8), (67 : UInt8), (68 : UInt8), (69 : UInt8), (70 : UInt8)] (Int.toNat (Go.Cx.shrA Go.IntKind.u8 (Go.Cx.getI (List.getD x0 (Int.toNat i0) (Go.Cx.AV.int Go.IntKind.u8 (0 : Int)))) (4 : Int))) (0 : UInt8))) : Int) l0) []) == List.length (Option.getD (Go.Proofs.Ythocnaabefdokaa.g59v1 (↑(UInt8.toNat (List.getD [(48 : UInt8), (49 : UInt8), (50 : UInt8), (51 : UInt8), (52 : UInt8), (53 : UInt8), (54 : UInt8), (55 : UInt8), (56 : UInt8), (57 : UInt8), (65 : UInt8), (66 : UInt8), (67 : UInt8), (68 : UInt8), (69 : UInt8), (70 : UInt8)] (Int.toNat (Go.Cx.shrA Go.IntKind.u8 (Go.Cx.getI (List.getD x0 (Int.toNat i0) (Go.Cx.AV.int Go.IntKind.u8 (0 : Int)))) (4 : Int))) (0 : UInt8))) : Int) l0) [])) (.c (Option.isSome (Go.Proofs.Ythocnaabefdokaa.g59v1 (↑(UInt8.toNat (List.getD [(48 : UInt8), (49 : UInt8), (50 : UInt8), (51 : UInt8), (52 : UInt8), (53 : UInt8), (54 : UInt8), (55 : UInt8), (56 : UInt8), (57 : UInt8), (65 : UInt8), (66 : UInt8), (67 : UInt8), (68 : UInt8), (69 : UInt8), (70 : UInt8)] (Int.toNat (Go.Cx.bitsA Go.BinOp.and Go.IntKind.u8 (Go.Cx.getI (List.getD x0 (Int.toNat i0) (Go.Cx.AV.int Go.IntKind.u8 (0 : Int)))) (15 : Int))) (0 : UInt8))) : Int) (Option.getD (Go.Proofs.Ythocnaabefdokaa.g59v1 (↑(UInt8.toNat (List.getD [(48 : UInt8), (49 : UInt8), (50 : UInt8), (51 : UInt8), (52 : UInt8), (53 : UInt8), (54 : UInt8), (55 : UInt8), (56 : UInt8), (57 : UInt8), (65 : UInt8), (66 : UInt8), (67 : UInt8), (68 : UInt8), (69 : UInt8), (70 : UInt8)] (Int.toNat (Go.Cx.shrA Go.IntKind.u8 (Go.Cx.getI (List.getD x0 (Int.toNat i0) (Go.Cx.AV.int Go.IntKind.u8 (0 : Int)))) (4 : Int))) (0 : UInt8))) : Int) l0) []))) (.r (.inl (.inr ((Go.IntKind.wrap Go.IntKind.i64 (i0 + (1 : Int)), Option.getD (Go.Proofs.Ythocnaabefdokaa.g59v1 (↑(UInt8.toNat (List.getD [(48 : UInt8), (49 : UInt8), (50 : UInt8), (51 : UInt8), (52 : UInt8), (53 : UInt8), (54 : UInt8), (55 : UInt8), (56 : UInt8), (57 : UInt8), (65 : UInt8), (66 : UInt8), (67 : UInt8), (68 : UInt8), (69 : UInt8), (70 : UInt8)] (Int.toNat (Go.Cx.bitsA Go.BinOp.and Go.IntKind.u8 (Go.Cx.getI (List.getD x0 (Int.toNat i0) (Go.Cx.AV.int Go.IntKind.u8 (0 : Int)))) (15 : Int))) (0 : UInt8))) : Int) (Option.getD (Go.Proofs.Ythocnaabefdokaa.g59v1 (↑(UInt8.toNat (List.getD [(48 : UInt8), (49 : UInt8), (50 : UInt8), (51 : UInt8), (52 : UInt8), (53 : UInt8), (54 : UInt8), (55 : UInt8), (56 : UInt8), (57 : UInt8), (65 : UInt8), (66 : UInt8), (67 : UInt8), (68 : UInt8), (69 : UInt8), (70 : UInt8)] (Int.toNat (Go.Cx.shrA Go.IntKind.u8 (Go.Cx.getI (List.getD x0 (Int.toNat i0) (Go.Cx.AV.int Go.IntKind.u8 (0 : Int)))) (4 : Int))) (0 : UInt8))) : Int) l0) [])) []))))) .bad) .bad) .bad) .bad) .bad) .bad) .bad) .bad) .bad) (.c (List.length l0 == List.length l0) (.r (.inr (Go.Cx.bytesOf l0))) .bad))
noncomputable def g45 (x0 : List AV) : Option (List UInt8) := run (M45 x0) (T45 x0)
noncomputable def b45 := Try.f45.body.getD .skip
def st45_0 (x0 : List AV) : St := ⟨[Go.Cx.AV.junk, Go.Cx.AV.junk, Go.Cx.AV.junk, Go.Cx.AV.ptr (1 : Nat) (0 : Nat), Go.Cx.AV.junk, Go.Cx.AV.junk, Go.Cx.AV.slice (1 : Nat) (Go.Cx.Sh.int Go.IntKind.u8) x0 Go.Cx.SK.ro, Go.Cx.AV.int Go.IntKind.i64 (↑(List.length x0) : Int), Go.Cx.AV.int Go.IntKind.i64 (0 : Int), Go.Cx.AV.junk, Go.Cx.AV.junk, Go.Cx.AV.junk, Go.Cx.AV.junk, Go.Cx.AV.junk, Go.Cx.AV.junk, Go.Cx.AV.junk, Go.Cx.AV.junk, Go.Cx.AV.junk, Go.Cx.AV.junk, Go.Cx.AV.junk, Go.Cx.AV.junk, Go.Cx.AV.junk], [Go.Cx.Ob.grow (5 : Nat) (0 : Nat) (1 : Nat) (Go.Cx.Sh.int Go.IntKind.u8) [], Go.Cx.Ob.fix (92 : Nat) [Go.Cx.AV.nilptr, Go.Cx.AV.oslice (0 : Nat) (0 : Nat) (0 : Nat)]]⟩
def st45_1 (x0 : List AV) (i0 : Int) (l0 : List AV) : St := ⟨[Go.Cx.AV.junk, Go.Cx.AV.junk, Go.Cx.AV.junk, Go.Cx.AV.ptr (1 : Nat) (0 : Nat), Go.Cx.AV.junk, Go.Cx.AV.junk, Go.Cx.AV.slice (1 : Nat) (Go.Cx.Sh.int Go.IntKind.u8) x0 Go.Cx.SK.ro, Go.Cx.AV.int Go.IntKind.i64 (↑(List.length x0) : Int), Go.Cx.AV.int Go.IntKind.i64 i0, Go.Cx.AV.junk, Go.Cx.AV.junk, Go.Cx.AV.junk, Go.Cx.AV.junk, Go.Cx.AV.junk, Go.Cx.AV.junk, Go.Cx.AV.junk, Go.Cx.AV.junk, Go.Cx.AV.junk, Go.Cx.AV.junk, Go.Cx.AV.junk, Go.Cx.AV.junk, Go.Cx.AV.junk], [Go.Cx.Ob.grow (5 : Nat) (0 : Nat) (1 : Nat) (Go.Cx.Sh.int Go.IntKind.u8) l0, Go.Cx.Ob.fix (92 : Nat) [Go.Cx.AV.ptr (1 : Nat) (0 : Nat), Go.Cx.AV.oslice (0 : Nat) (0 : Nat) (List.length l0)]]⟩
noncomputable def L45 (x0 : List AV) (Rv : List UInt8 → Prop) : (Unit) ⊕ (Int × List AV) → Prop
  | .inl (()) => LP E45 (topLoop b45 0) 2 (contL E45 b45 0 (bodyK E45 Try.f45 (outP O45 fun ls => Rv (tup45 ls)))) (st45_0 x0)
  | .inr ((i0, l0)) => LP E45 (topLoop b45 0) 2 (contL E45 b45 0 (bodyK E45 Try.f45 (outP O45 fun ls => Rv (tup45 ls)))) (st45_1 x0 i0 l0)
set_option maxRecDepth 100000 in
theorem l45_0 (x0 : List AV) (Rv : List UInt8 → Prop) : wpA E45 (topLoop b45 0) (stepK 2 (E45.forget (firstRegion (topLoop b45 0))) (LP E45 (topLoop b45 0) 2 (contL E45 b45 0 (bodyK E45 Try.f45 (outP O45 fun ls => Rv (tup45 ls))))) (contL E45 b45 0 (bodyK E45 Try.f45 (outP O45 fun ls => Rv (tup45 ls))))) (st45_0 x0) =
  (M45 x0 (.inl (()))).fold False (Sum.elim (L45 x0 Rv) Rv) := by kernel_rfl
set_option maxRecDepth 100000 in
theorem l45_1 (x0 : List AV) (Rv : List UInt8 → Prop) (i0 : Int) (l0 : List AV) : wpA E45 (topLoop b45 0) (stepK 2 (E45.forget (firstRegion (topLoop b45 0))) (LP E45 (topLoop b45 0) 2 (contL E45 b45 0 (bodyK E45 Try.f45 (outP O45 fun ls => Rv (tup45 ls))))) (contL E45 b45 0 (bodyK E45 Try.f45 (outP O45 fun ls => Rv (tup45 ls))))) (st45_1 x0 i0 l0) =
  (M45 x0 (.inr ((i0, l0)))).fold False (Sum.elim (L45 x0 Rv) Rv) := by kernel_rfl
set_option maxRecDepth 100000 in
theorem c45 (ls : List AV) (Rv : List UInt8 → Prop) : callA E45 Try.f45 (instL ls P45 0) [] (outP O45 fun ls => Rv (tup45 ls)) = (T45 (getXs (ls.getD 0 .junk))).fold False (Sum.elim (L45 (getXs (ls.getD 0 .junk)) Rv) Rv) := by kernel_rfl
noncomputable def S45 : Go.Cx.Spec := pureS (patF P45 fun ls => opt (g45 (getXs (ls.getD 0 .junk))) fun x => .r (res45 x))
set_option maxRecDepth 100000 in
theorem S45_ok : Sound Try.prog 45 S45 :=
  pure_mach (E := E45) (TblOK.enK TYaG17t_ok _ _ _ _ _) mixed rfl Try.func45 (c := Try.f45.body.getD .skip) (by kernel_rfl) (by kernel_rfl) (pats := P45) (O := O45) (tup := tup45) (res := res45) (g := fun ls => g45 (getXs (ls.getD 0 .junk))) (T := fun ls => T45 (getXs (ls.getD 0 .junk))) (step := fun ls => M45 (getXs (ls.getD 0 .junk))) (L := fun ls => L45 (getXs (ls.getD 0 .junk))) (fun _ => rfl) (fun ls => by kernel_rfl) c45 (fun ls Rv s => match s with
    | .inl (()) => fun h => LP.unfold (Eq.mpr (l45_0 _ Rv) h)
    | .inr ((v0, v1)) => fun h => LP.unfold (Eq.mpr (l45_1 _ Rv v0 v1) h)
    )

noncomputable def TYaG18t : FuncId → Option Go.Cx.Spec := addT TYaG17t 45 S45
theorem TYaG18t_ok : TblOK Try.prog TYaG18t := TYaG17t_ok.add S45_ok

/- comptoir/comptoirlaw02.awake -/
noncomputable def E13 : En := enK Try.prog TYaG18t [] [] [] [] 0
def P13 : List Pat := []
def O13 : Pat := .leaf .bool
def tup13 : List AV → Bool := fun ls => getB (ls.getD 0 .junk)
def res13 : Bool → AV := fun x => .bool (x)
noncomputable def T13 : Tr (Bool) := (.c (Option.isSome (Go.Proofs.Ythocnaabefdokaa.g16 [(49 : UInt8), (50 : UInt8), (51 : UInt8)])) (.c (Prod.snd (Option.getD (Go.Proofs.Ythocnaabefdokaa.g16 [(49 : UInt8), (50 : UInt8), (51 : UInt8)]) Inhabited.default) == (0 : Int)) (.c (Go.Cx.bytesOf (Prod.fst (Option.getD (Go.Proofs.Ythocnaabefdokaa.g16 [(49 : UInt8), (50 : UInt8), (51 : UInt8)]) Inhabited.default)) == [(1 : UInt8), (35 : UInt8)]) (.c (Option.isSome (Go.Proofs.Ythocnaabefdokaa.g18 [(53 : UInt8)] (1 : Int) (1 : Int))) (.c (Option.getD (Go.Proofs.Ythocnaabefdokaa.g18 [(53 : UInt8)] (1 : Int) (1 : Int)) Bool.false) (.c (Option.isSome (Go.Proofs.Ythocnaabefdokaa.g45 [Go.Cx.AV.int Go.IntKind.u8 (171 : Int)])) (.r (Option.getD (Go.Proofs.Ythocnaabefdokaa.g45 [Go.Cx.AV.int Go.IntKind.u8 (171 : Int)]) [] == [(65 : UInt8), (66 : UInt8)])) .bad) (.r (Bool.false))) .bad) (.r (Bool.false))) (.r (Bool.false))) .bad)
noncomputable def g13 : Option (Bool) := (T13).val
set_option maxRecDepth 100000 in
theorem c13 (ls : List AV) (Rv : Bool → Prop) : callA E13 Try.f13 (instL ls P13 0) [] (outP O13 fun ls => Rv (tup13 ls)) = (T13).fold False Rv := by kernel_rfl
noncomputable def S13 : Go.Cx.Spec := pureS (patF P13 fun ls => opt (g13) fun x => .r (res13 x))
set_option maxRecDepth 100000 in
theorem S13_ok : Sound Try.prog 13 S13 :=
  pure_flat (E := E13) (TblOK.enK TYaG18t_ok _ _ _ _ _) mixed rfl Try.func13 (c := Try.f13.body.getD .skip) (by kernel_rfl) (by kernel_rfl) (pats := P13) (O := O13) (tup := tup13) (res := res13) (g := fun ls => g13) (T := fun ls => T13) (fun _ => rfl) (fun ls => by kernel_rfl) c13

noncomputable def TYaG19t : FuncId → Option Go.Cx.Spec := addT TYaG18t 13 S13
theorem TYaG19t_ok : TblOK Try.prog TYaG19t := TYaG18t_ok.add S13_ok

/- comptoir/digits.UnBcd -/
noncomputable def E14 : En := enK Try.prog TYaG19t [] [(6, ⟨[0, 1, 2, 3, 4, 5, 8, 9, 10, 11, 12, 13, 14, 15, 16, 17, 18, 19, 20, 21, 22, 23, 24, 28, 29, 30, 31, 32, 33, 34, 35, 36, 37, 38, 39, 40, 41, 42, 43, 44, 45, 46, 47, 48, 49, 50, 51, 52, 53, 54, 55, 56, 57, 58, 59, 60], [], []⟩)] [(6, [(7, 5, (.int .u8))])] [] 0
def P14 : List Pat := [.leaf (.slice 1 (.int .u8)), .leaf (.int .i64)]
def O14 : Pat := .tuple [.leaf .str, .leaf (.int .i64)]
def tup14 : List AV → List UInt8 × Int := fun ls => (getS (ls.getD 0 .junk), getI (ls.getD 1 .junk))
def res14 : List UInt8 × Int → AV := fun x => .tuple [.str (x.1), .int .i64 (x.2)]
noncomputable def T14 (x0 : List AV) (x1 : Int) : Tr ((Int × List AV) ⊕ (List UInt8 × Int)) := (.c (Decidable.decide (x1 < (0 : Int))) (.r (.inr (([], (1 : Int))))) (.c (Decidable.decide (Go.IntKind.wrap Go.IntKind.i64 (Go.IntKind.wrap Go.IntKind.i64 ((2 : Int) * (↑(List.length x0) : Int)) - x1) < (0 : Int))) (.r (.inr (([], (1 : Int))))) (.c (Decidable.decide (Go.IntKind.wrap Go.IntKind.i64 (Go.IntKind.wrap Go.IntKind.i64 ((2 : Int) * (↑(List.length x0) : Int)) - x1) > (1 : Int))) (.r (.inr (([], (1 : Int))))) (.r (.inl (((0 : Int), [])))))))
noncomputable def M14 (x0 : List AV) (x1 : Int) : Int × List AV → Tr ((Int × List AV) ⊕ (List UInt8 × Int))
  | (i0, l0) => (.c (Decidable.decide (i0 < (↑(List.length x0) : Int))) (.c (Decidable.decide ((0 : Int) ≤ i0)) (.c (Decidable.decide (i0 < (↑(List.length x0) : Int))) (.c (Decidable.decide (Go.Cx.shrA Go.IntKind.u8 (Go.Cx.getI (List.getD x0 (Int.toNat i0) (Go.Cx.AV.int Go.IntKind.u8 (0 : Int)))) (4 : Int) > (9 : Int))) (.r (.inr (([], (5 : Int))))) (.c (Decidable.decide (Go.Cx.bitsA Go.BinOp.and Go.IntKind.u8 (Go.Cx.getI (List.getD x0 (Int.toNat i0) (Go.Cx.AV.int Go.IntKind.u8 (0 : Int)))) (15 : Int) > (9 : Int))) (.r (.inr (([], (5 : Int))))) (.c (List.length l0 == List.length l0) (.c (Decidable.decide (List.length (l0 ++ [Go.Cx.AV.int Go.IntKind.u8 (Go.IntKind.wrap Go.IntKind.u8 ((48 : Int) + Go.Cx.shrA Go.IntKind.u8 (Go.Cx.getI (List.getD x0 (Int.toNat i0) (Go.Cx.AV.int Go.IntKind.u8 (0 : Int)))) (4 : Int))), Go.Cx.AV.int Go.IntKind.u8 (Go.IntKind.wrap Go.IntKind.u8 ((48 : Int) + Go.Cx.bitsA Go.BinOp.and Go.IntKind.u8 (Go.Cx.getI (List.getD x0 (Int.toNat i0) (Go.Cx.AV.int Go.IntKind.u8 (0 : Int)))) (15 : Int)))]) * (2 : Nat) < (70368744177664 : Nat))) (.r (.inl ((Go.IntKind.wrap Go.IntKind.i64 (i0 + (1 : Int)), l0 ++ [Go.Cx.AV.int Go.IntKind.u8 (Go.IntKind.wrap Go.IntKind.u8 ((48 : Int) + Go.Cx.shrA Go.IntKind.u8 (Go.Cx.getI (List.getD x0 (Int.toNat i0) (Go.Cx.AV.int Go.IntKind.u8 (0 : Int)))) (4 : Int))), Go.Cx.AV.int Go.IntKind.u8 (Go.IntKind.wrap Go.IntKind.u8 ((48 : Int) + Go.Cx.bitsA Go.BinOp.and Go.IntKind.u8 (Go.Cx.getI (List.getD x0 (Int.toNat i0) (Go.Cx.AV.int Go.IntKind.u8 (0 : Int)))) (15 : Int)))])))) .bad) .bad))) .bad) .bad) (.c (Go.IntKind.wrap Go.IntKind.i64 (Go.IntKind.wrap Go.IntKind.i64 ((2 : Int) * (↑(List.length x0) : Int)) - x1) == (1 : Int)) (.c (Decidable.decide ((0 : Int) < (↑(List.length l0) : Int))) (.c (List.length l0 == List.length l0) (.c (Decidable.decide ((0 : Nat) < List.length l0)) (.c (Go.Cx.getI (List.getD l0 (0 : Nat) (Go.Cx.AV.int Go.IntKind.u8 (0 : Int))) != (48 : Int)) (.r (.inr (([], (5 : Int))))) (.c (List.length l0 == List.length l0) (.c (Decidable.decide ((↑(List.length l0) : Int) ≤ (↑(List.length l0) : Int))) (.c (Decidable.decide ((0 : Int) ≤ Go.IntKind.wrap Go.IntKind.i64 (Go.IntKind.wrap Go.IntKind.i64 ((2 : Int) * (↑(List.length x0) : Int)) - x1))) (.c (Decidable.decide (Go.IntKind.wrap Go.IntKind.i64 (Go.IntKind.wrap Go.IntKind.i64 ((2 : Int) * (↑(List.length x0) : Int)) - x1) ≤ (↑(List.length l0) : Int))) (.r (.inr ((Go.Cx.bytesOf (List.drop (Int.toNat (Go.IntKind.wrap Go.IntKind.i64 (Go.IntKind.wrap Go.IntKind.i64 ((2 : Int) * (↑(List.length x0) : Int)) - x1))) (List.take (List.length l0) l0)), (0 : Int))))) .bad) .bad) .bad) .bad)) .bad) .bad) .bad) (.c (List.length l0 == List.length l0) (.c (Decidable.decide ((↑(List.length l0) : Int) ≤ (↑(List.length l0) : Int))) (.c (Decidable.decide ((0 : Int) ≤ Go.IntKind.wrap Go.IntKind.i64 (Go.IntKind.wrap Go.IntKind.i64 ((2 : Int) * (↑(List.length x0) : Int)) - x1))) (.c (Decidable.decide (Go.IntKind.wrap Go.IntKind.i64 (Go.IntKind.wrap Go.IntKind.i64 ((2 : Int) * (↑(List.length x0) : Int)) - x1) ≤ (↑(List.length l0) : Int))) (.r (.inr ((Go.Cx.bytesOf (List.drop (Int.toNat (Go.IntKind.wrap Go.IntKind.i64 (Go.IntKind.wrap Go.IntKind.i64 ((2 : Int) * (↑(List.length x0) : Int)) - x1))) (List.take (List.length l0) l0)), (0 : Int))))) .bad) .bad) .bad) .bad)))
noncomputable def g14 (x0 : List AV) (x1 : Int) : Option (List UInt8 × Int) := run (M14 x0 x1) (T14 x0 x1)
noncomputable def b14 := Try.f14.body.getD .skip
def st14_0 (x0 : List AV) (x1 : Int) (i0 : Int) (l0 : List AV) : St := ⟨[Go.Cx.AV.junk, Go.Cx.AV.junk, Go.Cx.AV.junk, Go.Cx.AV.junk, Go.Cx.AV.junk, Go.Cx.AV.junk, Go.Cx.AV.int Go.IntKind.i64 (Go.IntKind.wrap Go.IntKind.i64 (Go.IntKind.wrap Go.IntKind.i64 ((2 : Int) * (↑(List.length x0) : Int)) - x1)), Go.Cx.AV.oslice (0 : Nat) (0 : Nat) (List.length l0), Go.Cx.AV.junk, Go.Cx.AV.junk, Go.Cx.AV.junk, Go.Cx.AV.junk, Go.Cx.AV.junk, Go.Cx.AV.junk, Go.Cx.AV.junk, Go.Cx.AV.junk, Go.Cx.AV.junk, Go.Cx.AV.junk, Go.Cx.AV.junk, Go.Cx.AV.junk, Go.Cx.AV.junk, Go.Cx.AV.junk, Go.Cx.AV.junk, Go.Cx.AV.junk, Go.Cx.AV.junk, Go.Cx.AV.slice (1 : Nat) (Go.Cx.Sh.int Go.IntKind.u8) x0 Go.Cx.SK.ro, Go.Cx.AV.int Go.IntKind.i64 (↑(List.length x0) : Int), Go.Cx.AV.int Go.IntKind.i64 i0, Go.Cx.AV.junk, Go.Cx.AV.junk, Go.Cx.AV.junk, Go.Cx.AV.junk, Go.Cx.AV.junk, Go.Cx.AV.junk, Go.Cx.AV.junk, Go.Cx.AV.junk, Go.Cx.AV.junk, Go.Cx.AV.junk, Go.Cx.AV.junk, Go.Cx.AV.junk, Go.Cx.AV.junk, Go.Cx.AV.junk, Go.Cx.AV.junk, Go.Cx.AV.junk, Go.Cx.AV.junk, Go.Cx.AV.junk, Go.Cx.AV.junk, Go.Cx.AV.junk, Go.Cx.AV.junk, Go.Cx.AV.junk, Go.Cx.AV.junk, Go.Cx.AV.junk, Go.Cx.AV.junk, Go.Cx.AV.junk, Go.Cx.AV.junk, Go.Cx.AV.junk, Go.Cx.AV.junk, Go.Cx.AV.junk, Go.Cx.AV.junk, Go.Cx.AV.junk, Go.Cx.AV.junk], [Go.Cx.Ob.grow (5 : Nat) (0 : Nat) (1 : Nat) (Go.Cx.Sh.int Go.IntKind.u8) l0]⟩
noncomputable def L14 (x0 : List AV) (x1 : Int) (Rv : List UInt8 × Int → Prop) : Int × List AV → Prop
  | (i0, l0) => LP E14 (topLoop b14 0) 1 (contL E14 b14 0 (bodyK E14 Try.f14 (outP O14 fun ls => Rv (tup14 ls)))) (st14_0 x0 x1 i0 l0)
set_option maxRecDepth 100000 in
theorem l14_0 (x0 : List AV) (x1 : Int) (Rv : List UInt8 × Int → Prop) (i0 : Int) (l0 : List AV) : wpA E14 (topLoop b14 0) (stepK 1 (E14.forget (firstRegion (topLoop b14 0))) (LP E14 (topLoop b14 0) 1 (contL E14 b14 0 (bodyK E14 Try.f14 (outP O14 fun ls => Rv (tup14 ls))))) (contL E14 b14 0 (bodyK E14 Try.f14 (outP O14 fun ls => Rv (tup14 ls))))) (st14_0 x0 x1 i0 l0) =
  (M14 x0 x1 ((i0, l0))).fold False (Sum.elim (L14 x0 x1 Rv) Rv) := by kernel_rfl
set_option maxRecDepth 100000 in
theorem c14 (ls : List AV) (Rv : List UInt8 × Int → Prop) : callA E14 Try.f14 (instL ls P14 0) [] (outP O14 fun ls => Rv (tup14 ls)) = (T14 (getXs (ls.getD 0 .junk)) (getI (ls.getD 1 .junk))).fold False (Sum.elim (L14 (getXs (ls.getD 0 .junk)) (getI (ls.getD 1 .junk)) Rv) Rv) := by kernel_rfl
noncomputable def S14 : Go.Cx.Spec := pureS (patF P14 fun ls => opt (g14 (getXs (ls.getD 0 .junk)) (getI (ls.getD 1 .junk))) fun x => .r (res14 x))
set_option maxRecDepth 100000 in
theorem S14_ok : Sound Try.prog 14 S14 :=
  pure_mach (E := E14) (TblOK.enK TYaG19t_ok _ _ _ _ _) mixed rfl Try.func14 (c := Try.f14.body.getD .skip) (by kernel_rfl) (by kernel_rfl) (pats := P14) (O := O14) (tup := tup14) (res := res14) (g := fun ls => g14 (getXs (ls.getD 0 .junk)) (getI (ls.getD 1 .junk))) (T := fun ls => T14 (getXs (ls.getD 0 .junk)) (getI (ls.getD 1 .junk))) (step := fun ls => M14 (getXs (ls.getD 0 .junk)) (getI (ls.getD 1 .junk))) (L := fun ls => L14 (getXs (ls.getD 0 .junk)) (getI (ls.getD 1 .junk))) (fun _ => rfl) (fun ls => by kernel_rfl) c14 (fun ls Rv s => match s with
    | (v0, v1) => fun h => LP.unfold (Eq.mpr (l14_0 _ _ Rv v0 v1) h)
    )

noncomputable def TYaG110t : FuncId → Option Go.Cx.Spec := addT TYaG19t 14 S14
theorem TYaG110t_ok : TblOK Try.prog TYaG110t := TYaG19t_ok.add S14_ok

/- comptoir/comptoirlaw02.DigitsHalves -/
noncomputable def E3 : En := enK Try.prog TYaG110t [] [(5, ⟨[1, 2, 5, 6, 7, 8, 9, 10, 11, 12, 13, 14, 15, 16, 17, 18, 19, 20, 21, 22, 23, 24, 25, 26, 27, 28, 29, 30, 31, 32, 33, 34, 35, 36, 37, 38, 39, 40, 41, 42, 43, 44, 45, 46, 47, 48, 49, 50, 51, 52, 53, 54, 55, 56, 57, 58, 59, 60, 61, 62, 63, 64, 65, 66, 67, 68, 69, 70, 71, 72, 73, 74, 75, 76, 77, 78, 79, 80, 81, 82, 83, 84, 85, 86, 87, 88, 89, 90, 91, 92, 93, 94, 95, 96, 97, 98, 99, 100, 101, 102, 103, 104, 105, 106, 107, 108, 109, 110, 111, 112, 113, 114, 115, 116, 117, 118, 119], [], []⟩)] [] [] 0
def P3 : List Pat := [.leaf (.slice 1 (.int .u8))]
def O3 : Pat := .leaf .bool
def tup3 : List AV → Bool := fun ls => getB (ls.getD 0 .junk)
def res3 : Bool → AV := fun x => .bool (x)
noncomputable def T3 (x0 : List AV) : Tr ((Bool × Int) ⊕ (Bool)) := (.c (Decidable.decide ((↑(List.length x0) : Int) < (1 : Int))) (.c (Option.isSome Go.Proofs.Ythocnaabefdokaa.g13) (.r (.inr (Option.getD Go.Proofs.Ythocnaabefdokaa.g13 Bool.false))) .bad) (.c (Decidable.decide ((↑(List.length x0) : Int) > (100 : Int))) (.c (Option.isSome Go.Proofs.Ythocnaabefdokaa.g13) (.r (.inr (Option.getD Go.Proofs.Ythocnaabefdokaa.g13 Bool.false))) .bad) (.r (.inl ((Bool.true, (0 : Int)))))))
noncomputable def M3 (x0 : List AV) : Bool × Int → Tr ((Bool × Int) ⊕ (Bool))
  | (b0, i0) => (.c (Decidable.decide (i0 < (↑(List.length x0) : Int))) (.c (b0) (.c (Decidable.decide ((0 : Int) ≤ i0)) (.c (Decidable.decide (i0 < (↑(List.length x0) : Int))) (.c (Decidable.decide (Go.Cx.shrA Go.IntKind.u8 (Go.Cx.getI (List.getD x0 (Int.toNat i0) (Go.Cx.AV.int Go.IntKind.u8 (0 : Int)))) (4 : Int) < (10 : Int))) (.c (Decidable.decide ((0 : Int) ≤ i0)) (.c (Decidable.decide (i0 < (↑(List.length x0) : Int))) (.r (.inl ((Decidable.decide (Go.Cx.bitsA Go.BinOp.and Go.IntKind.u8 (Go.Cx.getI (List.getD x0 (Int.toNat i0) (Go.Cx.AV.int Go.IntKind.u8 (0 : Int)))) (15 : Int) < (10 : Int)), Go.IntKind.wrap Go.IntKind.i64 (i0 + (1 : Int)))))) .bad) .bad) (.r (.inl ((Bool.false, Go.IntKind.wrap Go.IntKind.i64 (i0 + (1 : Int))))))) .bad) .bad) (.r (.inl ((Bool.false, Go.IntKind.wrap Go.IntKind.i64 (i0 + (1 : Int))))))) (.c (Option.isSome (Go.Proofs.Ythocnaabefdokaa.g14 x0 (Go.IntKind.wrap Go.IntKind.i64 ((2 : Int) * (↑(List.length x0) : Int))))) (.c (Option.isSome (Go.Proofs.Ythocnaabefdokaa.g14 x0 (Go.IntKind.wrap Go.IntKind.i64 (Go.IntKind.wrap Go.IntKind.i64 ((2 : Int) * (↑(List.length x0) : Int)) - (1 : Int))))) (.c (Option.isSome (Go.Proofs.Ythocnaabefdokaa.g14 x0 (Go.IntKind.wrap Go.IntKind.i64 (Go.IntKind.wrap Go.IntKind.i64 ((2 : Int) * (↑(List.length x0) : Int)) + (1 : Int))))) (.c (Option.isSome (Go.Proofs.Ythocnaabefdokaa.g14 x0 (Go.IntKind.wrap Go.IntKind.i64 (Go.IntKind.wrap Go.IntKind.i64 ((2 : Int) * (↑(List.length x0) : Int)) - (2 : Int))))) (.c (b0) (.c (Decidable.decide ((0 : Int) < (↑(List.length x0) : Int))) (.c (Option.isSome Go.Proofs.Ythocnaabefdokaa.g13) (.c (Option.getD Go.Proofs.Ythocnaabefdokaa.g13 Bool.false) (.c ((Prod.snd (Option.getD (Go.Proofs.Ythocnaabefdokaa.g14 x0 (Go.IntKind.wrap Go.IntKind.i64 ((2 : Int) * (↑(List.length x0) : Int)))) Inhabited.default) == (0 : Int)) == b0) (.c ((Prod.snd (Option.getD (Go.Proofs.Ythocnaabefdokaa.g14 x0 (Go.IntKind.wrap Go.IntKind.i64 (Go.IntKind.wrap Go.IntKind.i64 ((2 : Int) * (↑(List.length x0) : Int)) - (1 : Int)))) Inhabited.default) == (0 : Int)) == (Go.Cx.shrA Go.IntKind.u8 (Go.Cx.getI (List.getD x0 (0 : Nat) (Go.Cx.AV.int Go.IntKind.u8 (0 : Int)))) (4 : Int) == (0 : Int))) (.c (!Go.Cx.shrA Go.IntKind.u8 (Go.Cx.getI (List.getD x0 (0 : Nat) (Go.Cx.AV.int Go.IntKind.u8 (0 : Int)))) (4 : Int) == (0 : Int)) (.c (Prod.snd (Option.getD (Go.Proofs.Ythocnaabefdokaa.g14 x0 (Go.IntKind.wrap Go.IntKind.i64 (Go.IntKind.wrap Go.IntKind.i64 ((2 : Int) * (↑(List.length x0) : Int)) + (1 : Int)))) Inhabited.default) == (1 : Int)) (.r (.inr (Prod.snd (Option.getD (Go.Proofs.Ythocnaabefdokaa.g14 x0 (Go.IntKind.wrap Go.IntKind.i64 (Go.IntKind.wrap Go.IntKind.i64 ((2 : Int) * (↑(List.length x0) : Int)) - (2 : Int)))) Inhabited.default) == (1 : Int)))) (.r (.inr (Bool.false)))) (.c (Decidable.decide ((1 : Nat) + List.length (Prod.fst (Option.getD (Go.Proofs.Ythocnaabefdokaa.g14 x0 (Go.IntKind.wrap Go.IntKind.i64 (Go.IntKind.wrap Go.IntKind.i64 ((2 : Int) * (↑(List.length x0) : Int)) - (1 : Int)))) Inhabited.default)) < (70368744177664 : Nat))) (.c (Prod.fst (Option.getD (Go.Proofs.Ythocnaabefdokaa.g14 x0 (Go.IntKind.wrap Go.IntKind.i64 ((2 : Int) * (↑(List.length x0) : Int)))) Inhabited.default) == [(48 : UInt8)] ++ Prod.fst (Option.getD (Go.Proofs.Ythocnaabefdokaa.g14 x0 (Go.IntKind.wrap Go.IntKind.i64 (Go.IntKind.wrap Go.IntKind.i64 ((2 : Int) * (↑(List.length x0) : Int)) - (1 : Int)))) Inhabited.default)) (.c (Prod.snd (Option.getD (Go.Proofs.Ythocnaabefdokaa.g14 x0 (Go.IntKind.wrap Go.IntKind.i64 (Go.IntKind.wrap Go.IntKind.i64 ((2 : Int) * (↑(List.length x0) : Int)) + (1 : Int)))) Inhabited.default) == (1 : Int)) (.r (.inr (Prod.snd (Option.getD (Go.Proofs.Ythocnaabefdokaa.g14 x0 (Go.IntKind.wrap Go.IntKind.i64 (Go.IntKind.wrap Go.IntKind.i64 ((2 : Int) * (↑(List.length x0) : Int)) - (2 : Int)))) Inhabited.default) == (1 : Int)))) (.r (.inr (Bool.false)))) (.r (.inr (Bool.false)))) .bad)) (.r (.inr (Bool.false)))) (.r (.inr (Bool.false)))) (.r (.inr (Bool.false)))) .bad) .bad) (.c (Option.isSome Go.Proofs.Ythocnaabefdokaa.g13) (.c (Option.getD Go.Proofs.Ythocnaabefdokaa.g13 Bool.false) (.c ((Prod.snd (Option.getD (Go.Proofs.Ythocnaabefdokaa.g14 x0 (Go.IntKind.wrap Go.IntKind.i64 ((2 : Int) * (↑(List.length x0) : Int)))) Inhabited.default) == (0 : Int)) == b0) (.c ((Prod.snd (Option.getD (Go.Proofs.Ythocnaabefdokaa.g14 x0 (Go.IntKind.wrap Go.IntKind.i64 (Go.IntKind.wrap Go.IntKind.i64 ((2 : Int) * (↑(List.length x0) : Int)) - (1 : Int)))) Inhabited.default) == (0 : Int)) == Bool.false) (.c (Prod.snd (Option.getD (Go.Proofs.Ythocnaabefdokaa.g14 x0 (Go.IntKind.wrap Go.IntKind.i64 (Go.IntKind.wrap Go.IntKind.i64 ((2 : Int) * (↑(List.length x0) : Int)) + (1 : Int)))) Inhabited.default) == (1 : Int)) (.r (.inr (Prod.snd (Option.getD (Go.Proofs.Ythocnaabefdokaa.g14 x0 (Go.IntKind.wrap Go.IntKind.i64 (Go.IntKind.wrap Go.IntKind.i64 ((2 : Int) * (↑(List.length x0) : Int)) - (2 : Int)))) Inhabited.default) == (1 : Int)))) (.r (.inr (Bool.false)))) (.r (.inr (Bool.false)))) (.r (.inr (Bool.false)))) (.r (.inr (Bool.false)))) .bad)) .bad) .bad) .bad) .bad))
noncomputable def g3 (x0 : List AV) : Option (Bool) := run (M3 x0) (T3 x0)
noncomputable def b3 := Try.f3.body.getD .skip
def st3_0 (x0 : List AV) (b0 : Bool) (i0 : Int) : St := ⟨[Go.Cx.AV.slice (1 : Nat) (Go.Cx.Sh.int Go.IntKind.u8) x0 Go.Cx.SK.ro, Go.Cx.AV.junk, Go.Cx.AV.junk, Go.Cx.AV.bool b0, Go.Cx.AV.int Go.IntKind.i64 i0, Go.Cx.AV.junk, Go.Cx.AV.junk, Go.Cx.AV.junk, Go.Cx.AV.junk, Go.Cx.AV.junk, Go.Cx.AV.junk, Go.Cx.AV.junk, Go.Cx.AV.junk, Go.Cx.AV.junk, Go.Cx.AV.junk, Go.Cx.AV.junk, Go.Cx.AV.junk, Go.Cx.AV.junk, Go.Cx.AV.junk, Go.Cx.AV.junk, Go.Cx.AV.junk, Go.Cx.AV.junk, Go.Cx.AV.junk, Go.Cx.AV.junk, Go.Cx.AV.junk, Go.Cx.AV.junk, Go.Cx.AV.junk, Go.Cx.AV.junk, Go.Cx.AV.junk, Go.Cx.AV.junk, Go.Cx.AV.junk, Go.Cx.AV.junk, Go.Cx.AV.junk, Go.Cx.AV.junk, Go.Cx.AV.junk, Go.Cx.AV.junk, Go.Cx.AV.junk, Go.Cx.AV.junk, Go.Cx.AV.junk, Go.Cx.AV.junk, Go.Cx.AV.junk, Go.Cx.AV.junk, Go.Cx.AV.junk, Go.Cx.AV.junk, Go.Cx.AV.junk, Go.Cx.AV.junk, Go.Cx.AV.junk, Go.Cx.AV.junk, Go.Cx.AV.junk, Go.Cx.AV.junk, Go.Cx.AV.junk, Go.Cx.AV.junk, Go.Cx.AV.junk, Go.Cx.AV.junk, Go.Cx.AV.junk, Go.Cx.AV.junk, Go.Cx.AV.junk, Go.Cx.AV.junk, Go.Cx.AV.junk, Go.Cx.AV.junk, Go.Cx.AV.junk, Go.Cx.AV.junk, Go.Cx.AV.junk, Go.Cx.AV.junk, Go.Cx.AV.junk, Go.Cx.AV.junk, Go.Cx.AV.junk, Go.Cx.AV.junk, Go.Cx.AV.junk, Go.Cx.AV.junk, Go.Cx.AV.junk, Go.Cx.AV.junk, Go.Cx.AV.junk, Go.Cx.AV.junk, Go.Cx.AV.junk, Go.Cx.AV.junk, Go.Cx.AV.junk, Go.Cx.AV.junk, Go.Cx.AV.junk, Go.Cx.AV.junk, Go.Cx.AV.junk, Go.Cx.AV.junk, Go.Cx.AV.junk, Go.Cx.AV.junk, Go.Cx.AV.junk, Go.Cx.AV.junk, Go.Cx.AV.junk, Go.Cx.AV.junk, Go.Cx.AV.junk, Go.Cx.AV.junk, Go.Cx.AV.junk, Go.Cx.AV.junk, Go.Cx.AV.junk, Go.Cx.AV.junk, Go.Cx.AV.junk, Go.Cx.AV.junk, Go.Cx.AV.junk, Go.Cx.AV.junk, Go.Cx.AV.junk, Go.Cx.AV.junk, Go.Cx.AV.junk, Go.Cx.AV.junk, Go.Cx.AV.junk, Go.Cx.AV.junk, Go.Cx.AV.junk, Go.Cx.AV.junk, Go.Cx.AV.junk, Go.Cx.AV.junk, Go.Cx.AV.junk, Go.Cx.AV.junk, Go.Cx.AV.junk, Go.Cx.AV.junk, Go.Cx.AV.junk, Go.Cx.AV.junk, Go.Cx.AV.junk, Go.Cx.AV.junk, Go.Cx.AV.junk, Go.Cx.AV.junk, Go.Cx.AV.junk, Go.Cx.AV.junk], []⟩
noncomputable def L3 (x0 : List AV) (Rv : Bool → Prop) : Bool × Int → Prop
  | (b0, i0) => LP E3 (topLoop b3 0) 0 (contL E3 b3 0 (bodyK E3 Try.f3 (outP O3 fun ls => Rv (tup3 ls)))) (st3_0 x0 b0 i0)
set_option maxRecDepth 100000 in
theorem l3_0 (x0 : List AV) (Rv : Bool → Prop) (b0 : Bool) (i0 : Int) : wpA E3 (topLoop b3 0) (stepK 0 (E3.forget (firstRegion (topLoop b3 0))) (LP E3 (topLoop b3 0) 0 (contL E3 b3 0 (bodyK E3 Try.f3 (outP O3 fun ls => Rv (tup3 ls))))) (contL E3 b3 0 (bodyK E3 Try.f3 (outP O3 fun ls => Rv (tup3 ls))))) (st3_0 x0 b0 i0) =
  (M3 x0 ((b0, i0))).fold False (Sum.elim (L3 x0 Rv) Rv) := by kernel_rfl
set_option maxRecDepth 100000 in
theorem c3 (ls : List AV) (Rv : Bool → Prop) : callA E3 Try.f3 (instL ls P3 0) [] (outP O3 fun ls => Rv (tup3 ls)) = (T3 (getXs (ls.getD 0 .junk))).fold False (Sum.elim (L3 (getXs (ls.getD 0 .junk)) Rv) Rv) := by kernel_rfl

end Go.Proofs.Ythocnaabefdokaa
