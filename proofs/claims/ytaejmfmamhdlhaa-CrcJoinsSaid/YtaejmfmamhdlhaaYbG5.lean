/- Printed: what the functions that a statement reaches come to. -/
import Derived.Test.YtaejmfmamhdlhaaYbB
namespace Go.Proofs.Ytaejmfmamhdlhaa
open Go.Cx Go.Cx.AV
set_option linter.unusedVariables false
/- (*comptoir/crc.sum).step -/
noncomputable def E_crc_sum_step_p050 : En := enK Try.prog T0t [] [(2, ⟨[1, 2, 3, 4, 5, 6, 7, 8, 9, 10, 11, 12, 13, 15, 16, 17, 18, 19, 20, 21, 22, 23, 24, 25, 26, 27, 28, 29, 30, 31, 32, 33, 34, 35, 36, 37], [], [], none, [], []⟩)] [] [] 1
def P_crc_sum_step_p050 : List Pat := [.lit (.ptr 0 0), .leaf (.int .u8)]
def Q_crc_sum_step_p050 : List OPat := [.fix 63 [.leaf (.int .u32)]]
def O_crc_sum_step_p050 : Pat := .tuple []
def OO_crc_sum_step_p050 : List OPat := [.fix 63 [.leaf (.int .u32)]]
def tup_crc_sum_step_p050 : List AV → Int := fun ls => getI (ls.getD 0 .junk)
def res_crc_sum_step_p050 : Int → AV × List Ob := fun x => (.tuple [], [.fix 63 [.int .u32 (x)]])
noncomputable def T_crc_sum_step_p050 (x0 : Int) (x1 : Int) : Tr ((Int × Int) ⊕ (Int)) := (.r (.inl (((0 : Int), Go.Cx.bitsA Go.BinOp.xor Go.IntKind.u32 x1 (Go.IntKind.wrap Go.IntKind.u32 x0)))))
noncomputable def M_crc_sum_step_p050 (x0 : Int) (x1 : Int) : Int × Int → Tr ((Int × Int) ⊕ (Int))
  | (i0, i1) => (.c (Decidable.decide (i0 < (8 : Int))) (.c (Go.Cx.bitsA Go.BinOp.and Go.IntKind.u32 i1 (1 : Int) == (1 : Int)) (.r (.inl ((Go.IntKind.wrap Go.IntKind.i64 (i0 + (1 : Int)), Go.Cx.bitsA Go.BinOp.xor Go.IntKind.u32 (Go.Cx.shrA Go.IntKind.u32 i1 (1 : Int)) (3988292384 : Int))))) (.r (.inl ((Go.IntKind.wrap Go.IntKind.i64 (i0 + (1 : Int)), Go.Cx.shrA Go.IntKind.u32 i1 (1 : Int)))))) (.r (.inr (i1))))
noncomputable def g_crc_sum_step_p050 (x0 : Int) (x1 : Int) : Option (Int) := run (M_crc_sum_step_p050 x0 x1) (T_crc_sum_step_p050 x0 x1)
noncomputable def b_crc_sum_step_p050 := Try.f40.body.getD .skip
noncomputable def st_crc_sum_step_p050_0 (x0 : Int) (x1 : Int) (i0 : Int) (i1 : Int) : St := ⟨[Go.Cx.AV.ptr (0 : Nat) (0 : Nat), Go.Cx.AV.junk, Go.Cx.AV.junk, Go.Cx.AV.junk, Go.Cx.AV.junk, Go.Cx.AV.junk, Go.Cx.AV.junk, Go.Cx.AV.junk, Go.Cx.AV.junk, Go.Cx.AV.junk, Go.Cx.AV.junk, Go.Cx.AV.junk, Go.Cx.AV.junk, Go.Cx.AV.junk, Go.Cx.AV.int Go.IntKind.i64 i0, Go.Cx.AV.junk, Go.Cx.AV.junk, Go.Cx.AV.junk, Go.Cx.AV.junk, Go.Cx.AV.junk, Go.Cx.AV.junk, Go.Cx.AV.junk, Go.Cx.AV.junk, Go.Cx.AV.junk, Go.Cx.AV.junk, Go.Cx.AV.junk, Go.Cx.AV.junk, Go.Cx.AV.junk, Go.Cx.AV.junk, Go.Cx.AV.junk, Go.Cx.AV.junk, Go.Cx.AV.junk, Go.Cx.AV.junk, Go.Cx.AV.junk, Go.Cx.AV.junk, Go.Cx.AV.junk, Go.Cx.AV.junk, Go.Cx.AV.junk], [Go.Cx.Ob.fix (63 : Nat) [Go.Cx.AV.int Go.IntKind.u32 i1]]⟩
noncomputable def L_crc_sum_step_p050 (x0 : Int) (x1 : Int) (Rv : Int → Prop) : Int × Int → Prop
  | (i0, i1) => headL E_crc_sum_step_p050 [.r, .r, .d] b_crc_sum_step_p050 1 (bodyK E_crc_sum_step_p050 Try.f40 (outH O_crc_sum_step_p050 OO_crc_sum_step_p050 fun ls => Rv (tup_crc_sum_step_p050 ls))) (st_crc_sum_step_p050_0 x0 x1 i0 i1)
set_option maxRecDepth 100000 in
theorem l_crc_sum_step_p050_0 (x0 : Int) (x1 : Int) (Rv : Int → Prop) (i0 : Int) (i1 : Int) : stepL E_crc_sum_step_p050 [.r, .r, .d] b_crc_sum_step_p050 1 (bodyK E_crc_sum_step_p050 Try.f40 (outH O_crc_sum_step_p050 OO_crc_sum_step_p050 fun ls => Rv (tup_crc_sum_step_p050 ls))) (st_crc_sum_step_p050_0 x0 x1 i0 i1) =
  (M_crc_sum_step_p050 x0 x1 ((i0, i1))).fold False (Sum.elim (L_crc_sum_step_p050 x0 x1 Rv) Rv) := by kernel_rfl
set_option maxRecDepth 100000 in
theorem e_crc_sum_step_p050_0 (x0 : Int) (x1 : Int) (Rv : Int → Prop) (i0 : Int) (i1 : Int) : L_crc_sum_step_p050 x0 x1 Rv ((i0, i1)) = headL E_crc_sum_step_p050 [.r, .r, .d] b_crc_sum_step_p050 1 (bodyK E_crc_sum_step_p050 Try.f40 (outH O_crc_sum_step_p050 OO_crc_sum_step_p050 fun ls => Rv (tup_crc_sum_step_p050 ls))) (st_crc_sum_step_p050_0 x0 x1 i0 i1) := by kernel_rfl
section
attribute [local irreducible] Tr.fold M_crc_sum_step_p050 L_crc_sum_step_p050 T_crc_sum_step_p050 E_crc_sum_step_p050 b_crc_sum_step_p050 bodyK headC headL stepC stepL wpX callA
set_option maxRecDepth 100000 in
theorem h_crc_sum_step_p050 (x0 : Int) (x1 : Int) (Rv : Int → Prop) : ∀ s, (M_crc_sum_step_p050 x0 x1 s).fold False (Sum.elim (L_crc_sum_step_p050 x0 x1 Rv) Rv) → L_crc_sum_step_p050 x0 x1 Rv s := by
  rintro (⟨v0, v1⟩)
  · exact fun h => Eq.mpr (e_crc_sum_step_p050_0 x0 x1 Rv v0 v1) (headL_of (Eq.mpr (l_crc_sum_step_p050_0 x0 x1 Rv v0 v1) h))
set_option maxRecDepth 100000 in
theorem c_crc_sum_step_p050 (ls : List AV) (Rv : Int → Prop) : callA E_crc_sum_step_p050 Try.f40 (instL ls P_crc_sum_step_p050 0) (instH ls Q_crc_sum_step_p050 1) (outH O_crc_sum_step_p050 OO_crc_sum_step_p050 fun ls => Rv (tup_crc_sum_step_p050 ls)) = (T_crc_sum_step_p050 (getI (ls.getD 0 .junk)) (getI (ls.getD 1 .junk))).fold False (Sum.elim (L_crc_sum_step_p050 (getI (ls.getD 0 .junk)) (getI (ls.getD 1 .junk)) Rv) Rv) := by kernel_rfl
end
noncomputable def S_crc_sum_step_p050 : Go.Cx.Spec := heapS (patH P_crc_sum_step_p050 Q_crc_sum_step_p050 fun ls => opt (g_crc_sum_step_p050 (getI (ls.getD 0 .junk)) (getI (ls.getD 1 .junk))) fun x => .r (res_crc_sum_step_p050 x))
set_option maxRecDepth 100000 in
theorem S_crc_sum_step_p050_ok : Sound Try.prog 40 S_crc_sum_step_p050 :=
  heap_mach (E := E_crc_sum_step_p050) (TblOK.enK T0t_ok _ _ _ _ _) mixed Try.func40 (c := Try.f40.body.getD .skip) (by kernel_rfl) (by kernel_rfl) (by decide) (pats := P_crc_sum_step_p050) (ops := Q_crc_sum_step_p050) (OO := OO_crc_sum_step_p050) (O := O_crc_sum_step_p050) (tup := tup_crc_sum_step_p050) (res := res_crc_sum_step_p050) (g := fun ls => g_crc_sum_step_p050 (getI (ls.getD 0 .junk)) (getI (ls.getD 1 .junk))) (T := fun ls => T_crc_sum_step_p050 (getI (ls.getD 0 .junk)) (getI (ls.getD 1 .junk))) (step := fun ls => M_crc_sum_step_p050 (getI (ls.getD 0 .junk)) (getI (ls.getD 1 .junk))) (L := fun ls => L_crc_sum_step_p050 (getI (ls.getD 0 .junk)) (getI (ls.getD 1 .junk))) (fun _ => rfl) (fun ls => by kernel_rfl) c_crc_sum_step_p050 (fun ls Rv => h_crc_sum_step_p050 (getI (ls.getD 0 .junk)) (getI (ls.getD 1 .junk)) Rv)

noncomputable def TYbG51t : FuncId → Option Go.Cx.Spec := addT T0t 40 S_crc_sum_step_p050
theorem TYbG51t_ok : TblOK Try.prog TYbG51t := T0t_ok.add S_crc_sum_step_p050_ok

/- comptoir/crc.each -/
noncomputable def E_crc_each_0fstep_p50 : En := enK Try.prog TYbG51t [] [(1, ⟨[0, 2, 3, 4, 5, 9, 10, 11, 12, 13, 14, 15], [], [], none, [], []⟩)] [] [] 1
def P_crc_each_0fstep_p50 : List Pat := [.leaf (.slice 1 (.int .u8)), .func 40 [.lit (.ptr 0 0)] []]
def Q_crc_each_0fstep_p50 : List OPat := [.fix 63 [.leaf (.int .u32)]]
def O_crc_each_0fstep_p50 : Pat := .tuple []
def OO_crc_each_0fstep_p50 : List OPat := [.fix 63 [.leaf (.int .u32)]]
def tup_crc_each_0fstep_p50 : List AV → Int := fun ls => getI (ls.getD 0 .junk)
def res_crc_each_0fstep_p50 : Int → AV × List Ob := fun x => (.tuple [], [.fix 63 [.int .u32 (x)]])
noncomputable def T_crc_each_0fstep_p50 (x0 : List AV) (x1 : Int) : Tr ((Int × Int) ⊕ (Int)) := (.r (.inl (((0 : Int), x1))))
noncomputable def M_crc_each_0fstep_p50 (x0 : List AV) (x1 : Int) : Int × Int → Tr ((Int × Int) ⊕ (Int))
  | (i0, i1) => (.c (Decidable.decide (i0 < (↑(List.length x0) : Int))) (.c (Decidable.decide ((0 : Int) ≤ i0)) (.c (Decidable.decide (i0 < (↑(List.length x0) : Int))) (opt (Go.Proofs.Ytaejmfmamhdlhaa.g_crc_sum_step_p050 (Go.Cx.getI (List.getD x0 (Int.toNat i0) (Go.Cx.AV.int Go.IntKind.u8 (0 : Int)))) i1) fun (y0 : Int) => (.r (.inl ((Go.IntKind.wrap Go.IntKind.i64 (i0 + (1 : Int)), y0))))) .bad) .bad) (.r (.inr (i1))))
noncomputable def g_crc_each_0fstep_p50 (x0 : List AV) (x1 : Int) : Option (Int) := run (M_crc_each_0fstep_p50 x0 x1) (T_crc_each_0fstep_p50 x0 x1)
noncomputable def b_crc_each_0fstep_p50 := Try.f39.body.getD .skip
noncomputable def st_crc_each_0fstep_p50_0 (x0 : List AV) (x1 : Int) (i0 : Int) (i1 : Int) : St := ⟨[Go.Cx.AV.junk, Go.Cx.AV.func (40 : Nat) [Go.Cx.AV.ptr (0 : Nat) (0 : Nat)] [], Go.Cx.AV.junk, Go.Cx.AV.junk, Go.Cx.AV.junk, Go.Cx.AV.junk, Go.Cx.AV.slice (1 : Nat) (Go.Cx.Sh.int Go.IntKind.u8) x0 Go.Cx.SK.ro, Go.Cx.AV.int Go.IntKind.i64 (↑(List.length x0) : Int), Go.Cx.AV.int Go.IntKind.i64 i0, Go.Cx.AV.junk, Go.Cx.AV.junk, Go.Cx.AV.junk, Go.Cx.AV.junk, Go.Cx.AV.junk, Go.Cx.AV.junk, Go.Cx.AV.junk], [Go.Cx.Ob.fix (63 : Nat) [Go.Cx.AV.int Go.IntKind.u32 i1]]⟩
noncomputable def L_crc_each_0fstep_p50 (x0 : List AV) (x1 : Int) (Rv : Int → Prop) : Int × Int → Prop
  | (i0, i1) => headL E_crc_each_0fstep_p50 [.r, .d] b_crc_each_0fstep_p50 1 (bodyK E_crc_each_0fstep_p50 Try.f39 (outH O_crc_each_0fstep_p50 OO_crc_each_0fstep_p50 fun ls => Rv (tup_crc_each_0fstep_p50 ls))) (st_crc_each_0fstep_p50_0 x0 x1 i0 i1)
set_option maxRecDepth 100000 in
theorem l_crc_each_0fstep_p50_0 (x0 : List AV) (x1 : Int) (Rv : Int → Prop) (i0 : Int) (i1 : Int) : stepL E_crc_each_0fstep_p50 [.r, .d] b_crc_each_0fstep_p50 1 (bodyK E_crc_each_0fstep_p50 Try.f39 (outH O_crc_each_0fstep_p50 OO_crc_each_0fstep_p50 fun ls => Rv (tup_crc_each_0fstep_p50 ls))) (st_crc_each_0fstep_p50_0 x0 x1 i0 i1) =
  (M_crc_each_0fstep_p50 x0 x1 ((i0, i1))).fold False (Sum.elim (L_crc_each_0fstep_p50 x0 x1 Rv) Rv) := by kernel_rfl
set_option maxRecDepth 100000 in
theorem e_crc_each_0fstep_p50_0 (x0 : List AV) (x1 : Int) (Rv : Int → Prop) (i0 : Int) (i1 : Int) : L_crc_each_0fstep_p50 x0 x1 Rv ((i0, i1)) = headL E_crc_each_0fstep_p50 [.r, .d] b_crc_each_0fstep_p50 1 (bodyK E_crc_each_0fstep_p50 Try.f39 (outH O_crc_each_0fstep_p50 OO_crc_each_0fstep_p50 fun ls => Rv (tup_crc_each_0fstep_p50 ls))) (st_crc_each_0fstep_p50_0 x0 x1 i0 i1) := by kernel_rfl
section
attribute [local irreducible] Tr.fold M_crc_each_0fstep_p50 L_crc_each_0fstep_p50 T_crc_each_0fstep_p50 E_crc_each_0fstep_p50 b_crc_each_0fstep_p50 bodyK headC headL stepC stepL wpX callA
set_option maxRecDepth 100000 in
theorem h_crc_each_0fstep_p50 (x0 : List AV) (x1 : Int) (Rv : Int → Prop) : ∀ s, (M_crc_each_0fstep_p50 x0 x1 s).fold False (Sum.elim (L_crc_each_0fstep_p50 x0 x1 Rv) Rv) → L_crc_each_0fstep_p50 x0 x1 Rv s := by
  rintro (⟨v0, v1⟩)
  · exact fun h => Eq.mpr (e_crc_each_0fstep_p50_0 x0 x1 Rv v0 v1) (headL_of (Eq.mpr (l_crc_each_0fstep_p50_0 x0 x1 Rv v0 v1) h))
set_option maxRecDepth 100000 in
theorem c_crc_each_0fstep_p50 (ls : List AV) (Rv : Int → Prop) : callA E_crc_each_0fstep_p50 Try.f39 (instL ls P_crc_each_0fstep_p50 0) (instH ls Q_crc_each_0fstep_p50 1) (outH O_crc_each_0fstep_p50 OO_crc_each_0fstep_p50 fun ls => Rv (tup_crc_each_0fstep_p50 ls)) = (T_crc_each_0fstep_p50 (getXs (ls.getD 0 .junk)) (getI (ls.getD 1 .junk))).fold False (Sum.elim (L_crc_each_0fstep_p50 (getXs (ls.getD 0 .junk)) (getI (ls.getD 1 .junk)) Rv) Rv) := by kernel_rfl
end
noncomputable def S_crc_each_0fstep_p50 : Go.Cx.Spec := heapS (patH P_crc_each_0fstep_p50 Q_crc_each_0fstep_p50 fun ls => opt (g_crc_each_0fstep_p50 (getXs (ls.getD 0 .junk)) (getI (ls.getD 1 .junk))) fun x => .r (res_crc_each_0fstep_p50 x))
set_option maxRecDepth 100000 in
theorem S_crc_each_0fstep_p50_ok : Sound Try.prog 39 S_crc_each_0fstep_p50 :=
  heap_mach (E := E_crc_each_0fstep_p50) (TblOK.enK TYbG51t_ok _ _ _ _ _) mixed Try.func39 (c := Try.f39.body.getD .skip) (by kernel_rfl) (by kernel_rfl) (by decide) (pats := P_crc_each_0fstep_p50) (ops := Q_crc_each_0fstep_p50) (OO := OO_crc_each_0fstep_p50) (O := O_crc_each_0fstep_p50) (tup := tup_crc_each_0fstep_p50) (res := res_crc_each_0fstep_p50) (g := fun ls => g_crc_each_0fstep_p50 (getXs (ls.getD 0 .junk)) (getI (ls.getD 1 .junk))) (T := fun ls => T_crc_each_0fstep_p50 (getXs (ls.getD 0 .junk)) (getI (ls.getD 1 .junk))) (step := fun ls => M_crc_each_0fstep_p50 (getXs (ls.getD 0 .junk)) (getI (ls.getD 1 .junk))) (L := fun ls => L_crc_each_0fstep_p50 (getXs (ls.getD 0 .junk)) (getI (ls.getD 1 .junk))) (fun _ => rfl) (fun ls => by kernel_rfl) c_crc_each_0fstep_p50 (fun ls Rv => h_crc_each_0fstep_p50 (getXs (ls.getD 0 .junk)) (getI (ls.getD 1 .junk)) Rv)

noncomputable def TYbG52t : FuncId → Option Go.Cx.Spec := addT TYbG51t 39 S_crc_each_0fstep_p50
theorem TYbG52t_ok : TblOK Try.prog TYbG52t := TYbG51t_ok.add S_crc_each_0fstep_p50_ok

/- comptoir/crc.Of -/
noncomputable def E_crc_Of : En := enK Try.prog TYbG52t [] [] [] [] 0
def P_crc_Of : List Pat := [.leaf (.slice 1 (.int .u8))]
def O_crc_Of : Pat := .leaf (.int .u32)
def tup_crc_Of : List AV → Int := fun ls => getI (ls.getD 0 .junk)
def res_crc_Of : Int → AV := fun x => .int .u32 (x)
noncomputable def T_crc_Of (x0 : List AV) : Tr (Int) := (opt (Go.Proofs.Ytaejmfmamhdlhaa.g_crc_each_0fstep_p50 x0 (4294967295 : Int)) fun (y0 : Int) => (.r (Go.Cx.bitsA Go.BinOp.xor Go.IntKind.u32 y0 (4294967295 : Int))))
noncomputable def g_crc_Of (x0 : List AV) : Option (Int) := (T_crc_Of x0).val
set_option maxRecDepth 100000 in
theorem c_crc_Of (ls : List AV) (Rv : Int → Prop) : callA E_crc_Of Try.f17 (instL ls P_crc_Of 0) [] (outP O_crc_Of fun ls => Rv (tup_crc_Of ls)) = (T_crc_Of (getXs (ls.getD 0 .junk))).fold False Rv := by kernel_rfl
noncomputable def S_crc_Of : Go.Cx.Spec := pureS (patF P_crc_Of fun ls => opt (g_crc_Of (getXs (ls.getD 0 .junk))) fun x => .r (res_crc_Of x))
set_option maxRecDepth 100000 in
theorem S_crc_Of_ok : Sound Try.prog 17 S_crc_Of :=
  pure_flat (E := E_crc_Of) (TblOK.enK TYbG52t_ok _ _ _ _ _) mixed rfl Try.func17 (c := Try.f17.body.getD .skip) (by kernel_rfl) (by kernel_rfl) (pats := P_crc_Of) (O := O_crc_Of) (tup := tup_crc_Of) (res := res_crc_Of) (g := fun ls => g_crc_Of (getXs (ls.getD 0 .junk))) (T := fun ls => T_crc_Of (getXs (ls.getD 0 .junk))) (fun _ => rfl) (fun ls => by kernel_rfl) c_crc_Of

noncomputable def TYbG53t : FuncId → Option Go.Cx.Spec := addT TYbG52t 17 S_crc_Of
theorem TYbG53t_ok : TblOK Try.prog TYbG53t := TYbG52t_ok.add S_crc_Of_ok

/- slices.Grow[[]byte,byte] -/
noncomputable def E_slices_Grow_byte_byte : En := enK Try.prog TYbG53t [25] [(3, ⟨[2, 3, 4, 5, 6, 7, 8, 9, 10, 11, 12, 13, 14, 15, 16, 17, 18, 19, 20, 21, 22, 23, 24, 25, 26], [], [], some 1000, [], []⟩), (6, ⟨[1, 2, 3, 4, 5, 6, 7, 8, 9, 10, 11, 12, 13, 14, 15, 16, 17, 18, 19, 20, 21, 22, 23, 24, 25, 26], [], [], some 1000, [], []⟩)] [(6, [(1000000, 5, (.int .u8))])] [] 1
def P_slices_Grow_byte_byte : List Pat := [.lit .nilsl, .leaf (.int .i64)]
def Q_slices_Grow_byte_byte : List OPat := []
def O_slices_Grow_byte_byte : Pat := .own 0 1 0
def OO_slices_Grow_byte_byte : List OPat := [.grow 5 1 1 (.int .u8)]
def tup_slices_Grow_byte_byte : List AV → List AV := fun ls => getXs (ls.getD 0 .junk)
def res_slices_Grow_byte_byte : List AV → AV × List Ob := fun x => (.oslice 0 1 (List.length (x)), [.grow 5 1 1 (.int .u8) (x)])
noncomputable def T_slices_Grow_byte_byte (x0 : Int) : Tr (((Unit) ⊕ (Unit)) ⊕ (List AV)) := (.c (Decidable.decide (x0 < (0 : Int))) .bad (.r (.inl (.inl (())))))
noncomputable def M_slices_Grow_byte_byte (x0 : Int) : (Unit) ⊕ (Unit) → Tr (((Unit) ⊕ (Unit)) ⊕ (List AV))
  | .inl (()) => (.c (Decidable.decide (Go.IntKind.wrap Go.IntKind.i64 (x0 - (0 : Int)) > (0 : Int))) (.c (Decidable.decide ((0 : Int) < Go.IntKind.wrap Go.IntKind.i64 (x0 - (0 : Int)))) (.c (Decidable.decide (List.length (List.replicate (Int.toNat (Go.IntKind.wrap Go.IntKind.i64 (x0 - (0 : Int)))) (Go.Cx.AV.int Go.IntKind.u8 (0 : Int))) * (2 : Nat) < (70368744177664 : Nat))) (.c (List.length (List.replicate (Int.toNat (Go.IntKind.wrap Go.IntKind.i64 (x0 - (0 : Int)))) (Go.Cx.AV.int Go.IntKind.u8 (0 : Int))) == List.length (List.replicate (Int.toNat (Go.IntKind.wrap Go.IntKind.i64 (x0 - (0 : Int)))) (Go.Cx.AV.int Go.IntKind.u8 (0 : Int)))) (.r (.inl (.inr (())))) .bad) .bad) .bad) (.r (.inl (.inr (())))))
  | .inr (()) => (.c ((0 : Nat) == List.length ([] : List AV)) (.r (.inr ([]))) .bad)
noncomputable def g_slices_Grow_byte_byte (x0 : Int) : Option (List AV) := run (M_slices_Grow_byte_byte x0) (T_slices_Grow_byte_byte x0)
noncomputable def b_slices_Grow_byte_byte := Try.f54.body.getD .skip
noncomputable def st_slices_Grow_byte_byte_0 (x0 : Int) : St := ⟨[Go.Cx.AV.nilsl, Go.Cx.AV.int Go.IntKind.i64 x0, Go.Cx.AV.junk, Go.Cx.AV.junk, Go.Cx.AV.junk, Go.Cx.AV.junk, Go.Cx.AV.junk, Go.Cx.AV.junk, Go.Cx.AV.junk, Go.Cx.AV.junk, Go.Cx.AV.junk, Go.Cx.AV.junk, Go.Cx.AV.junk, Go.Cx.AV.junk, Go.Cx.AV.junk, Go.Cx.AV.junk, Go.Cx.AV.junk, Go.Cx.AV.junk, Go.Cx.AV.junk, Go.Cx.AV.junk, Go.Cx.AV.junk, Go.Cx.AV.junk, Go.Cx.AV.junk, Go.Cx.AV.junk, Go.Cx.AV.junk, Go.Cx.AV.junk, Go.Cx.AV.junk], []⟩
noncomputable def st_slices_Grow_byte_byte_1 (x0 : Int) : St := ⟨[Go.Cx.AV.oslice (0 : Nat) (1 : Nat) (0 : Nat), Go.Cx.AV.junk, Go.Cx.AV.junk, Go.Cx.AV.junk, Go.Cx.AV.junk, Go.Cx.AV.junk, Go.Cx.AV.junk, Go.Cx.AV.junk, Go.Cx.AV.junk, Go.Cx.AV.junk, Go.Cx.AV.junk, Go.Cx.AV.junk, Go.Cx.AV.junk, Go.Cx.AV.junk, Go.Cx.AV.junk, Go.Cx.AV.junk, Go.Cx.AV.junk, Go.Cx.AV.junk, Go.Cx.AV.junk, Go.Cx.AV.junk, Go.Cx.AV.junk, Go.Cx.AV.junk, Go.Cx.AV.junk, Go.Cx.AV.junk, Go.Cx.AV.junk, Go.Cx.AV.junk, Go.Cx.AV.junk], [Go.Cx.Ob.grow (5 : Nat) (1 : Nat) (1 : Nat) (Go.Cx.Sh.int Go.IntKind.u8) []]⟩
noncomputable def L_slices_Grow_byte_byte (x0 : Int) (Rv : List AV → Prop) : (Unit) ⊕ (Unit) → Prop
  | .inl (()) => headC E_slices_Grow_byte_byte [.r, .r] b_slices_Grow_byte_byte (bodyK E_slices_Grow_byte_byte Try.f54 (outH O_slices_Grow_byte_byte OO_slices_Grow_byte_byte fun ls => Rv (tup_slices_Grow_byte_byte ls))) (st_slices_Grow_byte_byte_0 x0)
  | .inr (()) => headC E_slices_Grow_byte_byte [.r, .r, .r] b_slices_Grow_byte_byte (bodyK E_slices_Grow_byte_byte Try.f54 (outH O_slices_Grow_byte_byte OO_slices_Grow_byte_byte fun ls => Rv (tup_slices_Grow_byte_byte ls))) (st_slices_Grow_byte_byte_1 x0)
set_option maxRecDepth 100000 in
theorem l_slices_Grow_byte_byte_0 (x0 : Int) (Rv : List AV → Prop) : stepC E_slices_Grow_byte_byte [.r, .r] b_slices_Grow_byte_byte (bodyK E_slices_Grow_byte_byte Try.f54 (outH O_slices_Grow_byte_byte OO_slices_Grow_byte_byte fun ls => Rv (tup_slices_Grow_byte_byte ls))) (st_slices_Grow_byte_byte_0 x0) =
  (M_slices_Grow_byte_byte x0 (.inl (()))).fold False (Sum.elim (L_slices_Grow_byte_byte x0 Rv) Rv) := by kernel_rfl
set_option maxRecDepth 100000 in
theorem l_slices_Grow_byte_byte_1 (x0 : Int) (Rv : List AV → Prop) : stepC E_slices_Grow_byte_byte [.r, .r, .r] b_slices_Grow_byte_byte (bodyK E_slices_Grow_byte_byte Try.f54 (outH O_slices_Grow_byte_byte OO_slices_Grow_byte_byte fun ls => Rv (tup_slices_Grow_byte_byte ls))) (st_slices_Grow_byte_byte_1 x0) =
  (M_slices_Grow_byte_byte x0 (.inr (()))).fold False (Sum.elim (L_slices_Grow_byte_byte x0 Rv) Rv) := by kernel_rfl
set_option maxRecDepth 100000 in
theorem e_slices_Grow_byte_byte_0 (x0 : Int) (Rv : List AV → Prop) : L_slices_Grow_byte_byte x0 Rv (.inl (())) = headC E_slices_Grow_byte_byte [.r, .r] b_slices_Grow_byte_byte (bodyK E_slices_Grow_byte_byte Try.f54 (outH O_slices_Grow_byte_byte OO_slices_Grow_byte_byte fun ls => Rv (tup_slices_Grow_byte_byte ls))) (st_slices_Grow_byte_byte_0 x0) := by kernel_rfl
set_option maxRecDepth 100000 in
theorem e_slices_Grow_byte_byte_1 (x0 : Int) (Rv : List AV → Prop) : L_slices_Grow_byte_byte x0 Rv (.inr (())) = headC E_slices_Grow_byte_byte [.r, .r, .r] b_slices_Grow_byte_byte (bodyK E_slices_Grow_byte_byte Try.f54 (outH O_slices_Grow_byte_byte OO_slices_Grow_byte_byte fun ls => Rv (tup_slices_Grow_byte_byte ls))) (st_slices_Grow_byte_byte_1 x0) := by kernel_rfl
section
attribute [local irreducible] Tr.fold M_slices_Grow_byte_byte L_slices_Grow_byte_byte T_slices_Grow_byte_byte E_slices_Grow_byte_byte b_slices_Grow_byte_byte bodyK headC headL stepC stepL wpX callA
set_option maxRecDepth 100000 in
theorem h_slices_Grow_byte_byte (x0 : Int) (Rv : List AV → Prop) : ∀ s, (M_slices_Grow_byte_byte x0 s).fold False (Sum.elim (L_slices_Grow_byte_byte x0 Rv) Rv) → L_slices_Grow_byte_byte x0 Rv s := by
  rintro (⟨⟩ | ⟨⟩)
  · exact fun h => Eq.mpr (e_slices_Grow_byte_byte_0 x0 Rv) (headC_of (Eq.mpr (l_slices_Grow_byte_byte_0 x0 Rv) h))
  · exact fun h => Eq.mpr (e_slices_Grow_byte_byte_1 x0 Rv) (headC_of (Eq.mpr (l_slices_Grow_byte_byte_1 x0 Rv) h))
set_option maxRecDepth 100000 in
theorem c_slices_Grow_byte_byte (ls : List AV) (Rv : List AV → Prop) : callA E_slices_Grow_byte_byte Try.f54 (instL ls P_slices_Grow_byte_byte 0) (instH ls Q_slices_Grow_byte_byte 1) (outH O_slices_Grow_byte_byte OO_slices_Grow_byte_byte fun ls => Rv (tup_slices_Grow_byte_byte ls)) = (T_slices_Grow_byte_byte (getI (ls.getD 0 .junk))).fold False (Sum.elim (L_slices_Grow_byte_byte (getI (ls.getD 0 .junk)) Rv) Rv) := by kernel_rfl
end
noncomputable def S_slices_Grow_byte_byte : Go.Cx.Spec := heapS (patH P_slices_Grow_byte_byte Q_slices_Grow_byte_byte fun ls => opt (g_slices_Grow_byte_byte (getI (ls.getD 0 .junk))) fun x => .r (res_slices_Grow_byte_byte x))
set_option maxRecDepth 100000 in
theorem S_slices_Grow_byte_byte_ok : Sound Try.prog 54 S_slices_Grow_byte_byte :=
  heap_mach (E := E_slices_Grow_byte_byte) (TblOK.enK TYbG53t_ok _ _ _ _ _) mixed Try.func54 (c := Try.f54.body.getD .skip) (by kernel_rfl) (by kernel_rfl) (by decide) (pats := P_slices_Grow_byte_byte) (ops := Q_slices_Grow_byte_byte) (OO := OO_slices_Grow_byte_byte) (O := O_slices_Grow_byte_byte) (tup := tup_slices_Grow_byte_byte) (res := res_slices_Grow_byte_byte) (g := fun ls => g_slices_Grow_byte_byte (getI (ls.getD 0 .junk))) (T := fun ls => T_slices_Grow_byte_byte (getI (ls.getD 0 .junk))) (step := fun ls => M_slices_Grow_byte_byte (getI (ls.getD 0 .junk))) (L := fun ls => L_slices_Grow_byte_byte (getI (ls.getD 0 .junk))) (fun _ => rfl) (fun ls => by kernel_rfl) c_slices_Grow_byte_byte (fun ls Rv => h_slices_Grow_byte_byte (getI (ls.getD 0 .junk)) Rv)

noncomputable def TYbG54t : FuncId → Option Go.Cx.Spec := addT TYbG53t 54 S_slices_Grow_byte_byte
theorem TYbG54t_ok : TblOK Try.prog TYbG54t := TYbG53t_ok.add S_slices_Grow_byte_byte_ok

/- slices.Concat[[]byte,byte] -/
noncomputable def E_slices_Concat_byte_byte : En := enK Try.prog TYbG54t [] [(3, ⟨[1, 2, 4, 5, 6, 7, 8, 12, 13, 14, 15, 16, 17, 18, 19, 20, 21, 22, 23, 24, 25, 26, 27, 28, 29, 30, 31, 32, 33, 34, 35], [], [], none, [], []⟩), (11, ⟨[0, 1, 2, 3, 4, 5, 7, 8, 9, 10, 11, 12, 13, 14, 15, 16, 17, 18, 19, 20, 21, 22, 23, 24, 28, 29, 30, 31, 32, 33, 34, 35], [], [], none, [], []⟩)] [] [] 0
def P_slices_Concat_byte_byte : List Pat := [.leaf (.slice 1 (.slice 1 (.int .u8)))]
def O_slices_Concat_byte_byte : Pat := .leaf (.slice 1 (.int .u8))
def tup_slices_Concat_byte_byte : List AV → List AV := fun ls => getXs (ls.getD 0 .junk)
def res_slices_Concat_byte_byte : List AV → AV := fun x => .slice 1 (.int .u8) (x) .ro
noncomputable def T_slices_Concat_byte_byte (x0 : List AV) : Tr (((Int × Int) ⊕ (List AV × Int)) ⊕ (List AV)) := (.r (.inl (.inl (((0 : Int), (0 : Int))))))
noncomputable def M_slices_Concat_byte_byte (x0 : List AV) : (Int × Int) ⊕ (List AV × Int) → Tr (((Int × Int) ⊕ (List AV × Int)) ⊕ (List AV))
  | .inl ((i0, i1)) => (.c (Decidable.decide (i1 < (↑(List.length x0) : Int))) (.c (Decidable.decide ((0 : Int) ≤ i1)) (.c (Decidable.decide (i1 < (↑(List.length x0) : Int))) (.c (Decidable.decide (Go.IntKind.wrap Go.IntKind.i64 (i0 + (↑(List.length (Go.Cx.getXs (List.getD x0 (Int.toNat i1) (Go.Cx.AV.slice (1 : Nat) (Go.Cx.Sh.int Go.IntKind.u8) [] Go.Cx.SK.ro)))) : Int)) < (0 : Int))) .bad (.r (.inl (.inl ((Go.IntKind.wrap Go.IntKind.i64 (i0 + (↑(List.length (Go.Cx.getXs (List.getD x0 (Int.toNat i1) (Go.Cx.AV.slice (1 : Nat) (Go.Cx.Sh.int Go.IntKind.u8) [] Go.Cx.SK.ro)))) : Int)), Go.IntKind.wrap Go.IntKind.i64 (i1 + (1 : Int)))))))) .bad) .bad) (opt (Go.Proofs.Ytaejmfmamhdlhaa.g_slices_Grow_byte_byte i0) fun (y0 : List Go.Cx.AV) => (.r (.inl (.inr ((y0, (0 : Int))))))))
  | .inr ((l0, i2)) => (.c (Decidable.decide (i2 < (↑(List.length x0) : Int))) (.c (Decidable.decide ((0 : Int) ≤ i2)) (.c (Decidable.decide (i2 < (↑(List.length x0) : Int))) (.c (List.length l0 == List.length l0) (.c (Decidable.decide (List.length (l0 ++ Go.Cx.getXs (List.getD x0 (Int.toNat i2) (Go.Cx.AV.slice (1 : Nat) (Go.Cx.Sh.int Go.IntKind.u8) [] Go.Cx.SK.ro))) * (2 : Nat) < (70368744177664 : Nat))) (.r (.inl (.inr ((l0 ++ Go.Cx.getXs (List.getD x0 (Int.toNat i2) (Go.Cx.AV.slice (1 : Nat) (Go.Cx.Sh.int Go.IntKind.u8) [] Go.Cx.SK.ro)), Go.IntKind.wrap Go.IntKind.i64 (i2 + (1 : Int))))))) .bad) .bad) .bad) .bad) (.c (List.length l0 == List.length l0) (.r (.inr (l0))) .bad))
noncomputable def g_slices_Concat_byte_byte (x0 : List AV) : Option (List AV) := run (M_slices_Concat_byte_byte x0) (T_slices_Concat_byte_byte x0)
noncomputable def b_slices_Concat_byte_byte := Try.f44.body.getD .skip
noncomputable def st_slices_Concat_byte_byte_0 (x0 : List AV) (i0 : Int) (i1 : Int) : St := ⟨[Go.Cx.AV.slice (1 : Nat) (Go.Cx.Sh.slice (1 : Nat) (Go.Cx.Sh.int Go.IntKind.u8)) x0 Go.Cx.SK.ro, Go.Cx.AV.junk, Go.Cx.AV.junk, Go.Cx.AV.int Go.IntKind.i64 i0, Go.Cx.AV.junk, Go.Cx.AV.junk, Go.Cx.AV.junk, Go.Cx.AV.junk, Go.Cx.AV.junk, Go.Cx.AV.slice (1 : Nat) (Go.Cx.Sh.slice (1 : Nat) (Go.Cx.Sh.int Go.IntKind.u8)) x0 Go.Cx.SK.ro, Go.Cx.AV.int Go.IntKind.i64 (↑(List.length x0) : Int), Go.Cx.AV.int Go.IntKind.i64 i1, Go.Cx.AV.junk, Go.Cx.AV.junk, Go.Cx.AV.junk, Go.Cx.AV.junk, Go.Cx.AV.junk, Go.Cx.AV.junk, Go.Cx.AV.junk, Go.Cx.AV.junk, Go.Cx.AV.junk, Go.Cx.AV.junk, Go.Cx.AV.junk, Go.Cx.AV.junk, Go.Cx.AV.junk, Go.Cx.AV.junk, Go.Cx.AV.junk, Go.Cx.AV.junk, Go.Cx.AV.junk, Go.Cx.AV.junk, Go.Cx.AV.junk, Go.Cx.AV.junk, Go.Cx.AV.junk, Go.Cx.AV.junk, Go.Cx.AV.junk, Go.Cx.AV.junk], []⟩
noncomputable def st_slices_Concat_byte_byte_1 (x0 : List AV) (l0 : List AV) (i2 : Int) : St := ⟨[Go.Cx.AV.junk, Go.Cx.AV.junk, Go.Cx.AV.junk, Go.Cx.AV.junk, Go.Cx.AV.junk, Go.Cx.AV.junk, Go.Cx.AV.oslice (0 : Nat) (1 : Nat) (List.length l0), Go.Cx.AV.junk, Go.Cx.AV.junk, Go.Cx.AV.junk, Go.Cx.AV.junk, Go.Cx.AV.junk, Go.Cx.AV.junk, Go.Cx.AV.junk, Go.Cx.AV.junk, Go.Cx.AV.junk, Go.Cx.AV.junk, Go.Cx.AV.junk, Go.Cx.AV.junk, Go.Cx.AV.junk, Go.Cx.AV.junk, Go.Cx.AV.junk, Go.Cx.AV.junk, Go.Cx.AV.junk, Go.Cx.AV.junk, Go.Cx.AV.slice (1 : Nat) (Go.Cx.Sh.slice (1 : Nat) (Go.Cx.Sh.int Go.IntKind.u8)) x0 Go.Cx.SK.ro, Go.Cx.AV.int Go.IntKind.i64 (↑(List.length x0) : Int), Go.Cx.AV.int Go.IntKind.i64 i2, Go.Cx.AV.junk, Go.Cx.AV.junk, Go.Cx.AV.junk, Go.Cx.AV.junk, Go.Cx.AV.junk, Go.Cx.AV.junk, Go.Cx.AV.junk, Go.Cx.AV.junk], [Go.Cx.Ob.grow (5 : Nat) (1 : Nat) (1 : Nat) (Go.Cx.Sh.int Go.IntKind.u8) l0]⟩
noncomputable def L_slices_Concat_byte_byte (x0 : List AV) (Rv : List AV → Prop) : (Int × Int) ⊕ (List AV × Int) → Prop
  | .inl ((i0, i1)) => headL E_slices_Concat_byte_byte [.r, .r, .l, .r, .d] b_slices_Concat_byte_byte 0 (bodyK E_slices_Concat_byte_byte Try.f44 (outP O_slices_Concat_byte_byte fun ls => Rv (tup_slices_Concat_byte_byte ls))) (st_slices_Concat_byte_byte_0 x0 i0 i1)
  | .inr ((l0, i2)) => headL E_slices_Concat_byte_byte [.r, .r, .r, .r, .l, .r, .d] b_slices_Concat_byte_byte 1 (bodyK E_slices_Concat_byte_byte Try.f44 (outP O_slices_Concat_byte_byte fun ls => Rv (tup_slices_Concat_byte_byte ls))) (st_slices_Concat_byte_byte_1 x0 l0 i2)
set_option maxRecDepth 100000 in
theorem l_slices_Concat_byte_byte_0 (x0 : List AV) (Rv : List AV → Prop) (i0 : Int) (i1 : Int) : stepL E_slices_Concat_byte_byte [.r, .r, .l, .r, .d] b_slices_Concat_byte_byte 0 (bodyK E_slices_Concat_byte_byte Try.f44 (outP O_slices_Concat_byte_byte fun ls => Rv (tup_slices_Concat_byte_byte ls))) (st_slices_Concat_byte_byte_0 x0 i0 i1) =
  (M_slices_Concat_byte_byte x0 (.inl ((i0, i1)))).fold False (Sum.elim (L_slices_Concat_byte_byte x0 Rv) Rv) := by kernel_rfl
set_option maxRecDepth 100000 in
theorem l_slices_Concat_byte_byte_1 (x0 : List AV) (Rv : List AV → Prop) (l0 : List AV) (i2 : Int) : stepL E_slices_Concat_byte_byte [.r, .r, .r, .r, .l, .r, .d] b_slices_Concat_byte_byte 1 (bodyK E_slices_Concat_byte_byte Try.f44 (outP O_slices_Concat_byte_byte fun ls => Rv (tup_slices_Concat_byte_byte ls))) (st_slices_Concat_byte_byte_1 x0 l0 i2) =
  (M_slices_Concat_byte_byte x0 (.inr ((l0, i2)))).fold False (Sum.elim (L_slices_Concat_byte_byte x0 Rv) Rv) := by kernel_rfl
set_option maxRecDepth 100000 in
theorem e_slices_Concat_byte_byte_0 (x0 : List AV) (Rv : List AV → Prop) (i0 : Int) (i1 : Int) : L_slices_Concat_byte_byte x0 Rv (.inl ((i0, i1))) = headL E_slices_Concat_byte_byte [.r, .r, .l, .r, .d] b_slices_Concat_byte_byte 0 (bodyK E_slices_Concat_byte_byte Try.f44 (outP O_slices_Concat_byte_byte fun ls => Rv (tup_slices_Concat_byte_byte ls))) (st_slices_Concat_byte_byte_0 x0 i0 i1) := by kernel_rfl
set_option maxRecDepth 100000 in
theorem e_slices_Concat_byte_byte_1 (x0 : List AV) (Rv : List AV → Prop) (l0 : List AV) (i2 : Int) : L_slices_Concat_byte_byte x0 Rv (.inr ((l0, i2))) = headL E_slices_Concat_byte_byte [.r, .r, .r, .r, .l, .r, .d] b_slices_Concat_byte_byte 1 (bodyK E_slices_Concat_byte_byte Try.f44 (outP O_slices_Concat_byte_byte fun ls => Rv (tup_slices_Concat_byte_byte ls))) (st_slices_Concat_byte_byte_1 x0 l0 i2) := by kernel_rfl
section
attribute [local irreducible] Tr.fold M_slices_Concat_byte_byte L_slices_Concat_byte_byte T_slices_Concat_byte_byte E_slices_Concat_byte_byte b_slices_Concat_byte_byte bodyK headC headL stepC stepL wpX callA
set_option maxRecDepth 100000 in
theorem h_slices_Concat_byte_byte (x0 : List AV) (Rv : List AV → Prop) : ∀ s, (M_slices_Concat_byte_byte x0 s).fold False (Sum.elim (L_slices_Concat_byte_byte x0 Rv) Rv) → L_slices_Concat_byte_byte x0 Rv s := by
  rintro (⟨v0, v1⟩ | ⟨v0, v1⟩)
  · exact fun h => Eq.mpr (e_slices_Concat_byte_byte_0 x0 Rv v0 v1) (headL_of (Eq.mpr (l_slices_Concat_byte_byte_0 x0 Rv v0 v1) h))
  · exact fun h => Eq.mpr (e_slices_Concat_byte_byte_1 x0 Rv v0 v1) (headL_of (Eq.mpr (l_slices_Concat_byte_byte_1 x0 Rv v0 v1) h))
set_option maxRecDepth 100000 in
theorem c_slices_Concat_byte_byte (ls : List AV) (Rv : List AV → Prop) : callA E_slices_Concat_byte_byte Try.f44 (instL ls P_slices_Concat_byte_byte 0) [] (outP O_slices_Concat_byte_byte fun ls => Rv (tup_slices_Concat_byte_byte ls)) = (T_slices_Concat_byte_byte (getXs (ls.getD 0 .junk))).fold False (Sum.elim (L_slices_Concat_byte_byte (getXs (ls.getD 0 .junk)) Rv) Rv) := by kernel_rfl
end
noncomputable def S_slices_Concat_byte_byte : Go.Cx.Spec := pureS (patF P_slices_Concat_byte_byte fun ls => opt (g_slices_Concat_byte_byte (getXs (ls.getD 0 .junk))) fun x => .r (res_slices_Concat_byte_byte x))
set_option maxRecDepth 100000 in
theorem S_slices_Concat_byte_byte_ok : Sound Try.prog 44 S_slices_Concat_byte_byte :=
  pure_mach (E := E_slices_Concat_byte_byte) (TblOK.enK TYbG54t_ok _ _ _ _ _) mixed rfl Try.func44 (c := Try.f44.body.getD .skip) (by kernel_rfl) (by kernel_rfl) (pats := P_slices_Concat_byte_byte) (O := O_slices_Concat_byte_byte) (tup := tup_slices_Concat_byte_byte) (res := res_slices_Concat_byte_byte) (g := fun ls => g_slices_Concat_byte_byte (getXs (ls.getD 0 .junk))) (T := fun ls => T_slices_Concat_byte_byte (getXs (ls.getD 0 .junk))) (step := fun ls => M_slices_Concat_byte_byte (getXs (ls.getD 0 .junk))) (L := fun ls => L_slices_Concat_byte_byte (getXs (ls.getD 0 .junk))) (fun _ => rfl) (fun ls => by kernel_rfl) c_slices_Concat_byte_byte (fun ls Rv => h_slices_Concat_byte_byte (getXs (ls.getD 0 .junk)) Rv)

noncomputable def TYbG55t : FuncId → Option Go.Cx.Spec := addT TYbG54t 44 S_slices_Concat_byte_byte
theorem TYbG55t_ok : TblOK Try.prog TYbG55t := TYbG54t_ok.add S_slices_Concat_byte_byte_ok

/- comptoir/cursor.Put -/
noncomputable def E_cursor_Put : En := enK Try.prog TYbG55t [1000031, 1000032] [(4, ⟨[3, 4, 5, 6, 8, 9, 10, 11, 12, 13, 14, 17, 18, 19, 20, 21, 22, 23, 24, 25, 26, 27, 28, 29, 30, 31, 32, 33, 34], [], [], none, [7], []⟩)] [] [] 0
def P_cursor_Put : List Pat := [.leaf (.slice 1 (.int .u8)), .leaf (.int .u64), .leaf (.int .i64)]
def O_cursor_Put : Pat := .leaf (.slice 1 (.int .u8))
def tup_cursor_Put : List AV → List AV := fun ls => getXs (ls.getD 0 .junk)
def res_cursor_Put : List AV → AV := fun x => .slice 1 (.int .u8) (x) .ro
noncomputable def T_cursor_Put (x0 : List AV) (x1 : Int) (x2 : Int) : Tr ((Int × Int × List AV × Int) ⊕ (List AV)) := (.c (Decidable.decide ((0 : Int) ≤ if (8 : Int) < if (0 : Int) > x2 then (0 : Int) else x2 then (8 : Int) else if (0 : Int) > x2 then (0 : Int) else x2)) (.c ((if (8 : Int) < if (0 : Int) > x2 then (0 : Int) else x2 then (8 : Int) else if (0 : Int) > x2 then (0 : Int) else x2) == if (8 : Int) < if (0 : Int) > x2 then (0 : Int) else x2 then (8 : Int) else if (0 : Int) > x2 then (0 : Int) else x2) (.c (Decidable.decide (List.length (List.replicate (Int.toNat (if (8 : Int) < if (0 : Int) > x2 then (0 : Int) else x2 then (8 : Int) else if (0 : Int) > x2 then (0 : Int) else x2)) (Go.Cx.AV.int Go.IntKind.u8 (0 : Int))) * (2 : Nat) < (70368744177664 : Nat))) (.c (List.length (List.replicate (Int.toNat (if (8 : Int) < if (0 : Int) > x2 then (0 : Int) else x2 then (8 : Int) else if (0 : Int) > x2 then (0 : Int) else x2)) (Go.Cx.AV.int Go.IntKind.u8 (0 : Int))) == List.length (List.replicate (Int.toNat (if (8 : Int) < if (0 : Int) > x2 then (0 : Int) else x2 then (8 : Int) else if (0 : Int) > x2 then (0 : Int) else x2)) (Go.Cx.AV.int Go.IntKind.u8 (0 : Int)))) (.r (.inl ((if (8 : Int) < if (0 : Int) > x2 then (0 : Int) else x2 then (8 : Int) else if (0 : Int) > x2 then (0 : Int) else x2, (↑(List.length (List.replicate (Int.toNat (if (8 : Int) < if (0 : Int) > x2 then (0 : Int) else x2 then (8 : Int) else if (0 : Int) > x2 then (0 : Int) else x2)) (Go.Cx.AV.int Go.IntKind.u8 (0 : Int)))) : Int), List.replicate (Int.toNat (if (8 : Int) < if (0 : Int) > x2 then (0 : Int) else x2 then (8 : Int) else if (0 : Int) > x2 then (0 : Int) else x2)) (Go.Cx.AV.int Go.IntKind.u8 (0 : Int)), (0 : Int))))) .bad) .bad) .bad) .bad)
noncomputable def M_cursor_Put (x0 : List AV) (x1 : Int) (x2 : Int) : Int × Int × List AV × Int → Tr ((Int × Int × List AV × Int) ⊕ (List AV))
  | (i0, i1, l0, i2) => (.c (Decidable.decide (i2 < i1)) (.c (Decidable.decide ((0 : Int) ≤ Go.IntKind.wrap Go.IntKind.i64 ((8 : Int) * i2))) (.c (Decidable.decide ((0 : Int) ≤ Go.IntKind.wrap Go.IntKind.i64 (Go.IntKind.wrap Go.IntKind.i64 (i0 - (1 : Int)) - i2))) (.c (Decidable.decide (Go.IntKind.wrap Go.IntKind.i64 (Go.IntKind.wrap Go.IntKind.i64 (i0 - (1 : Int)) - i2) < (↑(List.length l0) : Int))) (.c (List.length l0 == List.length l0) (.c (Decidable.decide (Int.toNat (Go.IntKind.wrap Go.IntKind.i64 (Go.IntKind.wrap Go.IntKind.i64 (i0 - (1 : Int)) - i2)) < List.length l0)) (.c (List.length l0 == List.length (List.set l0 (Int.toNat (Go.IntKind.wrap Go.IntKind.i64 (Go.IntKind.wrap Go.IntKind.i64 (i0 - (1 : Int)) - i2))) (Go.Cx.AV.int Go.IntKind.u8 (Go.IntKind.wrap Go.IntKind.u8 (Go.Cx.shrA Go.IntKind.u64 x1 (Go.IntKind.wrap Go.IntKind.i64 ((8 : Int) * i2))))))) (.r (.inl ((i0, i1, List.set l0 (Int.toNat (Go.IntKind.wrap Go.IntKind.i64 (Go.IntKind.wrap Go.IntKind.i64 (i0 - (1 : Int)) - i2))) (Go.Cx.AV.int Go.IntKind.u8 (Go.IntKind.wrap Go.IntKind.u8 (Go.Cx.shrA Go.IntKind.u64 x1 (Go.IntKind.wrap Go.IntKind.i64 ((8 : Int) * i2))))), Go.IntKind.wrap Go.IntKind.i64 (i2 + (1 : Int)))))) .bad) .bad) .bad) .bad) .bad) .bad) (.c (List.length l0 == List.length l0) (opt (Go.Proofs.Ytaejmfmamhdlhaa.g_slices_Concat_byte_byte [Go.Cx.AV.slice (1 : Nat) (Go.Cx.Sh.int Go.IntKind.u8) x0 Go.Cx.SK.ro, Go.Cx.AV.slice (1 : Nat) (Go.Cx.Sh.int Go.IntKind.u8) l0 Go.Cx.SK.ro]) fun (y0 : List Go.Cx.AV) => (.r (.inr (y0)))) .bad))
noncomputable def g_cursor_Put (x0 : List AV) (x1 : Int) (x2 : Int) : Option (List AV) := run (M_cursor_Put x0 x1 x2) (T_cursor_Put x0 x1 x2)
noncomputable def b_cursor_Put := Try.f41.body.getD .skip
noncomputable def st_cursor_Put_0 (x0 : List AV) (x1 : Int) (x2 : Int) (i0 : Int) (i1 : Int) (l0 : List AV) (i2 : Int) : St := ⟨[Go.Cx.AV.slice (1 : Nat) (Go.Cx.Sh.int Go.IntKind.u8) x0 Go.Cx.SK.ro, Go.Cx.AV.int Go.IntKind.u64 x1, Go.Cx.AV.int Go.IntKind.i64 i0, Go.Cx.AV.junk, Go.Cx.AV.junk, Go.Cx.AV.junk, Go.Cx.AV.junk, Go.Cx.AV.oslice (0 : Nat) (0 : Nat) (List.length l0), Go.Cx.AV.junk, Go.Cx.AV.junk, Go.Cx.AV.junk, Go.Cx.AV.junk, Go.Cx.AV.junk, Go.Cx.AV.junk, Go.Cx.AV.junk, Go.Cx.AV.int Go.IntKind.i64 i1, Go.Cx.AV.int Go.IntKind.i64 i2, Go.Cx.AV.junk, Go.Cx.AV.junk, Go.Cx.AV.junk, Go.Cx.AV.junk, Go.Cx.AV.junk, Go.Cx.AV.junk, Go.Cx.AV.junk, Go.Cx.AV.junk, Go.Cx.AV.junk, Go.Cx.AV.junk, Go.Cx.AV.junk, Go.Cx.AV.junk, Go.Cx.AV.junk, Go.Cx.AV.junk, Go.Cx.AV.junk, Go.Cx.AV.junk, Go.Cx.AV.junk, Go.Cx.AV.junk], [Go.Cx.Ob.grow (5 : Nat) (0 : Nat) (1 : Nat) (Go.Cx.Sh.int Go.IntKind.u8) l0]⟩
noncomputable def L_cursor_Put (x0 : List AV) (x1 : Int) (x2 : Int) (Rv : List AV → Prop) : Int × Int × List AV × Int → Prop
  | (i0, i1, l0, i2) => headL E_cursor_Put [.r, .r, .r, .l, .r, .d] b_cursor_Put 1 (bodyK E_cursor_Put Try.f41 (outP O_cursor_Put fun ls => Rv (tup_cursor_Put ls))) (st_cursor_Put_0 x0 x1 x2 i0 i1 l0 i2)
set_option maxRecDepth 100000 in
theorem l_cursor_Put_0 (x0 : List AV) (x1 : Int) (x2 : Int) (Rv : List AV → Prop) (i0 : Int) (i1 : Int) (l0 : List AV) (i2 : Int) : stepL E_cursor_Put [.r, .r, .r, .l, .r, .d] b_cursor_Put 1 (bodyK E_cursor_Put Try.f41 (outP O_cursor_Put fun ls => Rv (tup_cursor_Put ls))) (st_cursor_Put_0 x0 x1 x2 i0 i1 l0 i2) =
  (M_cursor_Put x0 x1 x2 ((i0, i1, l0, i2))).fold False (Sum.elim (L_cursor_Put x0 x1 x2 Rv) Rv) := by kernel_rfl
set_option maxRecDepth 100000 in
theorem e_cursor_Put_0 (x0 : List AV) (x1 : Int) (x2 : Int) (Rv : List AV → Prop) (i0 : Int) (i1 : Int) (l0 : List AV) (i2 : Int) : L_cursor_Put x0 x1 x2 Rv ((i0, i1, l0, i2)) = headL E_cursor_Put [.r, .r, .r, .l, .r, .d] b_cursor_Put 1 (bodyK E_cursor_Put Try.f41 (outP O_cursor_Put fun ls => Rv (tup_cursor_Put ls))) (st_cursor_Put_0 x0 x1 x2 i0 i1 l0 i2) := by kernel_rfl
section
attribute [local irreducible] Tr.fold M_cursor_Put L_cursor_Put T_cursor_Put E_cursor_Put b_cursor_Put bodyK headC headL stepC stepL wpX callA
set_option maxRecDepth 100000 in
theorem h_cursor_Put (x0 : List AV) (x1 : Int) (x2 : Int) (Rv : List AV → Prop) : ∀ s, (M_cursor_Put x0 x1 x2 s).fold False (Sum.elim (L_cursor_Put x0 x1 x2 Rv) Rv) → L_cursor_Put x0 x1 x2 Rv s := by
  rintro (⟨v0, v1, v2, v3⟩)
  · exact fun h => Eq.mpr (e_cursor_Put_0 x0 x1 x2 Rv v0 v1 v2 v3) (headL_of (Eq.mpr (l_cursor_Put_0 x0 x1 x2 Rv v0 v1 v2 v3) h))
set_option maxRecDepth 100000 in
theorem c_cursor_Put (ls : List AV) (Rv : List AV → Prop) : callA E_cursor_Put Try.f41 (instL ls P_cursor_Put 0) [] (outP O_cursor_Put fun ls => Rv (tup_cursor_Put ls)) = (T_cursor_Put (getXs (ls.getD 0 .junk)) (getI (ls.getD 1 .junk)) (getI (ls.getD 2 .junk))).fold False (Sum.elim (L_cursor_Put (getXs (ls.getD 0 .junk)) (getI (ls.getD 1 .junk)) (getI (ls.getD 2 .junk)) Rv) Rv) := by kernel_rfl
end
noncomputable def S_cursor_Put : Go.Cx.Spec := pureS (patF P_cursor_Put fun ls => opt (g_cursor_Put (getXs (ls.getD 0 .junk)) (getI (ls.getD 1 .junk)) (getI (ls.getD 2 .junk))) fun x => .r (res_cursor_Put x))
set_option maxRecDepth 100000 in
theorem S_cursor_Put_ok : Sound Try.prog 41 S_cursor_Put :=
  pure_mach (E := E_cursor_Put) (TblOK.enK TYbG55t_ok _ _ _ _ _) mixed rfl Try.func41 (c := Try.f41.body.getD .skip) (by kernel_rfl) (by kernel_rfl) (pats := P_cursor_Put) (O := O_cursor_Put) (tup := tup_cursor_Put) (res := res_cursor_Put) (g := fun ls => g_cursor_Put (getXs (ls.getD 0 .junk)) (getI (ls.getD 1 .junk)) (getI (ls.getD 2 .junk))) (T := fun ls => T_cursor_Put (getXs (ls.getD 0 .junk)) (getI (ls.getD 1 .junk)) (getI (ls.getD 2 .junk))) (step := fun ls => M_cursor_Put (getXs (ls.getD 0 .junk)) (getI (ls.getD 1 .junk)) (getI (ls.getD 2 .junk))) (L := fun ls => L_cursor_Put (getXs (ls.getD 0 .junk)) (getI (ls.getD 1 .junk)) (getI (ls.getD 2 .junk))) (fun _ => rfl) (fun ls => by kernel_rfl) c_cursor_Put (fun ls Rv => h_cursor_Put (getXs (ls.getD 0 .junk)) (getI (ls.getD 1 .junk)) (getI (ls.getD 2 .junk)) Rv)

noncomputable def TYbG56t : FuncId → Option Go.Cx.Spec := addT TYbG55t 41 S_cursor_Put
theorem TYbG56t_ok : TblOK Try.prog TYbG56t := TYbG55t_ok.add S_cursor_Put_ok

/- comptoir/crc.Seal -/
noncomputable def E_crc_Seal : En := enK Try.prog TYbG56t [] [] [] [] 0
def P_crc_Seal : List Pat := [.leaf (.slice 1 (.int .u8))]
def O_crc_Seal : Pat := .leaf (.slice 1 (.int .u8))
def tup_crc_Seal : List AV → List AV := fun ls => getXs (ls.getD 0 .junk)
def res_crc_Seal : List AV → AV := fun x => .slice 1 (.int .u8) (x) .ro
noncomputable def T_crc_Seal (x0 : List AV) : Tr (List AV) := (opt (Go.Proofs.Ytaejmfmamhdlhaa.g_crc_Of x0) fun (y0 : Int) => (opt (Go.Proofs.Ytaejmfmamhdlhaa.g_cursor_Put x0 (Go.IntKind.wrap Go.IntKind.u64 y0) (4 : Int)) fun (y1 : List Go.Cx.AV) => (.r (y1))))
noncomputable def g_crc_Seal (x0 : List AV) : Option (List AV) := (T_crc_Seal x0).val
set_option maxRecDepth 100000 in
theorem c_crc_Seal (ls : List AV) (Rv : List AV → Prop) : callA E_crc_Seal Try.f20 (instL ls P_crc_Seal 0) [] (outP O_crc_Seal fun ls => Rv (tup_crc_Seal ls)) = (T_crc_Seal (getXs (ls.getD 0 .junk))).fold False Rv := by kernel_rfl
noncomputable def S_crc_Seal : Go.Cx.Spec := pureS (patF P_crc_Seal fun ls => opt (g_crc_Seal (getXs (ls.getD 0 .junk))) fun x => .r (res_crc_Seal x))
set_option maxRecDepth 100000 in
theorem S_crc_Seal_ok : Sound Try.prog 20 S_crc_Seal :=
  pure_flat (E := E_crc_Seal) (TblOK.enK TYbG56t_ok _ _ _ _ _) mixed rfl Try.func20 (c := Try.f20.body.getD .skip) (by kernel_rfl) (by kernel_rfl) (pats := P_crc_Seal) (O := O_crc_Seal) (tup := tup_crc_Seal) (res := res_crc_Seal) (g := fun ls => g_crc_Seal (getXs (ls.getD 0 .junk))) (T := fun ls => T_crc_Seal (getXs (ls.getD 0 .junk))) (fun _ => rfl) (fun ls => by kernel_rfl) c_crc_Seal

noncomputable def TYbG57t : FuncId → Option Go.Cx.Spec := addT TYbG56t 20 S_crc_Seal
theorem TYbG57t_ok : TblOK Try.prog TYbG57t := TYbG56t_ok.add S_crc_Seal_ok

/- comptoir/cursor.New -/
noncomputable def E_cursor_New : En := enK Try.prog TYbG57t [] [] [] [] 1
def P_cursor_New : List Pat := [.leaf (.slice 1 (.int .u8))]
def Q_cursor_New : List OPat := []
def O_cursor_New : Pat := .lit (.ptr 0 0)
def OO_cursor_New : List OPat := [.fix 76 [.leaf (.slice 1 (.int .u8)), .leaf (.int .i64)]]
def tup_cursor_New : List AV → List AV × Int := fun ls => (getXs (ls.getD 0 .junk), getI (ls.getD 1 .junk))
def res_cursor_New : List AV × Int → AV × List Ob := fun x => (.ptr 0 0, [.fix 76 [.slice 1 (.int .u8) (x.1) .ro, .int .i64 (x.2)]])
noncomputable def T_cursor_New (x0 : List AV) : Tr (List AV × Int) := (.c (Decidable.decide (List.length x0 * (2 : Nat) < (70368744177664 : Nat))) (.r ((x0, (0 : Int)))) .bad)
noncomputable def g_cursor_New (x0 : List AV) : Option (List AV × Int) := (T_cursor_New x0).val
set_option maxRecDepth 100000 in
theorem c_cursor_New (ls : List AV) (Rv : List AV × Int → Prop) : callA E_cursor_New Try.f35 (instL ls P_cursor_New 0) (instH ls Q_cursor_New 1) (outH O_cursor_New OO_cursor_New fun ls => Rv (tup_cursor_New ls)) = (T_cursor_New (getXs (ls.getD 0 .junk))).fold False Rv := by kernel_rfl
noncomputable def S_cursor_New : Go.Cx.Spec := heapS (patH P_cursor_New Q_cursor_New fun ls => opt (g_cursor_New (getXs (ls.getD 0 .junk))) fun x => .r (res_cursor_New x))
set_option maxRecDepth 100000 in
theorem S_cursor_New_ok : Sound Try.prog 35 S_cursor_New :=
  heap_flat (E := E_cursor_New) (TblOK.enK TYbG57t_ok _ _ _ _ _) mixed Try.func35 (c := Try.f35.body.getD .skip) (by kernel_rfl) (by kernel_rfl) (by decide) (pats := P_cursor_New) (ops := Q_cursor_New) (OO := OO_cursor_New) (O := O_cursor_New) (tup := tup_cursor_New) (res := res_cursor_New) (g := fun ls => g_cursor_New (getXs (ls.getD 0 .junk))) (T := fun ls => T_cursor_New (getXs (ls.getD 0 .junk))) (fun _ => rfl) (fun ls => by kernel_rfl) c_cursor_New

noncomputable def TYbG58t : FuncId → Option Go.Cx.Spec := addT TYbG57t 35 S_cursor_New
theorem TYbG58t_ok : TblOK Try.prog TYbG58t := TYbG57t_ok.add S_cursor_New_ok

/- (*comptoir/cursor.Cursor).Left -/
noncomputable def E_cursor_Cursor_Left_p : En := enK Try.prog TYbG58t [] [] [] [] 0
def P_cursor_Cursor_Left_p : List Pat := [.rptr [.leaf (.slice 1 (.int .u8)), .leaf (.int .i64)]]
def O_cursor_Cursor_Left_p : Pat := .leaf (.int .i64)
def tup_cursor_Cursor_Left_p : List AV → Int := fun ls => getI (ls.getD 0 .junk)
def res_cursor_Cursor_Left_p : Int → AV := fun x => .int .i64 (x)
noncomputable def T_cursor_Cursor_Left_p (x0 : List AV) (x1 : Int) : Tr (Int) := (.r (Go.IntKind.wrap Go.IntKind.i64 ((↑(List.length x0) : Int) - x1)))
noncomputable def g_cursor_Cursor_Left_p (x0 : List AV) (x1 : Int) : Option (Int) := (T_cursor_Cursor_Left_p x0 x1).val
set_option maxRecDepth 100000 in
theorem c_cursor_Cursor_Left_p (ls : List AV) (Rv : Int → Prop) : callA E_cursor_Cursor_Left_p Try.f56 (instL ls P_cursor_Cursor_Left_p 0) [] (outP O_cursor_Cursor_Left_p fun ls => Rv (tup_cursor_Cursor_Left_p ls)) = (T_cursor_Cursor_Left_p (getXs (ls.getD 0 .junk)) (getI (ls.getD 1 .junk))).fold False Rv := by kernel_rfl
noncomputable def S_cursor_Cursor_Left_p : Go.Cx.Spec := pureS (patF P_cursor_Cursor_Left_p fun ls => opt (g_cursor_Cursor_Left_p (getXs (ls.getD 0 .junk)) (getI (ls.getD 1 .junk))) fun x => .r (res_cursor_Cursor_Left_p x))
set_option maxRecDepth 100000 in
theorem S_cursor_Cursor_Left_p_ok : Sound Try.prog 56 S_cursor_Cursor_Left_p :=
  pure_flat (E := E_cursor_Cursor_Left_p) (TblOK.enK TYbG58t_ok _ _ _ _ _) mixed rfl Try.func56 (c := Try.f56.body.getD .skip) (by kernel_rfl) (by kernel_rfl) (pats := P_cursor_Cursor_Left_p) (O := O_cursor_Cursor_Left_p) (tup := tup_cursor_Cursor_Left_p) (res := res_cursor_Cursor_Left_p) (g := fun ls => g_cursor_Cursor_Left_p (getXs (ls.getD 0 .junk)) (getI (ls.getD 1 .junk))) (T := fun ls => T_cursor_Cursor_Left_p (getXs (ls.getD 0 .junk)) (getI (ls.getD 1 .junk))) (fun _ => rfl) (fun ls => by kernel_rfl) c_cursor_Cursor_Left_p

noncomputable def TYbG59t : FuncId → Option Go.Cx.Spec := addT TYbG58t 56 S_cursor_Cursor_Left_p
theorem TYbG59t_ok : TblOK Try.prog TYbG59t := TYbG58t_ok.add S_cursor_Cursor_Left_p_ok

/- (*comptoir/cursor.Cursor).take -/
noncomputable def E_cursor_Cursor_take_p0500 : En := enK Try.prog TYbG59t [] [] [] [] 1
def P_cursor_Cursor_take_p0500 : List Pat := [.lit (.ptr 0 0), .leaf (.int .i64)]
def Q_cursor_Cursor_take_p0500 : List OPat := [.fix 76 [.leaf (.slice 1 (.int .u8)), .leaf (.int .i64)]]
def O_cursor_Cursor_take_p0500 : Pat := .tuple [.leaf (.slice 1 (.int .u8)), .leaf (.int .i64)]
def OO_cursor_Cursor_take_p0500 : List OPat := [.fix 76 [.leaf (.slice 1 (.int .u8)), .leaf (.int .i64)]]
def tup_cursor_Cursor_take_p0500 : List AV → List AV × Int × List AV × Int := fun ls => (getXs (ls.getD 0 .junk), getI (ls.getD 1 .junk), getXs (ls.getD 2 .junk), getI (ls.getD 3 .junk))
def res_cursor_Cursor_take_p0500 : List AV × Int × List AV × Int → AV × List Ob := fun x => (.tuple [.slice 1 (.int .u8) (x.1) .ro, .int .i64 (x.2.1)], [.fix 76 [.slice 1 (.int .u8) (x.2.2.1) .ro, .int .i64 (x.2.2.2)]])
noncomputable def T_cursor_Cursor_take_p0500 (x0 : Int) (x1 : List AV) (x2 : Int) : Tr (List AV × Int × List AV × Int) := (.c (Decidable.decide (x0 < (0 : Int))) (.r (([], (1 : Int), x1, x2))) (.c (Decidable.decide (x0 > Go.IntKind.wrap Go.IntKind.i64 ((↑(List.length x1) : Int) - x2))) (.r (([], (3 : Int), x1, x2))) (.c (Decidable.decide ((0 : Int) ≤ Go.IntKind.wrap Go.IntKind.i64 (x2 + x0))) (.c (Decidable.decide (Go.IntKind.wrap Go.IntKind.i64 (x2 + x0) ≤ (↑(List.length x1) : Int))) (.c (Decidable.decide ((0 : Int) ≤ Go.IntKind.wrap Go.IntKind.i64 (Go.IntKind.wrap Go.IntKind.i64 (x2 + x0) - x0))) (.c (Decidable.decide (Go.IntKind.wrap Go.IntKind.i64 (Go.IntKind.wrap Go.IntKind.i64 (x2 + x0) - x0) ≤ Go.IntKind.wrap Go.IntKind.i64 (x2 + x0))) (.r ((List.drop (Int.toNat (Go.IntKind.wrap Go.IntKind.i64 (Go.IntKind.wrap Go.IntKind.i64 (x2 + x0) - x0))) (List.take (Int.toNat (Go.IntKind.wrap Go.IntKind.i64 (x2 + x0))) x1), (0 : Int), x1, Go.IntKind.wrap Go.IntKind.i64 (x2 + x0)))) .bad) .bad) .bad) .bad)))
noncomputable def g_cursor_Cursor_take_p0500 (x0 : Int) (x1 : List AV) (x2 : Int) : Option (List AV × Int × List AV × Int) := (T_cursor_Cursor_take_p0500 x0 x1 x2).val
set_option maxRecDepth 100000 in
theorem c_cursor_Cursor_take_p0500 (ls : List AV) (Rv : List AV × Int × List AV × Int → Prop) : callA E_cursor_Cursor_take_p0500 Try.f51 (instL ls P_cursor_Cursor_take_p0500 0) (instH ls Q_cursor_Cursor_take_p0500 1) (outH O_cursor_Cursor_take_p0500 OO_cursor_Cursor_take_p0500 fun ls => Rv (tup_cursor_Cursor_take_p0500 ls)) = (T_cursor_Cursor_take_p0500 (getI (ls.getD 0 .junk)) (getXs (ls.getD 1 .junk)) (getI (ls.getD 2 .junk))).fold False Rv := by kernel_rfl
noncomputable def S_cursor_Cursor_take_p0500 : Go.Cx.Spec := heapS (patH P_cursor_Cursor_take_p0500 Q_cursor_Cursor_take_p0500 fun ls => opt (g_cursor_Cursor_take_p0500 (getI (ls.getD 0 .junk)) (getXs (ls.getD 1 .junk)) (getI (ls.getD 2 .junk))) fun x => .r (res_cursor_Cursor_take_p0500 x))
set_option maxRecDepth 100000 in
theorem S_cursor_Cursor_take_p0500_ok : Sound Try.prog 51 S_cursor_Cursor_take_p0500 :=
  heap_flat (E := E_cursor_Cursor_take_p0500) (TblOK.enK TYbG59t_ok _ _ _ _ _) mixed Try.func51 (c := Try.f51.body.getD .skip) (by kernel_rfl) (by kernel_rfl) (by decide) (pats := P_cursor_Cursor_take_p0500) (ops := Q_cursor_Cursor_take_p0500) (OO := OO_cursor_Cursor_take_p0500) (O := O_cursor_Cursor_take_p0500) (tup := tup_cursor_Cursor_take_p0500) (res := res_cursor_Cursor_take_p0500) (g := fun ls => g_cursor_Cursor_take_p0500 (getI (ls.getD 0 .junk)) (getXs (ls.getD 1 .junk)) (getI (ls.getD 2 .junk))) (T := fun ls => T_cursor_Cursor_take_p0500 (getI (ls.getD 0 .junk)) (getXs (ls.getD 1 .junk)) (getI (ls.getD 2 .junk))) (fun _ => rfl) (fun ls => by kernel_rfl) c_cursor_Cursor_take_p0500

noncomputable def TYbG510t : FuncId → Option Go.Cx.Spec := addT TYbG59t 51 S_cursor_Cursor_take_p0500
theorem TYbG510t_ok : TblOK Try.prog TYbG510t := TYbG59t_ok.add S_cursor_Cursor_take_p0500_ok

/- comptoir/cursor.read -/
noncomputable def E_cursor_read_ftake_0p500 : En := enK Try.prog TYbG510t [] [] [] [] 1
def P_cursor_read_ftake_0p500 : List Pat := [.func 51 [.lit (.ptr 0 0)] [], .leaf (.int .i64)]
def Q_cursor_read_ftake_0p500 : List OPat := [.fix 76 [.leaf (.slice 1 (.int .u8)), .leaf (.int .i64)]]
def O_cursor_read_ftake_0p500 : Pat := .tuple [.leaf (.slice 1 (.int .u8)), .leaf (.int .i64)]
def OO_cursor_read_ftake_0p500 : List OPat := [.fix 76 [.leaf (.slice 1 (.int .u8)), .leaf (.int .i64)]]
def tup_cursor_read_ftake_0p500 : List AV → List AV × Int × List AV × Int := fun ls => (getXs (ls.getD 0 .junk), getI (ls.getD 1 .junk), getXs (ls.getD 2 .junk), getI (ls.getD 3 .junk))
def res_cursor_read_ftake_0p500 : List AV × Int × List AV × Int → AV × List Ob := fun x => (.tuple [.slice 1 (.int .u8) (x.1) .ro, .int .i64 (x.2.1)], [.fix 76 [.slice 1 (.int .u8) (x.2.2.1) .ro, .int .i64 (x.2.2.2)]])
noncomputable def T_cursor_read_ftake_0p500 (x0 : Int) (x1 : List AV) (x2 : Int) : Tr (List AV × Int × List AV × Int) := (opt (Go.Proofs.Ytaejmfmamhdlhaa.g_cursor_Cursor_take_p0500 x0 x1 x2) fun (y0 : List Go.Cx.AV × Int × List Go.Cx.AV × Int) => (.r ((Prod.fst y0, Prod.fst (Prod.snd y0), Prod.fst (Prod.snd (Prod.snd y0)), Prod.snd (Prod.snd (Prod.snd y0))))))
noncomputable def g_cursor_read_ftake_0p500 (x0 : Int) (x1 : List AV) (x2 : Int) : Option (List AV × Int × List AV × Int) := (T_cursor_read_ftake_0p500 x0 x1 x2).val
set_option maxRecDepth 100000 in
theorem c_cursor_read_ftake_0p500 (ls : List AV) (Rv : List AV × Int × List AV × Int → Prop) : callA E_cursor_read_ftake_0p500 Try.f50 (instL ls P_cursor_read_ftake_0p500 0) (instH ls Q_cursor_read_ftake_0p500 1) (outH O_cursor_read_ftake_0p500 OO_cursor_read_ftake_0p500 fun ls => Rv (tup_cursor_read_ftake_0p500 ls)) = (T_cursor_read_ftake_0p500 (getI (ls.getD 0 .junk)) (getXs (ls.getD 1 .junk)) (getI (ls.getD 2 .junk))).fold False Rv := by kernel_rfl
noncomputable def S_cursor_read_ftake_0p500 : Go.Cx.Spec := heapS (patH P_cursor_read_ftake_0p500 Q_cursor_read_ftake_0p500 fun ls => opt (g_cursor_read_ftake_0p500 (getI (ls.getD 0 .junk)) (getXs (ls.getD 1 .junk)) (getI (ls.getD 2 .junk))) fun x => .r (res_cursor_read_ftake_0p500 x))
set_option maxRecDepth 100000 in
theorem S_cursor_read_ftake_0p500_ok : Sound Try.prog 50 S_cursor_read_ftake_0p500 :=
  heap_flat (E := E_cursor_read_ftake_0p500) (TblOK.enK TYbG510t_ok _ _ _ _ _) mixed Try.func50 (c := Try.f50.body.getD .skip) (by kernel_rfl) (by kernel_rfl) (by decide) (pats := P_cursor_read_ftake_0p500) (ops := Q_cursor_read_ftake_0p500) (OO := OO_cursor_read_ftake_0p500) (O := O_cursor_read_ftake_0p500) (tup := tup_cursor_read_ftake_0p500) (res := res_cursor_read_ftake_0p500) (g := fun ls => g_cursor_read_ftake_0p500 (getI (ls.getD 0 .junk)) (getXs (ls.getD 1 .junk)) (getI (ls.getD 2 .junk))) (T := fun ls => T_cursor_read_ftake_0p500 (getI (ls.getD 0 .junk)) (getXs (ls.getD 1 .junk)) (getI (ls.getD 2 .junk))) (fun _ => rfl) (fun ls => by kernel_rfl) c_cursor_read_ftake_0p500

noncomputable def TYbG511t : FuncId → Option Go.Cx.Spec := addT TYbG510t 50 S_cursor_read_ftake_0p500
theorem TYbG511t_ok : TblOK Try.prog TYbG511t := TYbG510t_ok.add S_cursor_read_ftake_0p500_ok

/- (*comptoir/cursor.Cursor).Take -/
noncomputable def E_cursor_Cursor_Take_p0500 : En := enK Try.prog TYbG511t [] [] [] [] 1
def P_cursor_Cursor_Take_p0500 : List Pat := [.lit (.ptr 0 0), .leaf (.int .i64)]
def Q_cursor_Cursor_Take_p0500 : List OPat := [.fix 76 [.leaf (.slice 1 (.int .u8)), .leaf (.int .i64)]]
def O_cursor_Cursor_Take_p0500 : Pat := .tuple [.leaf (.slice 1 (.int .u8)), .leaf (.int .i64)]
def OO_cursor_Cursor_Take_p0500 : List OPat := [.fix 76 [.leaf (.slice 1 (.int .u8)), .leaf (.int .i64)]]
def tup_cursor_Cursor_Take_p0500 : List AV → List AV × Int × List AV × Int := fun ls => (getXs (ls.getD 0 .junk), getI (ls.getD 1 .junk), getXs (ls.getD 2 .junk), getI (ls.getD 3 .junk))
def res_cursor_Cursor_Take_p0500 : List AV × Int × List AV × Int → AV × List Ob := fun x => (.tuple [.slice 1 (.int .u8) (x.1) .ro, .int .i64 (x.2.1)], [.fix 76 [.slice 1 (.int .u8) (x.2.2.1) .ro, .int .i64 (x.2.2.2)]])
noncomputable def T_cursor_Cursor_Take_p0500 (x0 : Int) (x1 : List AV) (x2 : Int) : Tr (List AV × Int × List AV × Int) := (opt (Go.Proofs.Ytaejmfmamhdlhaa.g_cursor_read_ftake_0p500 x0 x1 x2) fun (y0 : List Go.Cx.AV × Int × List Go.Cx.AV × Int) => (.c (Decidable.decide (List.length (Prod.fst y0) * (2 : Nat) < (70368744177664 : Nat))) (.r ((Prod.fst y0, Prod.fst (Prod.snd y0), Prod.fst (Prod.snd (Prod.snd y0)), Prod.snd (Prod.snd (Prod.snd y0))))) .bad))
noncomputable def g_cursor_Cursor_Take_p0500 (x0 : Int) (x1 : List AV) (x2 : Int) : Option (List AV × Int × List AV × Int) := (T_cursor_Cursor_Take_p0500 x0 x1 x2).val
set_option maxRecDepth 100000 in
theorem c_cursor_Cursor_Take_p0500 (ls : List AV) (Rv : List AV × Int × List AV × Int → Prop) : callA E_cursor_Cursor_Take_p0500 Try.f36 (instL ls P_cursor_Cursor_Take_p0500 0) (instH ls Q_cursor_Cursor_Take_p0500 1) (outH O_cursor_Cursor_Take_p0500 OO_cursor_Cursor_Take_p0500 fun ls => Rv (tup_cursor_Cursor_Take_p0500 ls)) = (T_cursor_Cursor_Take_p0500 (getI (ls.getD 0 .junk)) (getXs (ls.getD 1 .junk)) (getI (ls.getD 2 .junk))).fold False Rv := by kernel_rfl
noncomputable def S_cursor_Cursor_Take_p0500 : Go.Cx.Spec := heapS (patH P_cursor_Cursor_Take_p0500 Q_cursor_Cursor_Take_p0500 fun ls => opt (g_cursor_Cursor_Take_p0500 (getI (ls.getD 0 .junk)) (getXs (ls.getD 1 .junk)) (getI (ls.getD 2 .junk))) fun x => .r (res_cursor_Cursor_Take_p0500 x))
set_option maxRecDepth 100000 in
theorem S_cursor_Cursor_Take_p0500_ok : Sound Try.prog 36 S_cursor_Cursor_Take_p0500 :=
  heap_flat (E := E_cursor_Cursor_Take_p0500) (TblOK.enK TYbG511t_ok _ _ _ _ _) mixed Try.func36 (c := Try.f36.body.getD .skip) (by kernel_rfl) (by kernel_rfl) (by decide) (pats := P_cursor_Cursor_Take_p0500) (ops := Q_cursor_Cursor_Take_p0500) (OO := OO_cursor_Cursor_Take_p0500) (O := O_cursor_Cursor_Take_p0500) (tup := tup_cursor_Cursor_Take_p0500) (res := res_cursor_Cursor_Take_p0500) (g := fun ls => g_cursor_Cursor_Take_p0500 (getI (ls.getD 0 .junk)) (getXs (ls.getD 1 .junk)) (getI (ls.getD 2 .junk))) (T := fun ls => T_cursor_Cursor_Take_p0500 (getI (ls.getD 0 .junk)) (getXs (ls.getD 1 .junk)) (getI (ls.getD 2 .junk))) (fun _ => rfl) (fun ls => by kernel_rfl) c_cursor_Cursor_Take_p0500

noncomputable def TYbG512t : FuncId → Option Go.Cx.Spec := addT TYbG511t 36 S_cursor_Cursor_Take_p0500
theorem TYbG512t_ok : TblOK Try.prog TYbG512t := TYbG511t_ok.add S_cursor_Cursor_Take_p0500_ok

/- (*comptoir/cursor.Cursor).Number -/
noncomputable def E_cursor_Cursor_Number_p0500 : En := enK Try.prog TYbG512t [] [(8, ⟨[0, 1, 2, 3, 4, 5, 6, 9, 10, 11, 12, 13, 14, 15, 16, 17, 18, 19, 20, 21, 22, 23, 24, 25, 26, 27, 31, 32, 33, 34, 35, 36, 37, 38, 39, 40, 41], [], [], none, [], []⟩)] [] [] 1
def P_cursor_Cursor_Number_p0500 : List Pat := [.lit (.ptr 0 0), .leaf (.int .i64)]
def Q_cursor_Cursor_Number_p0500 : List OPat := [.fix 76 [.leaf (.slice 1 (.int .u8)), .leaf (.int .i64)]]
def O_cursor_Cursor_Number_p0500 : Pat := .tuple [.leaf (.int .u64), .leaf (.int .i64)]
def OO_cursor_Cursor_Number_p0500 : List OPat := [.fix 76 [.leaf (.slice 1 (.int .u8)), .leaf (.int .i64)]]
def tup_cursor_Cursor_Number_p0500 : List AV → Int × Int × List AV × Int := fun ls => (getI (ls.getD 0 .junk), getI (ls.getD 1 .junk), getXs (ls.getD 2 .junk), getI (ls.getD 3 .junk))
def res_cursor_Cursor_Number_p0500 : Int × Int × List AV × Int → AV × List Ob := fun x => (.tuple [.int .u64 (x.1), .int .i64 (x.2.1)], [.fix 76 [.slice 1 (.int .u8) (x.2.2.1) .ro, .int .i64 (x.2.2.2)]])
noncomputable def T_cursor_Cursor_Number_p0500 (x0 : Int) (x1 : List AV) (x2 : Int) : Tr ((Int × List AV × Int × List AV × Int × Int × Int) ⊕ (Int × Int × List AV × Int)) := (.c (Decidable.decide (x0 < (1 : Int))) (.r (.inr (((0 : Int), (1 : Int), x1, x2)))) (.c (Decidable.decide (x0 > (8 : Int))) (.r (.inr (((0 : Int), (1 : Int), x1, x2)))) (opt (Go.Proofs.Ytaejmfmamhdlhaa.g_cursor_read_ftake_0p500 x0 x1 x2) fun (y0 : List Go.Cx.AV × Int × List Go.Cx.AV × Int) => (.r (.inl ((Prod.fst (Prod.snd y0), Prod.fst y0, (↑(List.length (Prod.fst y0)) : Int), Prod.fst (Prod.snd (Prod.snd y0)), Prod.snd (Prod.snd (Prod.snd y0)), (0 : Int), (0 : Int))))))))
noncomputable def M_cursor_Cursor_Number_p0500 (x0 : Int) (x1 : List AV) (x2 : Int) : Int × List AV × Int × List AV × Int × Int × Int → Tr ((Int × List AV × Int × List AV × Int × Int × Int) ⊕ (Int × Int × List AV × Int))
  | (i0, l0, i1, l1, i2, i3, i4) => (.c (Decidable.decide (i4 < i1)) (.c (Decidable.decide ((0 : Int) ≤ i4)) (.c (Decidable.decide (i4 < (↑(List.length l0) : Int))) (.r (.inl ((i0, l0, i1, l1, i2, Go.Cx.bitsA Go.BinOp.or Go.IntKind.u64 (Go.Cx.shlA Go.IntKind.u64 i3 (8 : Int)) (Go.IntKind.wrap Go.IntKind.u64 (Go.Cx.getI (List.getD l0 (Int.toNat i4) (Go.Cx.AV.int Go.IntKind.u8 (0 : Int))))), Go.IntKind.wrap Go.IntKind.i64 (i4 + (1 : Int)))))) .bad) .bad) (.r (.inr ((i3, i0, l1, i2)))))
noncomputable def g_cursor_Cursor_Number_p0500 (x0 : Int) (x1 : List AV) (x2 : Int) : Option (Int × Int × List AV × Int) := run (M_cursor_Cursor_Number_p0500 x0 x1 x2) (T_cursor_Cursor_Number_p0500 x0 x1 x2)
noncomputable def b_cursor_Cursor_Number_p0500 := Try.f37.body.getD .skip
noncomputable def st_cursor_Cursor_Number_p0500_0 (x0 : Int) (x1 : List AV) (x2 : Int) (i0 : Int) (l0 : List AV) (i1 : Int) (l1 : List AV) (i2 : Int) (i3 : Int) (i4 : Int) : St := ⟨frOf 0 42 [(7, Go.Cx.AV.int Go.IntKind.i64 i0), (8, Go.Cx.AV.int Go.IntKind.u64 i3), (28, Go.Cx.AV.slice (1 : Nat) (Go.Cx.Sh.int Go.IntKind.u8) l0 Go.Cx.SK.ro), (29, Go.Cx.AV.int Go.IntKind.i64 i1), (30, Go.Cx.AV.int Go.IntKind.i64 i4)], [Go.Cx.Ob.fix (76 : Nat) [Go.Cx.AV.slice (1 : Nat) (Go.Cx.Sh.int Go.IntKind.u8) l1 Go.Cx.SK.ro, Go.Cx.AV.int Go.IntKind.i64 i2]]⟩
noncomputable def L_cursor_Cursor_Number_p0500 (x0 : Int) (x1 : List AV) (x2 : Int) (Rv : Int × Int × List AV × Int → Prop) : Int × List AV × Int × List AV × Int × Int × Int → Prop
  | (i0, l0, i1, l1, i2, i3, i4) => headL E_cursor_Cursor_Number_p0500 [.r, .r, .r, .r, .l, .r, .d] b_cursor_Cursor_Number_p0500 1 (bodyK E_cursor_Cursor_Number_p0500 Try.f37 (outH O_cursor_Cursor_Number_p0500 OO_cursor_Cursor_Number_p0500 fun ls => Rv (tup_cursor_Cursor_Number_p0500 ls))) (st_cursor_Cursor_Number_p0500_0 x0 x1 x2 i0 l0 i1 l1 i2 i3 i4)
set_option maxRecDepth 100000 in
theorem l_cursor_Cursor_Number_p0500_0 (x0 : Int) (x1 : List AV) (x2 : Int) (Rv : Int × Int × List AV × Int → Prop) (i0 : Int) (l0 : List AV) (i1 : Int) (l1 : List AV) (i2 : Int) (i3 : Int) (i4 : Int) : stepL E_cursor_Cursor_Number_p0500 [.r, .r, .r, .r, .l, .r, .d] b_cursor_Cursor_Number_p0500 1 (bodyK E_cursor_Cursor_Number_p0500 Try.f37 (outH O_cursor_Cursor_Number_p0500 OO_cursor_Cursor_Number_p0500 fun ls => Rv (tup_cursor_Cursor_Number_p0500 ls))) (st_cursor_Cursor_Number_p0500_0 x0 x1 x2 i0 l0 i1 l1 i2 i3 i4) =
  (M_cursor_Cursor_Number_p0500 x0 x1 x2 ((i0, l0, i1, l1, i2, i3, i4))).fold False (Sum.elim (L_cursor_Cursor_Number_p0500 x0 x1 x2 Rv) Rv) := by kernel_rfl
set_option maxRecDepth 100000 in
theorem e_cursor_Cursor_Number_p0500_0 (x0 : Int) (x1 : List AV) (x2 : Int) (Rv : Int × Int × List AV × Int → Prop) (i0 : Int) (l0 : List AV) (i1 : Int) (l1 : List AV) (i2 : Int) (i3 : Int) (i4 : Int) : L_cursor_Cursor_Number_p0500 x0 x1 x2 Rv ((i0, l0, i1, l1, i2, i3, i4)) = headL E_cursor_Cursor_Number_p0500 [.r, .r, .r, .r, .l, .r, .d] b_cursor_Cursor_Number_p0500 1 (bodyK E_cursor_Cursor_Number_p0500 Try.f37 (outH O_cursor_Cursor_Number_p0500 OO_cursor_Cursor_Number_p0500 fun ls => Rv (tup_cursor_Cursor_Number_p0500 ls))) (st_cursor_Cursor_Number_p0500_0 x0 x1 x2 i0 l0 i1 l1 i2 i3 i4) := by kernel_rfl
section
attribute [local irreducible] Tr.fold M_cursor_Cursor_Number_p0500 L_cursor_Cursor_Number_p0500 T_cursor_Cursor_Number_p0500 E_cursor_Cursor_Number_p0500 b_cursor_Cursor_Number_p0500 bodyK headC headL stepC stepL wpX callA
set_option maxRecDepth 100000 in
theorem h_cursor_Cursor_Number_p0500 (x0 : Int) (x1 : List AV) (x2 : Int) (Rv : Int × Int × List AV × Int → Prop) : ∀ s, (M_cursor_Cursor_Number_p0500 x0 x1 x2 s).fold False (Sum.elim (L_cursor_Cursor_Number_p0500 x0 x1 x2 Rv) Rv) → L_cursor_Cursor_Number_p0500 x0 x1 x2 Rv s := by
  rintro (⟨v0, v1, v2, v3, v4, v5, v6⟩)
  · exact fun h => Eq.mpr (e_cursor_Cursor_Number_p0500_0 x0 x1 x2 Rv v0 v1 v2 v3 v4 v5 v6) (headL_of (Eq.mpr (l_cursor_Cursor_Number_p0500_0 x0 x1 x2 Rv v0 v1 v2 v3 v4 v5 v6) h))
set_option maxRecDepth 100000 in
theorem c_cursor_Cursor_Number_p0500 (ls : List AV) (Rv : Int × Int × List AV × Int → Prop) : callA E_cursor_Cursor_Number_p0500 Try.f37 (instL ls P_cursor_Cursor_Number_p0500 0) (instH ls Q_cursor_Cursor_Number_p0500 1) (outH O_cursor_Cursor_Number_p0500 OO_cursor_Cursor_Number_p0500 fun ls => Rv (tup_cursor_Cursor_Number_p0500 ls)) = (T_cursor_Cursor_Number_p0500 (getI (ls.getD 0 .junk)) (getXs (ls.getD 1 .junk)) (getI (ls.getD 2 .junk))).fold False (Sum.elim (L_cursor_Cursor_Number_p0500 (getI (ls.getD 0 .junk)) (getXs (ls.getD 1 .junk)) (getI (ls.getD 2 .junk)) Rv) Rv) := by kernel_rfl
end
noncomputable def S_cursor_Cursor_Number_p0500 : Go.Cx.Spec := heapS (patH P_cursor_Cursor_Number_p0500 Q_cursor_Cursor_Number_p0500 fun ls => opt (g_cursor_Cursor_Number_p0500 (getI (ls.getD 0 .junk)) (getXs (ls.getD 1 .junk)) (getI (ls.getD 2 .junk))) fun x => .r (res_cursor_Cursor_Number_p0500 x))
set_option maxRecDepth 100000 in
theorem S_cursor_Cursor_Number_p0500_ok : Sound Try.prog 37 S_cursor_Cursor_Number_p0500 :=
  heap_mach (E := E_cursor_Cursor_Number_p0500) (TblOK.enK TYbG512t_ok _ _ _ _ _) mixed Try.func37 (c := Try.f37.body.getD .skip) (by kernel_rfl) (by kernel_rfl) (by decide) (pats := P_cursor_Cursor_Number_p0500) (ops := Q_cursor_Cursor_Number_p0500) (OO := OO_cursor_Cursor_Number_p0500) (O := O_cursor_Cursor_Number_p0500) (tup := tup_cursor_Cursor_Number_p0500) (res := res_cursor_Cursor_Number_p0500) (g := fun ls => g_cursor_Cursor_Number_p0500 (getI (ls.getD 0 .junk)) (getXs (ls.getD 1 .junk)) (getI (ls.getD 2 .junk))) (T := fun ls => T_cursor_Cursor_Number_p0500 (getI (ls.getD 0 .junk)) (getXs (ls.getD 1 .junk)) (getI (ls.getD 2 .junk))) (step := fun ls => M_cursor_Cursor_Number_p0500 (getI (ls.getD 0 .junk)) (getXs (ls.getD 1 .junk)) (getI (ls.getD 2 .junk))) (L := fun ls => L_cursor_Cursor_Number_p0500 (getI (ls.getD 0 .junk)) (getXs (ls.getD 1 .junk)) (getI (ls.getD 2 .junk))) (fun _ => rfl) (fun ls => by kernel_rfl) c_cursor_Cursor_Number_p0500 (fun ls Rv => h_cursor_Cursor_Number_p0500 (getI (ls.getD 0 .junk)) (getXs (ls.getD 1 .junk)) (getI (ls.getD 2 .junk)) Rv)

noncomputable def TYbG513t : FuncId → Option Go.Cx.Spec := addT TYbG512t 37 S_cursor_Cursor_Number_p0500
theorem TYbG513t_ok : TblOK Try.prog TYbG513t := TYbG512t_ok.add S_cursor_Cursor_Number_p0500_ok

/- comptoir/crc.Open -/
noncomputable def E_crc_Open : En := enK Try.prog TYbG513t [] [] [] [] 0
def P_crc_Open : List Pat := [.leaf (.slice 1 (.int .u8))]
def O_crc_Open : Pat := .tuple [.leaf (.slice 1 (.int .u8)), .leaf (.int .i64)]
def tup_crc_Open : List AV → List AV × Int := fun ls => (getXs (ls.getD 0 .junk), getI (ls.getD 1 .junk))
def res_crc_Open : List AV × Int → AV := fun x => .tuple [.slice 1 (.int .u8) (x.1) .ro, .int .i64 (x.2)]
noncomputable def T_crc_Open (x0 : List AV) : Tr (List AV × Int) := (opt (Go.Proofs.Ytaejmfmamhdlhaa.g_cursor_New x0) fun (y0 : List Go.Cx.AV × Int) => (opt (Go.Proofs.Ytaejmfmamhdlhaa.g_cursor_Cursor_Take_p0500 (if (0 : Int) > Go.IntKind.wrap Go.IntKind.i64 ((↑(List.length x0) : Int) - (4 : Int)) then (0 : Int) else Go.IntKind.wrap Go.IntKind.i64 ((↑(List.length x0) : Int) - (4 : Int))) (Prod.fst y0) (Prod.snd y0)) fun (y1 : List Go.Cx.AV × Int × List Go.Cx.AV × Int) => (.c (Prod.fst (Prod.snd y1) != (0 : Int)) (.r (([], Prod.fst (Prod.snd y1)))) (opt (Go.Proofs.Ytaejmfmamhdlhaa.g_cursor_Cursor_Number_p0500 (4 : Int) (Prod.fst (Prod.snd (Prod.snd y1))) (Prod.snd (Prod.snd (Prod.snd y1)))) fun (y2 : Int × Int × List Go.Cx.AV × Int) => (.c (Prod.fst (Prod.snd y2) != (0 : Int)) (.r (([], Prod.fst (Prod.snd y2)))) (opt (Go.Proofs.Ytaejmfmamhdlhaa.g_crc_Of (Prod.fst y1)) fun (y3 : Int) => (.c (Go.IntKind.wrap Go.IntKind.u32 (Prod.fst y2) != y3) (.r (([], (8 : Int)))) (.r ((Prod.fst y1, (0 : Int)))))))))))
noncomputable def g_crc_Open (x0 : List AV) : Option (List AV × Int) := (T_crc_Open x0).val
set_option maxRecDepth 100000 in
theorem c_crc_Open (ls : List AV) (Rv : List AV × Int → Prop) : callA E_crc_Open Try.f15 (instL ls P_crc_Open 0) [] (outP O_crc_Open fun ls => Rv (tup_crc_Open ls)) = (T_crc_Open (getXs (ls.getD 0 .junk))).fold False Rv := by kernel_rfl
noncomputable def S_crc_Open : Go.Cx.Spec := pureS (patF P_crc_Open fun ls => opt (g_crc_Open (getXs (ls.getD 0 .junk))) fun x => .r (res_crc_Open x))
set_option maxRecDepth 100000 in
theorem S_crc_Open_ok : Sound Try.prog 15 S_crc_Open :=
  pure_flat (E := E_crc_Open) (TblOK.enK TYbG513t_ok _ _ _ _ _) mixed rfl Try.func15 (c := Try.f15.body.getD .skip) (by kernel_rfl) (by kernel_rfl) (pats := P_crc_Open) (O := O_crc_Open) (tup := tup_crc_Open) (res := res_crc_Open) (g := fun ls => g_crc_Open (getXs (ls.getD 0 .junk))) (T := fun ls => T_crc_Open (getXs (ls.getD 0 .junk))) (fun _ => rfl) (fun ls => by kernel_rfl) c_crc_Open

noncomputable def TYbG514t : FuncId → Option Go.Cx.Spec := addT TYbG513t 15 S_crc_Open
theorem TYbG514t_ok : TblOK Try.prog TYbG514t := TYbG513t_ok.add S_crc_Open_ok

/- comptoir/comptoirhelp.Bytes -/
noncomputable def E_comptoirhelp_Bytes : En := enK Try.prog TYbG514t [] [] [] [] 0
def P_comptoirhelp_Bytes : List Pat := [.leaf (.slice 1 (.int .u8)), .leaf (.slice 1 (.int .u8))]
def O_comptoirhelp_Bytes : Pat := .leaf .bool
def tup_comptoirhelp_Bytes : List AV → Bool := fun ls => getB (ls.getD 0 .junk)
def res_comptoirhelp_Bytes : Bool → AV := fun x => .bool (x)
noncomputable def T_comptoirhelp_Bytes (x0 : List AV) (x1 : List AV) : Tr (Bool) := (.r (Go.Cx.bytesOf x0 == Go.Cx.bytesOf x1))
noncomputable def g_comptoirhelp_Bytes (x0 : List AV) (x1 : List AV) : Option (Bool) := (T_comptoirhelp_Bytes x0 x1).val
set_option maxRecDepth 100000 in
theorem c_comptoirhelp_Bytes (ls : List AV) (Rv : Bool → Prop) : callA E_comptoirhelp_Bytes Try.f19 (instL ls P_comptoirhelp_Bytes 0) [] (outP O_comptoirhelp_Bytes fun ls => Rv (tup_comptoirhelp_Bytes ls)) = (T_comptoirhelp_Bytes (getXs (ls.getD 0 .junk)) (getXs (ls.getD 1 .junk))).fold False Rv := by kernel_rfl
noncomputable def S_comptoirhelp_Bytes : Go.Cx.Spec := pureS (patF P_comptoirhelp_Bytes fun ls => opt (g_comptoirhelp_Bytes (getXs (ls.getD 0 .junk)) (getXs (ls.getD 1 .junk))) fun x => .r (res_comptoirhelp_Bytes x))
set_option maxRecDepth 100000 in
theorem S_comptoirhelp_Bytes_ok : Sound Try.prog 19 S_comptoirhelp_Bytes :=
  pure_flat (E := E_comptoirhelp_Bytes) (TblOK.enK TYbG514t_ok _ _ _ _ _) mixed rfl Try.func19 (c := Try.f19.body.getD .skip) (by kernel_rfl) (by kernel_rfl) (pats := P_comptoirhelp_Bytes) (O := O_comptoirhelp_Bytes) (tup := tup_comptoirhelp_Bytes) (res := res_comptoirhelp_Bytes) (g := fun ls => g_comptoirhelp_Bytes (getXs (ls.getD 0 .junk)) (getXs (ls.getD 1 .junk))) (T := fun ls => T_comptoirhelp_Bytes (getXs (ls.getD 0 .junk)) (getXs (ls.getD 1 .junk))) (fun _ => rfl) (fun ls => by kernel_rfl) c_comptoirhelp_Bytes

noncomputable def TYbG515t : FuncId → Option Go.Cx.Spec := addT TYbG514t 19 S_comptoirhelp_Bytes
theorem TYbG515t_ok : TblOK Try.prog TYbG515t := TYbG514t_ok.add S_comptoirhelp_Bytes_ok

/- comptoir/comptoirlaw05.awake -/
noncomputable def E_comptoirlaw05_awake : En := enK Try.prog TYbG515t [9] [] [] [] 0
def P_comptoirlaw05_awake : List Pat := []
def O_comptoirlaw05_awake : Pat := .leaf .bool
def tup_comptoirlaw05_awake : List AV → Bool := fun ls => getB (ls.getD 0 .junk)
def res_comptoirlaw05_awake : Bool → AV := fun x => .bool (x)
noncomputable def T_comptoirlaw05_awake : Tr (Bool) := (opt (Go.Proofs.Ytaejmfmamhdlhaa.g_crc_Seal [Go.Cx.AV.int Go.IntKind.u8 (7 : Int)]) fun (y0 : List Go.Cx.AV) => (opt (Go.Proofs.Ytaejmfmamhdlhaa.g_crc_Open y0) fun (y1 : List Go.Cx.AV × Int) => (opt (Go.Proofs.Ytaejmfmamhdlhaa.g_crc_Of [Go.Cx.AV.int Go.IntKind.u8 (49 : Int), Go.Cx.AV.int Go.IntKind.u8 (50 : Int), Go.Cx.AV.int Go.IntKind.u8 (51 : Int), Go.Cx.AV.int Go.IntKind.u8 (52 : Int), Go.Cx.AV.int Go.IntKind.u8 (53 : Int), Go.Cx.AV.int Go.IntKind.u8 (54 : Int), Go.Cx.AV.int Go.IntKind.u8 (55 : Int), Go.Cx.AV.int Go.IntKind.u8 (56 : Int), Go.Cx.AV.int Go.IntKind.u8 (57 : Int)]) fun (y2 : Int) => (.c (y2 == (3421780262 : Int)) (.c (Prod.snd y1 == (0 : Int)) (.r (Go.Cx.bytesOf (Prod.fst y1) == [(7 : UInt8)])) (.r (Bool.false))) (.r (Bool.false))))))
noncomputable def g_comptoirlaw05_awake : Option (Bool) := (T_comptoirlaw05_awake).val
set_option maxRecDepth 100000 in
theorem c_comptoirlaw05_awake (ls : List AV) (Rv : Bool → Prop) : callA E_comptoirlaw05_awake Try.f13 (instL ls P_comptoirlaw05_awake 0) [] (outP O_comptoirlaw05_awake fun ls => Rv (tup_comptoirlaw05_awake ls)) = (T_comptoirlaw05_awake).fold False Rv := by kernel_rfl
noncomputable def S_comptoirlaw05_awake : Go.Cx.Spec := pureS (patF P_comptoirlaw05_awake fun ls => opt (g_comptoirlaw05_awake) fun x => .r (res_comptoirlaw05_awake x))
set_option maxRecDepth 100000 in
theorem S_comptoirlaw05_awake_ok : Sound Try.prog 13 S_comptoirlaw05_awake :=
  pure_flat (E := E_comptoirlaw05_awake) (TblOK.enK TYbG515t_ok _ _ _ _ _) mixed rfl Try.func13 (c := Try.f13.body.getD .skip) (by kernel_rfl) (by kernel_rfl) (pats := P_comptoirlaw05_awake) (O := O_comptoirlaw05_awake) (tup := tup_comptoirlaw05_awake) (res := res_comptoirlaw05_awake) (g := fun ls => g_comptoirlaw05_awake) (T := fun ls => T_comptoirlaw05_awake) (fun _ => rfl) (fun ls => by kernel_rfl) c_comptoirlaw05_awake

noncomputable def TYbG516t : FuncId → Option Go.Cx.Spec := addT TYbG515t 13 S_comptoirlaw05_awake
theorem TYbG516t_ok : TblOK Try.prog TYbG516t := TYbG515t_ok.add S_comptoirlaw05_awake_ok

/- comptoir/comptoirlaw05.CrcJoins -/
noncomputable def E_comptoirlaw05_CrcJoins : En := enK Try.prog TYbG516t [] [] [] [] 0
def P_comptoirlaw05_CrcJoins : List Pat := [.leaf (.slice 1 (.int .u8))]
def O_comptoirlaw05_CrcJoins : Pat := .leaf .bool
def tup_comptoirlaw05_CrcJoins : List AV → Bool := fun ls => getB (ls.getD 0 .junk)
def res_comptoirlaw05_CrcJoins : Bool → AV := fun x => .bool (x)
noncomputable def T_comptoirlaw05_CrcJoins (x0 : List AV) : Tr (Bool) := (.c (Decidable.decide ((↑(List.length x0) : Int) > (300 : Int))) (opt (Go.Proofs.Ytaejmfmamhdlhaa.g_comptoirlaw05_awake) fun (y0 : Bool) => (.r (y0))) (opt (Go.Proofs.Ytaejmfmamhdlhaa.g_crc_Of x0) fun (y0 : Int) => (.c (Decidable.decide (List.length x0 * (2 : Nat) < (70368744177664 : Nat))) (.c (List.length x0 == List.length x0) (.c (Decidable.decide (List.length (x0 ++ [Go.Cx.AV.int Go.IntKind.u8 (Go.IntKind.wrap Go.IntKind.u8 y0), Go.Cx.AV.int Go.IntKind.u8 (Go.IntKind.wrap Go.IntKind.u8 (Go.Cx.shrA Go.IntKind.u32 y0 (8 : Int))), Go.Cx.AV.int Go.IntKind.u8 (Go.IntKind.wrap Go.IntKind.u8 (Go.Cx.shrA Go.IntKind.u32 y0 (16 : Int))), Go.Cx.AV.int Go.IntKind.u8 (Go.IntKind.wrap Go.IntKind.u8 (Go.Cx.shrA Go.IntKind.u32 y0 (24 : Int)))]) * (2 : Nat) < (70368744177664 : Nat))) (opt (Go.Proofs.Ytaejmfmamhdlhaa.g_comptoirlaw05_awake) fun (y1 : Bool) => (.c (y1) (.c (bif List.length (x0 ++ [Go.Cx.AV.int Go.IntKind.u8 (Go.IntKind.wrap Go.IntKind.u8 y0), Go.Cx.AV.int Go.IntKind.u8 (Go.IntKind.wrap Go.IntKind.u8 (Go.Cx.shrA Go.IntKind.u32 y0 (8 : Int))), Go.Cx.AV.int Go.IntKind.u8 (Go.IntKind.wrap Go.IntKind.u8 (Go.Cx.shrA Go.IntKind.u32 y0 (16 : Int))), Go.Cx.AV.int Go.IntKind.u8 (Go.IntKind.wrap Go.IntKind.u8 (Go.Cx.shrA Go.IntKind.u32 y0 (24 : Int)))]) == List.length (x0 ++ [Go.Cx.AV.int Go.IntKind.u8 (Go.IntKind.wrap Go.IntKind.u8 y0), Go.Cx.AV.int Go.IntKind.u8 (Go.IntKind.wrap Go.IntKind.u8 (Go.Cx.shrA Go.IntKind.u32 y0 (8 : Int))), Go.Cx.AV.int Go.IntKind.u8 (Go.IntKind.wrap Go.IntKind.u8 (Go.Cx.shrA Go.IntKind.u32 y0 (16 : Int))), Go.Cx.AV.int Go.IntKind.u8 (Go.IntKind.wrap Go.IntKind.u8 (Go.Cx.shrA Go.IntKind.u32 y0 (24 : Int)))]) then Bool.true else Bool.false) (opt (Go.Proofs.Ytaejmfmamhdlhaa.g_crc_Of (x0 ++ [Go.Cx.AV.int Go.IntKind.u8 (Go.IntKind.wrap Go.IntKind.u8 y0), Go.Cx.AV.int Go.IntKind.u8 (Go.IntKind.wrap Go.IntKind.u8 (Go.Cx.shrA Go.IntKind.u32 y0 (8 : Int))), Go.Cx.AV.int Go.IntKind.u8 (Go.IntKind.wrap Go.IntKind.u8 (Go.Cx.shrA Go.IntKind.u32 y0 (16 : Int))), Go.Cx.AV.int Go.IntKind.u8 (Go.IntKind.wrap Go.IntKind.u8 (Go.Cx.shrA Go.IntKind.u32 y0 (24 : Int)))])) fun (y2 : Int) => (opt (Go.Proofs.Ytaejmfmamhdlhaa.g_crc_Of [Go.Cx.AV.int Go.IntKind.u8 (0 : Int), Go.Cx.AV.int Go.IntKind.u8 (0 : Int), Go.Cx.AV.int Go.IntKind.u8 (0 : Int), Go.Cx.AV.int Go.IntKind.u8 (0 : Int)]) fun (y3 : Int) => (.c (y2 == y3) (opt (Go.Proofs.Ytaejmfmamhdlhaa.g_crc_Of []) fun (y4 : Int) => (.c (y4 == (0 : Int)) (.c (List.length x0 == (0 : Nat)) (opt (Go.Proofs.Ytaejmfmamhdlhaa.g_crc_Of [Go.Cx.AV.int Go.IntKind.u8 (0 : Int)]) fun (y5 : Int) => (.c (List.length x0 == (0 : Nat)) (opt (Go.Proofs.Ytaejmfmamhdlhaa.g_crc_Of [Go.Cx.AV.int Go.IntKind.u8 (0 : Int), Go.Cx.AV.int Go.IntKind.u8 (0 : Int)]) fun (y6 : Int) => (.r (y5 != y6))) (.c (Decidable.decide ((0 : Nat) < List.length x0)) (.c (Decidable.decide (List.length ([Go.Cx.AV.int Go.IntKind.u8 (0 : Int), Go.Cx.AV.int Go.IntKind.u8 (0 : Int)] ++ x0) * (2 : Nat) < (70368744177664 : Nat))) (.c (bif List.length ([Go.Cx.AV.int Go.IntKind.u8 (0 : Int), Go.Cx.AV.int Go.IntKind.u8 (0 : Int)] ++ x0) == List.length ([Go.Cx.AV.int Go.IntKind.u8 (0 : Int), Go.Cx.AV.int Go.IntKind.u8 (0 : Int)] ++ x0) then Bool.true else Bool.false) (opt (Go.Proofs.Ytaejmfmamhdlhaa.g_crc_Of ([Go.Cx.AV.int Go.IntKind.u8 (0 : Int), Go.Cx.AV.int Go.IntKind.u8 (0 : Int)] ++ x0)) fun (y6 : Int) => (.r (y5 != y6))) .bad) .bad) .bad))) (.c (Decidable.decide ((0 : Nat) < List.length x0)) (.c (Decidable.decide (List.length ([Go.Cx.AV.int Go.IntKind.u8 (0 : Int)] ++ x0) * (2 : Nat) < (70368744177664 : Nat))) (.c (bif List.length ([Go.Cx.AV.int Go.IntKind.u8 (0 : Int)] ++ x0) == List.length ([Go.Cx.AV.int Go.IntKind.u8 (0 : Int)] ++ x0) then Bool.true else Bool.false) (opt (Go.Proofs.Ytaejmfmamhdlhaa.g_crc_Of ([Go.Cx.AV.int Go.IntKind.u8 (0 : Int)] ++ x0)) fun (y5 : Int) => (.c (List.length x0 == (0 : Nat)) (opt (Go.Proofs.Ytaejmfmamhdlhaa.g_crc_Of [Go.Cx.AV.int Go.IntKind.u8 (0 : Int), Go.Cx.AV.int Go.IntKind.u8 (0 : Int)]) fun (y6 : Int) => (.r (y5 != y6))) (.c (Decidable.decide ((0 : Nat) < List.length x0)) (.c (Decidable.decide (List.length ([Go.Cx.AV.int Go.IntKind.u8 (0 : Int), Go.Cx.AV.int Go.IntKind.u8 (0 : Int)] ++ x0) * (2 : Nat) < (70368744177664 : Nat))) (.c (bif List.length ([Go.Cx.AV.int Go.IntKind.u8 (0 : Int), Go.Cx.AV.int Go.IntKind.u8 (0 : Int)] ++ x0) == List.length ([Go.Cx.AV.int Go.IntKind.u8 (0 : Int), Go.Cx.AV.int Go.IntKind.u8 (0 : Int)] ++ x0) then Bool.true else Bool.false) (opt (Go.Proofs.Ytaejmfmamhdlhaa.g_crc_Of ([Go.Cx.AV.int Go.IntKind.u8 (0 : Int), Go.Cx.AV.int Go.IntKind.u8 (0 : Int)] ++ x0)) fun (y6 : Int) => (.r (y5 != y6))) .bad) .bad) .bad))) .bad) .bad) .bad)) (.r (Bool.false)))) (.r (Bool.false))))) .bad) (.r (Bool.false)))) .bad) .bad) .bad)))
noncomputable def g_comptoirlaw05_CrcJoins (x0 : List AV) : Option (Bool) := (T_comptoirlaw05_CrcJoins x0).val
set_option maxRecDepth 100000 in
theorem c_comptoirlaw05_CrcJoins (ls : List AV) (Rv : Bool → Prop) : callA E_comptoirlaw05_CrcJoins Try.f5 (instL ls P_comptoirlaw05_CrcJoins 0) [] (outP O_comptoirlaw05_CrcJoins fun ls => Rv (tup_comptoirlaw05_CrcJoins ls)) = (T_comptoirlaw05_CrcJoins (getXs (ls.getD 0 .junk))).fold False Rv := by kernel_rfl
theorem eok_comptoirlaw05_CrcJoins : EnOK E_comptoirlaw05_CrcJoins := TblOK.enK TYbG516t_ok _ _ _ _ _


end Go.Proofs.Ytaejmfmamhdlhaa
