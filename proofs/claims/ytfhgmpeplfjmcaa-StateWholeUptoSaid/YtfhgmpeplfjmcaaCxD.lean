/- Single operations: those that touch no memory. -/
import Derived.LaidEqlPtr
import Derived.Test.YtfhgmpeplfjmcaaCxC
import Derived.Laws.Entries
import Derived.Laws.Slices
import Derived.Laws.StructEq
namespace Go.Cx
open Go.RowKit (Below)
set_option linter.unusedSimpArgs false
theorem ofCell_V (g : Gh) (v : Value) : V g (ofCell v) v := by
  cases v with
  | bool b => exact .bool b
  | int k n => exact .int k n
  | string s =>
    simp only [ofCell]
    split
    · rename_i h
      obtain ⟨⟨l⟩⟩ := s
      exact .str l (LIM_TOP (by simpa using h))
    · exact .junk _
  | pointer a => cases a with
    | none => exact .nilptr
    | some a => exact .junk _
  | slice a n c =>
    cases a with
    | none =>
      cases n with
      | zero => cases c with
        | zero => exact .nilsl
        | succ c => exact .junk _
      | succ n => exact .junk _
    | some a => exact .junk _
  | nilFunc => exact .nilfunc
  | nilIface => exact .nilIface
  | _ => exact .junk _
theorem ofConst_V (g : Gh) (v : Value) : V g (ofConst v) v := by
  cases v with
  | agg cs =>
    refine .agg _ _ (by simp) fun i c v h1 h2 => ?_
    simp only [List.getElem?_map] at h1
    cases hc : cs[i]? with
    | none => rw [hc] at h2; simp at h2
    | some x =>
      rw [hc] at h2; cases h2
      have : cs.toList[i]? = some v := by simpa using hc
      rw [this] at h1; simp at h1; subst h1
      exact ofCell_V g v
  | _ => simp only [ofConst]; exact ofCell_V g _
theorem eval_V {g : Gh} {fr : List AV} {a : Act} (h : VL g fr a.tmps.toList) (x : Operand) : V g (evalA fr x) (a.eval x) := by
  cases x with
  | tmp t => have := h.getD t; simpa [evalA, getR_eq, Act.eval, Array.getD_eq_getD_getElem?, List.getD_eq_getElem?_getD] using this
  | const v => exact ofConst_V g v
  | global i => exact .junk _
  | func f => exact .func f [] [] #[] #[] rfl (fun i c v h => by simp at h) rfl (fun i c v h => by simp at h)
theorem evals_VL {g : Gh} {fr : List AV} {a : Act} (h : VL g fr a.tmps.toList) (xs : List Operand) : VL g (xs.map (evalA fr)) (xs.map a.eval) := by
  refine ⟨by simp, fun i c v h1 h2 => ?_⟩
  simp only [List.getElem?_map] at h1 h2
  cases hx : xs[i]? with
  | none => rw [hx] at h1; simp at h1
  | some x => rw [hx] at h1 h2; simp at h1 h2; subst h1 h2; exact eval_V h x
section
variable {P : Program} {t : TypeId}
theorem tk_int {k : IntKind} (h : tk P t = .int k) : P.underlying t = some (.int k) := by
  rw [tk_def] at h; split at h <;> simp_all
theorem tk_bool (h : tk P t = .bool) : P.underlying t = some .bool := by
  rw [tk_def] at h; split at h <;> simp_all
theorem tk_str (h : tk P t = .str) : P.underlying t = some .string := by
  rw [tk_def] at h; split at h <;> simp_all
theorem tk_slice {e : TypeId} (h : tk P t = .slice e) : P.underlying t = some (.slice e) := by
  rw [tk_def] at h; split at h <;> simp_all
theorem tk_array {n : Nat} {e : TypeId} (h : tk P t = .array n e) : P.underlying t = some (.array n e) := by
  rw [tk_def] at h; split at h <;> simp_all
theorem tk_struct {l : List (Nat × TypeId)} (h : tk P t = .struct l) : ∃ fs, P.underlying t = some (.struct fs) ∧ l = fs.toList.map fun f => (f.offset, f.type) := by
  rw [tk_def] at h; split at h <;> simp_all
theorem tk_pointer {e : TypeId} (h : tk P t = .pointer e) : P.underlying t = some (.pointer e) := by
  rw [tk_def] at h; split at h <;> simp_all
theorem tk_func (h : tk P t = .func) : ∃ a b c, P.underlying t = some (.func a b c) := by
  rw [tk_def] at h; split at h <;> simp_all
theorem info_of_underlying {d : TypeDesc} (h : P.underlying t = some d) : ∃ i, P.info? t = some i := by
  unfold Program.underlying at h
  cases hi : P.info? t with
  | none => rw [hi] at h; simp at h
  | some i => exact ⟨i, rfl⟩
theorem run_sizeOf {i : TypeInfo} (h : P.info? t = some i) (w : World) : (sizeOf t).run P w = .ok (sizeA P t) w := by
  simp [sizeOf, typeInfo, h, sizeA, infoF_eq]
theorem run_typeInfo' {i : TypeInfo} (h : P.info? t = some i) (w : World) : (typeInfo t).run P w = .ok i w := by
  simp [typeInfo, h]
theorem run_sizeOf_u {d : TypeDesc} (h : P.underlying t = some d) (w : World) : (sizeOf t).run P w = .ok (sizeA P t) w := by
  obtain ⟨i, hi⟩ := info_of_underlying h; exact run_sizeOf hi w
end
theorem toList_mk (l : List UInt8) : (ByteArray.mk ⟨l⟩).toList = l := by
  rw [ByteArray.toList_eq]
def Gives (P : Program) (g : Gh) (w : World) (s : Sem Value) (v : AV) : Prop := ∃ cv, s.run P w = .ok cv w ∧ V g v cv
theorem bits_run {P : Program} {w : World} (op : BinOp) (k : IntKind) (x y : Int) (h : op = .and ∨ op = .or ∨ op = .xor ∨ op = .andNot) :
    (Op.intBits op k x y).run P w = .ok (.int k (bitsA op k x y)) w := by
  rcases h with rfl | rfl | rfl | rfl <;> rfl
section
variable {P : Program} {g : Gh} {w : World}
theorem int_inv {k : IntKind} {n : Int} {v : Value} (h : V g (.int k n) v) : v = .int k n := by cases h; rfl
theorem bool_inv {b : Bool} {v : Value} (h : V g (.bool b) v) : v = .bool b := by cases h; rfl
theorem str_inv {s : List UInt8} {v : Value} (h : V g (.str s) v) : v = .string ⟨⟨s⟩⟩ ∧ s.length < TOP := by cases h; exact ⟨rfl, by assumption⟩
theorem eqCell_sound {t : TypeId} {a b : AV} {r : Bool} (h : eqCell P t a b = some r) {x y : Value} (hx : V g a x) (hy : V g b y) (d : Nat) :
    (Op.equalIn (d + 1) t x y).run P w = .ok r w := by
  unfold eqCell at h
  split at h
  · cases int_inv hx; cases int_inv hy
    split at h
    · rename_i k ht
      split at h <;> simp at h
      rename_i e; subst e; subst h
      simp [Op.equalIn, run_underlying (tk_int ht)]
    · simp at h
  · cases bool_inv hx; cases bool_inv hy
    split at h <;> simp at h
    rename_i ht; subst h
    simp [Op.equalIn, run_underlying (tk_bool ht)]
  · obtain ⟨rfl, _⟩ := str_inv hx; obtain ⟨rfl, _⟩ := str_inv hy
    split at h <;> simp at h
    rename_i ht; subst h
    simp [run_equalIn_string w d t _ _ (tk_str ht), toList_mk]
  · simp at h
theorem part_run {t : TypeId} {cs : Array Value} {i : Nat} {v : Value} (hu : ∃ d, P.underlying t = some d ∧ (match d with | .struct _ | .array _ _ => False | _ => True)) (hv : cs[i]? = some v) :
    (part t cs i).run P w = .ok v w := by
  obtain ⟨d, hu, hd⟩ := hu
  have : (isAgg t).run P w = .ok false w := by
    simp only [isAgg, Sem.run_bind, run_underlying hu, Result.andThen_ok]
    cases d <;> simp_all
  simp [part, this, hv]
theorem eqCell_plain {t : TypeId} {a b : AV} {r : Bool} (h : eqCell P t a b = some r) : ∃ d, P.underlying t = some d ∧ (match d with | .struct _ | .array _ _ => False | _ => True) := by
  unfold eqCell at h
  split at h
  · split at h
    · rename_i ht; exact ⟨_, tk_int ht, trivial⟩
    · simp at h
  · split at h
    · rename_i ht; exact ⟨_, tk_bool ht, trivial⟩
    · simp at h
  · split at h
    · rename_i ht; exact ⟨_, tk_str ht, trivial⟩
    · simp at h
  · simp at h
theorem eqFields_sound (d : Nat) {X Y : Array Value} : ∀ (fs : List Field) (k : Nat) (as bs : List AV) (r : Bool), eqCells P (fs.map (·.type)) as bs = some r →
    fs.all (fun f => f.name != "_") = true → fs.map (·.offset) = (List.range fs.length).map (k + ·) → VL g as (X.toList.drop k) → VL g bs (Y.toList.drop k) →
    (Op.eqFields (d + 1) X Y fs).run P w = .ok r w
  | [], k, as, bs, r, h, _, _, _, _ => by
    cases as <;> cases bs <;> simp [eqCells] at h
    subst h; simp [Op.eqFields]
  | f :: fs, k, as, bs, r, h, hn, ho, ha, hb => by
    cases as with
    | nil => simp [eqCells] at h
    | cons a as =>
      cases bs with
      | nil => simp [eqCells] at h
      | cons b bs =>
        simp only [List.map_cons, eqCells] at h
        split at h
        · rename_i p q hp hq
          simp at h; subst h
          simp only [List.all_cons, Bool.and_eq_true] at hn
          simp only [List.map_cons, List.length_cons, List.range_succ_eq_map, List.map_map] at ho
          have ho1 := (List.cons.inj ho).1
          have ho2 := (List.cons.inj ho).2
          simp only [Nat.add_zero] at ho1
          obtain ⟨va, vas, e1, v1, v2⟩ := ha.cons_inv
          obtain ⟨vb, vbs, e2, v3, v4⟩ := hb.cons_inv
          have hX : X[f.offset]? = some va := by
            have := congrArg (fun l => l[0]?) e1; simpa [ho1] using this
          have hY : Y[f.offset]? = some vb := by
            have := congrArg (fun l => l[0]?) e2; simpa [ho1] using this
          have dX : X.toList.drop (k + 1) = vas := by rw [← List.drop_drop, e1]; rfl
          have dY : Y.toList.drop (k + 1) = vbs := by rw [← List.drop_drop, e2]; rfl
          have pl := eqCell_plain hp
          have ih := eqFields_sound d fs (k + 1) as bs q hq hn.2 (by rw [ho2]; apply List.map_congr_left; intro i _; simp; omega) (dX ▸ v2) (dY ▸ v4)
          have hn' : f.name ≠ "_" := by simpa using hn.1
          rw [Op.eqFields]
          simp only [if_pos hn', Sem.run_bind, part_run pl hX, part_run pl hY, eqCell_sound hp v1 v3 d, Result.andThen_ok]
          cases p
          · simp
          · simpa using ih
        · simp at h
theorem eqd_nn (d : Nat) {t e : TypeId} (ht : P.underlying t = some (.pointer e)) : (Op.equalIn (d + 1) t (.pointer none) (.pointer none)).run P w = .ok true w := by
  simp [Op.equalIn, run_underlying ht]
theorem eqd_sn (d : Nat) {t e : TypeId} (a : Addr) (ht : P.underlying t = some (.pointer e)) : (Op.equalIn (d + 1) t (.pointer (some a)) (.pointer none)).run P w = .ok false w := by
  simp [Op.equalIn, run_underlying ht]
theorem eqd_ns (d : Nat) {t e : TypeId} (a : Addr) (ht : P.underlying t = some (.pointer e)) : (Op.equalIn (d + 1) t (.pointer none) (.pointer (some a))).run P w = .ok false w := by
  simp [Op.equalIn, run_underlying ht]
theorem eqd_same (d : Nat) {t e : TypeId} {j : TypeInfo} (a : Addr) (ht : P.underlying t = some (.pointer e)) (he : P.info? e = some j) : (Op.equalIn (d + 1) t (.pointer (some a)) (.pointer (some a))).run P w = .ok true w := by
  simp [Op.equalIn, run_underlying ht, sizeOf, typeInfo, he, run_sameAddr_same]
theorem eqd_slnn (d : Nat) {t e : TypeId} (l c l' c' : Nat) (ht : P.underlying t = some (.slice e)) : (Op.equalIn (d + 1) t (.slice none l c) (.slice none l' c')).run P w = .ok true w := by
  simp [Op.equalIn, run_underlying ht]
theorem eqd_slsn (d : Nat) {t e : TypeId} (a : Addr) (l c l' c' : Nat) (ht : P.underlying t = some (.slice e)) : (Op.equalIn (d + 1) t (.slice (some a) l c) (.slice none l' c')).run P w = .ok false w := by
  simp [Op.equalIn, run_underlying ht]
theorem eqd_fnn (d : Nat) {t : TypeId} {p q : Array TypeId} {v : Bool} (ht : P.underlying t = some (.func p q v)) : (Op.equalIn (d + 1) t .nilFunc .nilFunc).run P w = .ok true w := by
  simp [Op.equalIn, run_underlying ht]
theorem eqd_fsn (d : Nat) {t : TypeId} {p q : Array TypeId} {v : Bool} (f : Fn) (a b : Array Value) (ht : P.underlying t = some (.func p q v)) : (Op.equalIn (d + 1) t (.func f a b) .nilFunc).run P w = .ok false w := by
  simp [Op.equalIn, run_underlying ht]
theorem equal_unfold (t : TypeId) (x y : Value) : Op.equal t x y = Op.equalIn (9999 + 1) t x y := rfl
theorem eqA_sound {t : TypeId} {x y : AV} {b : Bool} (h : eqA P t x y = some b) {cx cy : Value} (hx : V g x cx) (hy : V g y cy) :
    (Op.equal t cx cy).run P w = .ok b w ∧ (∀ op xo yo, (eqGuard op t xo yo cx cy).run P w = .ok () w) ∧
      binOp .eql t cx cy = (do pure (.bool (← Op.equal t cx cy))) ∧ binOp .neq t cx cy = (do pure (.bool (!(← Op.equal t cx cy)))) := by
  have triv : ∀ {cx cy : Value}, (∀ u v, (cx, cy) ≠ (.agg u, .agg v)) → (cx, cy) ≠ (.nilIface, .nilIface) → ∀ op xo yo, (eqGuard op t xo yo cx cy).run P w = .ok () w := by
    intro cx cy h1 h2 op xo yo
    unfold eqGuard
    (repeat' split) <;> first
      | rfl
      | (exact absurd rfl (h1 _ _))
      | (exact absurd rfl h2)
  unfold eqA at h
  rw [equal_unfold]
  split at h
  · cases bool_inv hx; cases bool_inv hy
    split at h <;> simp at h
    rename_i ht; subst h
    exact ⟨run_equalIn_bool' w _ t _ _ (tk_bool ht), triv (by simp) (by simp), rfl, rfl⟩
  · cases hx; cases hy
    split at h <;> simp at h
    rename_i ht; subst h
    exact ⟨eqd_nn _ (tk_pointer ht), triv (by simp) (by simp), rfl, rfl⟩
  · rename_i i o i' o'
    split at h
    · rename_i u ht
      split at h
      · rename_i hc
        obtain ⟨rfl, rfl, hT⟩ := hc
        simp only [Option.some.injEq] at h; subst h
        obtain ⟨j, hj⟩ := Option.isSome_iff_exists.1 (show (P.info? u).isSome = true by rw [← infoF_eq]; exact hT)
        cases hx with
        | ptr _ _ b1 h1 =>
          cases hy with
          | ptr _ _ b2 h2 =>
            rw [h1] at h2; cases h2
            exact ⟨eqd_same _ _ (tk_pointer ht) hj, triv (by simp) (by simp), rfl, rfl⟩
      · simp at h
    · simp at h
  iterate 3
    · cases hx; cases hy
      split at h <;> simp at h
      rename_i ht; subst h
      exact ⟨eqd_sn _ _ (tk_pointer ht), triv (by simp) (by simp), rfl, rfl⟩
  iterate 3
    · cases hx; cases hy
      split at h <;> simp at h
      rename_i ht; subst h
      exact ⟨eqd_ns _ _ (tk_pointer ht), triv (by simp) (by simp), rfl, rfl⟩
  · cases hx; cases hy
    split at h <;> simp at h
    rename_i ht; subst h
    exact ⟨eqd_slnn _ _ _ _ _ (tk_slice ht), triv (by simp) (by simp), rfl, rfl⟩
  iterate 2
    · cases hx <;> cases hy <;>
        (split at h <;> simp at h
         rename_i ht; subst h
         exact ⟨eqd_slsn _ _ _ _ _ _ (tk_slice ht), triv (by simp) (by simp), rfl, rfl⟩)
  · cases hx; cases hy
    split at h <;> simp at h
    rename_i ht; subst h
    obtain ⟨_, _, _, ht⟩ := tk_func ht
    exact ⟨eqd_fnn _ ht, triv (by simp) (by simp), rfl, rfl⟩
  · cases hx; cases hy
    split at h <;> simp at h
    rename_i ht; subst h
    obtain ⟨_, _, _, ht⟩ := tk_func ht
    exact ⟨eqd_fsn _ _ _ _ ht, triv (by simp) (by simp), rfl, rfl⟩
  · split at h
    · rename_i ts hp
      obtain ⟨xs, l1, v1⟩ : ∃ xs, cx = .agg xs ∧ VL g _ xs.toList := by cases hx; exact ⟨_, rfl, by simpa [VL] using ⟨‹_›, ‹_›⟩⟩
      obtain ⟨ys, l2, v2⟩ : ∃ ys, cy = .agg ys ∧ VL g _ ys.toList := by cases hy; exact ⟨_, rfl, by simpa [VL] using ⟨‹_›, ‹_›⟩⟩
      subst l1 l2
      unfold plainStruct at hp
      split at hp
      · rename_i fs hu
        rw [underF_eq] at hu
        split at hp
        · rename_i hc
          simp only [Bool.and_eq_true, Bool.not_eq_true', beq_iff_eq] at hc
          simp at hp; subst hp
          obtain ⟨⟨⟨c1, c2⟩, c3⟩, c4⟩ := hc
          have hf : P.fieldsOf t = fs := by simp [Program.fieldsOf, hu]
          refine ⟨?_, fun op xo yo => run_eqGuard_agg w op t xo yo xs ys c4, rfl, rfl⟩
          rw [run_equalIn_struct w 9999 t xs ys (by rw [hf]; exact hu) c1, hf]
          exact eqFields_sound 9998 fs.toList 0 _ _ b h c2 (by simpa using c3) (by simpa using v1) (by simpa using v2)
        · simp at hp
      · simp at hp
    · simp at h
  · simp at h
theorem ask_some {α : Type} {b : Bool} {k : Option α} {v : α} (h : ask none b k = some v) : b = true ∧ k = some v := by
  cases b <;> simp_all [ask]
theorem eqGuard_int (op : BinOp) (t : TypeId) (xo yo : Operand) (k k' : IntKind) (a b : Int) : (eqGuard op t xo yo (.int k a) (.int k' b)).run P w = .ok () w := by
  unfold eqGuard; split <;> rfl
theorem eqGuard_str (op : BinOp) (t : TypeId) (xo yo : Operand) (a b : ByteArray) : (eqGuard op t xo yo (.string a) (.string b)).run P w = .ok () w := by
  unfold eqGuard; split <;> rfl
theorem str_add {t : TypeId} (a b : List UInt8) (hb : a.length + b.length < LIM) : (binOp .add t (.string ⟨⟨a⟩⟩) (.string ⟨⟨b⟩⟩)).run P w = .ok (.string ⟨⟨a ++ b⟩⟩) w := by
  have e1 : (⟨⟨a⟩⟩ : ByteArray).size = a.length := rfl
  have e2 : (⟨⟨b⟩⟩ : ByteArray).size = b.length := rfl
  have e3 : (⟨⟨a⟩⟩ : ByteArray) ++ ⟨⟨b⟩⟩ = ⟨⟨a ++ b⟩⟩ := by
    apply ByteArray.ext; simp
  simp only [binOp, Op.stringOp, e1, e2, e3]
  rw [if_neg (by unfold LIM at hb; simp [IntKind.max, IntKind.signed, IntKind.bits]; omega)]
  rfl
theorem binA_sound {op : BinOp} {t : TypeId} {x y v : AV} (h : binA none P op t x y some = some v) {cx cy : Value} (hx : V g x cx) (hy : V g y cy) (xo yo : Operand) :
    ∃ cv, (do eqGuard op t xo yo cx cy; binOp op t cx cy : Sem Value).run P w = .ok cv w ∧ V g v cv := by
  unfold binA at h
  split at h
  · -- shl
    cases int_inv hx; cases int_inv hy
    obtain ⟨hb, h⟩ := ask_some h
    simp at h hb; subst h
    refine ⟨_, ?_, .int _ _⟩
    simp only [Sem.run_bind, eqGuard_int, Result.andThen_ok, binOp, Op.shift]
    rw [if_neg (by omega)]; rfl
  · cases int_inv hx; cases int_inv hy
    obtain ⟨hb, h⟩ := ask_some h
    simp at h hb; subst h
    refine ⟨_, ?_, .int _ _⟩
    simp only [Sem.run_bind, eqGuard_int, Result.andThen_ok, binOp, Op.shift]
    rw [if_neg (by omega)]; rfl
  · rename_i op k a k' b n1 n2
    cases int_inv hx; cases int_inv hy
    split at h
    · rename_i e; subst e
      simp only [Sem.run_bind, eqGuard_int, Result.andThen_ok]
      split at h
      · simp at h; subst h; exact ⟨_, by simp [binOp, Op.intArith], .int _ _⟩
      · simp at h; subst h; exact ⟨_, by simp [binOp, Op.intArith], .int _ _⟩
      · simp at h; subst h; exact ⟨_, by simp [binOp, Op.intArith], .int _ _⟩
      · cases hz : isZ b <;> simp [hz] at h
        subst h
        simp [isZ] at hz
        exact ⟨_, by simp [binOp, Op.intDiv, hz], .int _ _⟩
      · cases hz : isZ b <;> simp [hz] at h
        subst h
        simp [isZ] at hz
        exact ⟨_, by simp [binOp, Op.intDiv, hz], .int _ _⟩
      · simp at h; subst h; exact ⟨_, by simp only [binOp, ne_eq, not_true_eq_false, if_false]; exact bits_run _ _ _ _ (by simp), .int _ _⟩
      · simp at h; subst h; exact ⟨_, by simp only [binOp, ne_eq, not_true_eq_false, if_false]; exact bits_run _ _ _ _ (by simp), .int _ _⟩
      · simp at h; subst h; exact ⟨_, by simp only [binOp, ne_eq, not_true_eq_false, if_false]; exact bits_run _ _ _ _ (by simp), .int _ _⟩
      · simp at h; subst h; exact ⟨_, by simp only [binOp, ne_eq, not_true_eq_false, if_false]; exact bits_run _ _ _ _ (by simp), .int _ _⟩
      iterate 6 (simp at h; subst h; exact ⟨_, by simp [binOp, Op.intCmp], .bool _⟩)
      · simp at h
    · simp at h
  · obtain ⟨rfl, la⟩ := str_inv hx; obtain ⟨rfl, lb⟩ := str_inv hy
    simp only [Sem.run_bind, eqGuard_str, Result.andThen_ok]
    split at h
    · obtain ⟨hb, h⟩ := ask_some h
      simp at h hb; subst h
      refine ⟨_, ?_, .str _ (LIM_TOP (by simpa using hb))⟩
      exact str_add _ _ (by simpa using hb)
    iterate 6 (simp at h; subst h; exact ⟨_, by simp [binOp, Op.stringOp, toList_mk], .bool _⟩)
    · simp at h
  · split at h
    · rename_i b hb
      simp at h; subst h
      obtain ⟨h1, h2, h3, h4⟩ := eqA_sound (w := w) hb hx hy
      exact ⟨.bool b, by simp [h2, h3, h1], .bool _⟩
    · simp at h
  · split at h
    · rename_i b hb
      simp at h; subst h
      obtain ⟨h1, h2, h3, h4⟩ := eqA_sound (w := w) hb hx hy
      exact ⟨.bool (!b), by simp [h2, h4, h1], .bool _⟩
    · simp at h
  · simp at h
end
end Go.Cx
