/- Summaries of functions that leave the heap as it is. -/
import Derived.Test.YtfhgmpeplfjmcaaCxZ
namespace Go.Cx
open Go.RowKit (Below)
set_option linter.unusedSimpArgs false
def Gh.still (w : World) (imm : Nat → Nat → Option Value) : Gh := ⟨w.heap.size, w, fun _ => false, imm, fun _ => none, fun _ => none⟩
theorem R.still {w : World} {imm : Nat → Nat → Option Value} (h : ∀ b o v, imm b o = some v → w.cell? ⟨b, o, none⟩ = some v) : R (.still w imm) w [] where
  below := Below.refl _ _
  base := Nat.le_refl _
  frz := fun k hk => by simp [Gh.still] at hk
  imm := h
  objs := fun i => by simp [ObOK, Gh.still]
  inj := fun i j b _ _ _ ho => by rcases ho with ho | ⟨_, _, _, ho⟩ <;> simp [Gh.still] at ho
theorem VL.init {g : Gh} {fn : Func} {args : List AV} {vs : List Value} (h : VL g args vs) : VL g (initA fn args) (vs.toArray ++ Array.replicate (fn.ntmps - vs.toArray.size) undef).toList := by
  unfold initA
  have hl := h.1
  simp only [Array.toList_append, List.toList_toArray, Array.toList_replicate, List.size_toArray]
  refine VL.append h ⟨by simp [hl], fun i c v e1 e2 => ?_⟩
  have := List.eq_of_mem_replicate (List.mem_of_getElem? e1)
  subst this
  exact .junk v
theorem calls_small {E : En} (hE : EnOK E) (hm : E.P.follows .mixedOrders = true) (h0 : E.keep = 0) {f : FuncId} {fn : Func} {c : Code} (hf : E.P.funcs[f]? = some fn) (hb : fn.body = some c)
    {args : List AV} {S : AV → Prop} (h : callA E fn args [] (fun r _ => S r)) {g : Gh} {w : World} (hR : R g w []) {vs : List Value} (hv : VL g args vs) :
    Calls E.P f vs.toArray w fun e w' => ∃ v g' r, e = .returned v ∧ g.le g' ∧ R g' w' [] ∧ V g' r v ∧ refs 0 r = true ∧ S r := by
  unfold callA at h
  rw [hb] at h
  simp only at h
  have hrel : Rel g g ⟨initA fn args, []⟩ { tmps := vs.toArray ++ Array.replicate (fn.ntmps - vs.toArray.size) undef, defers := [] } w := ⟨Gh.le.refl g, hR, hv.init, rfl⟩
  refine calls_of_wp hf hb (Code.wp_mono (fun e a w' hq => ?_) (wp_sound_E hE hm (by rw [h0]; exact Ids.of_le (Gh.le.refl g) hR) (fun i hi => Ids.of_le (Gh.le.refl g) hR i (by simp)) h hrel))
  have key : ∀ {g' : Gh} {st : St}, Rel g g' st a w' → (resA False E.P st fn.results.toList fun vs => xgcK E.xgc E.base vs st.hp fun vs hp => exitA False E.keep (tupA vs) hp fun r _ => S r) →
      a.defers = [] ∧ ∃ v, (results fn a.tmps).run E.P w' = .ok v w' ∧ (fun e w' => ∃ v g' r, e = .returned v ∧ g.le g' ∧ R g' w' [] ∧ V g' r v ∧ refs 0 r = true ∧ S r : Ending → World → Prop) (.returned v) w' := by
    intro g' st hr hk
    obtain ⟨vs, cs, h1, h2, h3⟩ := results_sound hr.r hr.vl hk
    refine ⟨hr.defers, _, h1, ?_⟩
    obtain ⟨g1, vs1, hp0, x1, x2, x3, h3⟩ := xgcK_sound h3 hr.le hr.r h2 (fun i hi => Ids.of_le (Gh.le.refl g) hR i (by simp))
    unfold exitA at h3
    rw [h0] at h3
    obtain ⟨g2, hp1, y, i1, i2, i3, i4, i5, i6, -, -⟩ := giveA_sound _ h3 (Gv.refl 0 x2) (resV_V x3)
    simp only [List.take_zero, giveOA] at i6
    have hid : Ids g 0 := Ids.of_le (Gh.le.refl g) hR
    exact ⟨_, g2.trim 0, y, rfl, (x1.trans i1).trim hid, i3.r.trim (m := 0) (by simp), i4.trim (.inr i5), i5, i6⟩
  cases e with
  | normal => obtain ⟨g', st, hr, hk⟩ := hq; exact key hr hk
  | ret => obtain ⟨g', st, hr, hk⟩ := hq; exact key hr hk
  | exit id => obtain ⟨g', st, hr, hk⟩ := hq; exact hk.elim
  | goto l => exact hq.elim
  | panic ch => exact hq.elim
  | outgrown => exact hq.elim
theorem R.back {g : Gh} {w : World} {hp : List Ob} (h : R g w hp) {imm : Nat → Nat → Option Value} {g3 : Gh} {w' : World} (hle : (Gh.still w imm).le g3) (h3 : R g3 w' []) :
    ∃ g', g.le g' ∧ R g' w' hp ∧ ((∀ b o, b < w.heap.size → imm b o = g.imm b o) → ∀ b o, g'.imm b o = g3.imm b o) := by
  have hbase : g3.base = w.heap.size := hle.base
  have hw0 : g3.w0 = w := hle.w0
  have hbel : Below w.heap.size w w' := by have := h3.below; rwa [hbase, hw0] at this
  let g' : Gh := { g with imm := fun b o => if b < w.heap.size then g.imm b o else g3.imm b o }
  have gsz : ∀ b o v, g.imm b o = some v → b < w.heap.size := fun b o v e => cell_lt (h.imm b o v e)
  have hle' : g.le g' := by
    refine ⟨rfl, rfl, rfl, fun b o hn => ?_, fun b o v e => ?_, fun _ _ e => e, fun _ _ _ _ _ e => ⟨_, e, Hdr.refl _ _ _ _⟩⟩
    · show (if b < w.heap.size then g.imm b o else g3.imm b o) = g.imm b o
      split
      · rfl
      · rename_i hb
        exfalso
        refine hn ⟨by have := h.base; omega, ?_⟩
        cases hk : g.frz b with
        | false => rfl
        | true => have := (h.frz b hk).1; omega
    · show (if b < w.heap.size then g.imm b o else g3.imm b o) = some v
      rw [if_pos (gsz b o v e)]; exact e
  have hR := h.grow hbel
  refine ⟨g', hle', ⟨hR.below, hR.base, hR.frz, fun b o v e => ?_, fun i => (hR.objs i).keep rfl rfl rfl hle' (fun _ _ _ => rfl) (fun b o' ho hd e => ?_), hR.inj⟩, fun hi b o => ?_⟩
  · have e : (if b < w.heap.size then g.imm b o else g3.imm b o) = some v := e
    split at e
    · exact hR.imm b o v e
    · exact h3.imm b o v e
  · show (if b < w.heap.size then g.imm b o' else g3.imm b o') = none
    rw [if_pos (h.own_lt hd ho).2.1]; exact e
  · show (if b < w.heap.size then g.imm b o else g3.imm b o) = g3.imm b o
    split
    · rename_i hb
      have := hle.old b o (by intro hf; have := hf.1; simp only [Gh.still] at this; omega)
      rw [this]; exact (hi b o hb).symm
    · rfl
mutual
def view (hp : List Ob) : AV → AV
  | .oslice id ver len => match hp[id]? with
    | some (.grow _ _ sz sh xs) => .slice sz sh xs .ro
    | some (.froz _ sz sh xs) => .slice sz sh xs .ro
    | _ => .oslice id ver len
  | .agg cs => .agg (viewL hp cs)
  | x => x
def viewL (hp : List Ob) : List AV → List AV
  | [] => []
  | x :: l => view hp x :: viewL hp l
end
mutual
def lenOK (hp : List Ob) : AV → Bool
  | .oslice id ver len => match hp[id]? with
    | some (.grow _ ver' _ _ xs) => ver == ver' && len == xs.length
    | some (.froz ver' _ _ xs) => ver == ver' && len == xs.length
    | _ => true
  | .agg cs => lenOKL hp cs
  | _ => true
def lenOKL (hp : List Ob) : List AV → Bool
  | [] => true
  | x :: l => cond (lenOK hp x) (lenOKL hp l) false
end
def lenOKP (hp : List Ob) : AV → Bool
  | .ptr id off => match hp[id]? with
    | some (.fix _ cs) => lenOKL hp (cs.drop off)
    | _ => true
  | x => lenOK hp x
def lenOKPL (hp : List Ob) : List AV → Bool
  | [] => true
  | x :: l => cond (lenOKP hp x) (lenOKPL hp l) false
theorem cond_and {a b : Bool} (h : cond a b false = true) : a = true ∧ b = true := by cases a <;> simp_all
def viewP (hp : List Ob) : AV → AV
  | .ptr id off => match hp[id]? with
    | some (.fix _ cs) => cond (decide (off ≤ cs.length)) (.rptr (viewL hp (cs.drop off))) (.ptr id off)
    | _ => .ptr id off
  | x => view hp x
def Gh.seen (w : World) : Gh := .still w fun b o => w.cell? ⟨b, o, none⟩
theorem refsL_length {hp : List Ob} : ∀ {l : List AV}, (viewL hp l).length = l.length
  | [] => rfl
  | x :: l => by simp [viewL, refsL_length (l := l)]
theorem viewL_get {hp : List Ob} : ∀ {l : List AV} {i : Nat}, (viewL hp l)[i]? = (l[i]?).map (view hp)
  | [], i => by simp [viewL]
  | x :: l, 0 => by simp [viewL]
  | x :: l, i + 1 => by simp [viewL, viewL_get (l := l)]
theorem sub_seen {g : Gh} {w : World} {hp : List Ob} (h : R g w hp) : (g.trim 0).sub (.seen w) where
  imm := fun b o v e => h.imm b o v e
  blk := fun i b e => by simp [Gh.trim] at e
  cur := fun i _ _ _ _ e => by simp [Gh.trim] at e
theorem seen_of {g : Gh} {w : World} {hp : List Ob} (h : R g w hp) {x : AV} {v : Value} (hv : V g x v) (hr : ClosedCell x ∨ refs 0 x = true) : V (.seen w) x v := (hv.trim hr).sub (sub_seen h)
mutual
theorem view_V {g : Gh} {w : World} {hp : List Ob} (h : R g w hp) : ∀ (x : AV) {v : Value}, V g x v → lenOK hp x = true → refs 0 (view hp x) = true → V (.seen w) (view hp x) v
  | .oslice id ver len, v, hv, hlk, hr => by
    unfold view at hr ⊢
    split
    · rename_i ty ver' sz sh xs he
      rw [he] at hr
      simp only at hr
      have hc : (ver == ver' && len == xs.length) = true := by simpa [lenOK, he] using hlk
      · simp only [Bool.and_eq_true, beq_iff_eq] at hc
        obtain ⟨rfl, rfl⟩ := hc
        rcases h.growOK he with k | ⟨b, c, vs, fz, k⟩
        · have := k.nil; subst this
          have := k.slice hv; subst this
          exact .slice0 _ _
        · have := k.slice hv
          subst this
          have hvl := k.vl
          have cells : ∀ (i : Nat) (c : AV) (v : Value), (flat xs)[i]? = some c → (vs.toList.take (xs.length * sz))[i]? = some v → V (.seen w) c v := by
            intro i c v e1 e2
            refine seen_of h (hvl.2 i c v e1 e2) ?_
            have hm := List.mem_of_getElem? e1
            simp only [refs, Bool.or_eq_true] at hr
            rcases hr with hr | hr
            · left; exact closed_flat hr (fun x hx => (k.sh x hx).1) c hm
            · right; exact refs_flat hr c hm
          refine .slice sz sh xs .ro (vs.toList.take (xs.length * sz)) b 0 c hvl.1 cells (fun i v e => ?_) k.sh k.le k.lim
          show w.cell? ⟨b, 0 + i, none⟩ = some v
          rw [Nat.zero_add]
          have := k.lies i v e
          rwa [Nat.zero_add] at this
    · rename_i ver' sz sh xs he
      rw [he] at hr
      simp only at hr
      have hc : (ver == ver' && len == xs.length) = true := by simpa [lenOK, he] using hlk
      simp only [Bool.and_eq_true, beq_iff_eq] at hc
      obtain ⟨rfl, rfl⟩ := hc
      exact seen_of h (h.frozV he hv) (.inr hr)
    · rename_i hn hn2
      exfalso
      cases hh : hp[id]? with
      | none => rw [hh] at hr; simp [refs] at hr
      | some o =>
        cases o with
        | grow t a b c d => exact hn t a b c d hh
        | froz a b c d => exact hn2 a b c d hh
        | fix ty cs => rw [hh] at hr; simp [refs] at hr
        | dead => rw [hh] at hr; simp [refs] at hr
        | hole => rw [hh] at hr; simp [refs] at hr
  | .agg cs, v, hv, hlk, hr => by
    simp only [view] at hr ⊢
    cases hv with
    | agg _ vs hl hv =>
      have hvl : VL g cs vs.toList := ⟨by simpa using hl, fun i c v e1 e2 => hv i c v e1 (by simpa using e2)⟩
      have := viewL_V h cs hvl (by simpa [lenOK] using hlk) (by simpa [refs] using hr)
      exact .agg _ vs (by simpa using this.1) (fun i c v e1 e2 => this.2 i c v e1 (by simpa using e2))
  | .int .., v, hv, _, hr => seen_of h hv (.inr hr)
  | .bool .., v, hv, _, hr => seen_of h hv (.inr hr)
  | .str .., v, hv, _, hr => seen_of h hv (.inr hr)
  | .ptr .., v, hv, _, hr => seen_of h hv (.inr hr)
  | .nilptr, v, hv, _, hr => seen_of h hv (.inr hr)
  | .rptr .., v, hv, _, hr => seen_of h hv (.inr hr)
  | .nilsl, v, hv, _, hr => seen_of h hv (.inr hr)
  | .slice .., v, hv, _, hr => seen_of h hv (.inr hr)
  | .fslice .., v, hv, _, hr => seen_of h hv (.inr hr)
  | .optr .., v, hv, _, hr => seen_of h hv (.inr hr)
  | .func .., v, hv, _, hr => seen_of h hv (.inr hr)
  | .nilfunc, v, hv, _, hr => seen_of h hv (.inr hr)
  | .tuple .., v, hv, _, hr => seen_of h hv (.inr hr)
  | .nilIface, v, hv, _, hr => seen_of h hv (.inr hr)
  | .junk, v, hv, _, hr => seen_of h hv (.inr hr)
theorem viewL_V {g : Gh} {w : World} {hp : List Ob} (h : R g w hp) : ∀ (l : List AV) {vs : List Value}, VL g l vs → lenOKL hp l = true → refsL 0 (viewL hp l) = true → VL (.seen w) (viewL hp l) vs
  | [], vs, hv, _, hr => by rw [hv.nil_inv]; exact VL.nil _
  | x :: l, vs, hv, hlk, hr => by
    obtain ⟨v, vs, rfl, hx, hl⟩ := hv.cons_inv
    simp only [viewL, refsL, Bool.and_eq_true] at hr ⊢
    have hlk := cond_and hlk
    exact VL.cons (view_V h x hx hlk.1 hr.1) (viewL_V h l hl hlk.2 hr.2)
end
theorem viewP_V {g : Gh} {w : World} {hp : List Ob} (h : R g w hp) (x : AV) {v : Value} (hv : V g x v) (hlk : lenOKP hp x = true) (hr : refs 0 (viewP hp x) = true) : V (.seen w) (viewP hp x) v := by
  unfold lenOKP at hlk
  unfold viewP at hr ⊢
  split
  · rename_i id off
    simp only at hr
    split
    · rename_i cs he
      rw [he] at hr
      simp only [he] at hr hlk
      cases hc : decide (off ≤ cs.length) with
      | false => rw [hc] at hr; simp [refs] at hr
      | true =>
        rw [hc] at hr
        simp only [cond_true] at hr ⊢
        simp only [decide_eq_true_eq] at hc
        have k := h.objs id
        rw [he] at k
        obtain ⟨k1, b, vs, fz, k2, k3, k4, k5, k6, k7, k8⟩ := k
        cases hv with
        | ptr _ _ b' hb =>
          rw [k2] at hb; cases hb
          have := viewL_V h (cs.drop off) (k5.drop off) hlk (by simpa [refs] using hr)
          refine .rptr _ (vs.toList.drop off) b off this.1 this.2 (fun i v e => ?_)
          show w.cell? ⟨b, off + i, none⟩ = some v
          rw [List.getElem?_drop] at e
          simp only [World.cell?, k4]
          simpa using e
    · rename_i hn
      exfalso
      cases hh : hp[id]? with
      | none => rw [hh] at hr; simp [refs] at hr
      | some o =>
        cases o with
        | fix ty cs => exact hn ty cs hh
        | grow t a b c d => rw [hh] at hr; simp [refs] at hr
        | froz a b c d => rw [hh] at hr; simp [refs] at hr
        | dead => rw [hh] at hr; simp [refs] at hr
        | hole => rw [hh] at hr; simp [refs] at hr
  · rename_i x hn
    split at hr
    · rename_i id off; exact (hn id off rfl).elim
    · split at hlk
      · exact (hn _ _ rfl).elim
      · exact view_V h _ hv hlk hr
def viewPL (hp : List Ob) (l : List AV) : List AV := l.map (viewP hp)
theorem viewPL_V {g : Gh} {w : World} {hp : List Ob} (h : R g w hp) : ∀ (l : List AV) {vs : List Value}, VL g l vs → lenOKPL hp l = true → refsL 0 (viewPL hp l) = true → VL (.seen w) (viewPL hp l) vs
  | [], vs, hv, _, hr => by rw [hv.nil_inv]; exact VL.nil _
  | x :: l, vs, hv, hlk, hr => by
    obtain ⟨v, vs, rfl, hx, hl⟩ := hv.cons_inv
    simp only [viewPL, List.map_cons, refsL, Bool.and_eq_true] at hr ⊢
    have hlk := cond_and hlk
    exact VL.cons (viewP_V h x hx hlk.1 hr.1) (viewPL_V h l hl hlk.2 hr.2)
mutual
def plain : AV → Bool
  | .int .. | .bool _ | .str _ | .nilptr | .nilsl | .nilfunc | .nilIface => true
  | .agg cs | .tuple cs => plainL cs
  | _ => false
def plainL : List AV → Bool
  | [] => true
  | x :: l => plain x && plainL l
end
mutual
theorem plain_V {g g' : Gh} : ∀ (x : AV) {v : Value}, plain x = true → V g x v → V g' x v
  | .int .., v, _, hv => by cases hv; exact .int _ _
  | .bool _, v, _, hv => by cases hv; exact .bool _
  | .str _, v, _, hv => by cases hv; exact .str _ (by assumption)
  | .nilptr, v, _, hv => by cases hv; exact .nilptr
  | .nilsl, v, _, hv => by cases hv; exact .nilsl
  | .nilfunc, v, _, hv => by cases hv; exact .nilfunc
  | .nilIface, v, _, hv => by cases hv; exact .nilIface
  | .agg cs, v, hp, hv => by
    cases hv with
    | agg _ vs hl hv =>
      have := plainL_V (g' := g') cs (vs := vs.toList) (by simpa [plain] using hp) (g := g) ⟨by simpa using hl, fun i c v e1 e2 => hv i c v e1 (by simpa using e2)⟩
      exact .agg _ vs hl (fun i c v e1 e2 => this.2 i c v e1 (by simpa using e2))
  | .tuple cs, v, hp, hv => by
    cases hv with
    | tuple _ vs hl hv =>
      have := plainL_V (g' := g') cs (vs := vs.toList) (by simpa [plain] using hp) (g := g) ⟨by simpa using hl, fun i c v e1 e2 => hv i c v e1 (by simpa using e2)⟩
      exact .tuple _ vs hl (fun i c v e1 e2 => this.2 i c v e1 (by simpa using e2))
  | .ptr .., v, hp, hv => by simp [plain] at hp
  | .rptr .., v, hp, hv => by simp [plain] at hp
  | .slice .., v, hp, hv => by simp [plain] at hp
  | .fslice .., v, hp, hv => by simp [plain] at hp
  | .oslice .., v, hp, hv => by simp [plain] at hp
  | .optr .., v, hp, hv => by simp [plain] at hp
  | .func .., v, hp, hv => by simp [plain] at hp
  | .junk, v, hp, hv => by simp [plain] at hp
theorem plainL_V {g g' : Gh} : ∀ (l : List AV) {vs : List Value}, plainL l = true → VL g l vs → VL g' l vs
  | [], vs, _, hv => by rw [hv.nil_inv]; exact VL.nil _
  | x :: l, vs, hp, hv => by
    obtain ⟨v, vs, rfl, hx, hl⟩ := hv.cons_inv
    simp only [plainL, Bool.and_eq_true] at hp
    exact VL.cons (plain_V x hp.1 hx) (plainL_V l hp.2 hl)
end
def Lo (a b : AV) : Prop := ∀ g v, V g a v → V g b v
theorem Lo.refl (a : AV) : Lo a a := fun _ _ h => h
def Tr.bind {ρ τ : Type} (f : ρ → Tr τ) : Tr ρ → Tr τ
  | .bad => .bad
  | .r x => f x
  | .c b t e => .c b (Tr.bind f t) (Tr.bind f e)
def Tr.map {ρ τ : Type} (f : ρ → τ) (t : Tr ρ) : Tr τ := t.bind fun x => .r (f x)
theorem Tr.val_bind {ρ τ : Type} (f : ρ → Tr τ) : ∀ t : Tr ρ, (t.bind f).val = t.val.bind fun x => (f x).val
  | .bad => rfl
  | .r _ => rfl
  | .c b t e => by
    cases b
    · exact Tr.val_bind f e
    · exact Tr.val_bind f t
theorem Tr.val_map {ρ τ : Type} (f : ρ → τ) (t : Tr ρ) : (t.map f).val = t.val.map f := by
  unfold Tr.map; rw [Tr.val_bind]; cases t.val <;> rfl
def pureS (F : List AV → Tr AV) : Spec := fun args hp =>
  cond (refsL 0 args) ((F args).map fun r => (r, hp, .pure))
    (cond (refsL 0 (viewPL hp args)) (.c (lenOKPL hp args) ((F (viewPL hp args)).bind fun r => cond (plain r) (.r (r, hp, .read)) .bad) .bad) .bad)
theorem pureS_inv {F : List AV → Tr AV} {args : List AV} {hp : List Ob} {r : AV} {hp' : List Ob} {c : Cls} (h : (pureS F args hp).val = some (r, hp', c)) :
    hp' = hp ∧ ((refsL 0 args = true ∧ (F args).val = some r ∧ c = .pure) ∨ (refsL 0 args = false ∧ refsL 0 (viewPL hp args) = true ∧ lenOKPL hp args = true ∧ (F (viewPL hp args)).val = some r ∧ plain r = true ∧ c = .read)) := by
  unfold pureS at h
  cases hr : refsL 0 args with
  | true =>
    rw [hr] at h
    simp only [cond_true, Tr.val_map, Option.map_eq_some_iff, Prod.mk.injEq] at h
    obtain ⟨r', h1, rfl, rfl, rfl⟩ := h
    exact ⟨rfl, .inl ⟨rfl, h1, rfl⟩⟩
  | false =>
    rw [hr] at h
    simp only [cond_false] at h
    cases hv : refsL 0 (viewPL hp args) with
    | false => rw [hv] at h; simp [Tr.val, Tr.fold] at h
    | true =>
      rw [hv] at h
      simp only [cond_true] at h
      have hlk : lenOKPL hp args = true ∧ ((F (viewPL hp args)).bind fun r => cond (plain r) (.r (r, hp, Cls.read)) .bad).val = some (r, hp', c) := by
        cases hk : lenOKPL hp args with
        | false => rw [hk] at h; simp [Tr.val, Tr.fold] at h
        | true => rw [hk] at h; exact ⟨rfl, h⟩
      obtain ⟨hlk, h⟩ := hlk
      simp only [Tr.val_bind, Option.bind_eq_some_iff] at h
      obtain ⟨r', h1, h2⟩ := h
      cases hp2 : plain r' with
      | false => rw [hp2] at h2; simp [Tr.val, Tr.fold] at h2
      | true =>
        rw [hp2] at h2
        simp only [cond_true, Tr.val, Tr.fold, Option.some.injEq, Prod.mk.injEq] at h2
        obtain ⟨rfl, rfl, rfl⟩ := h2
        exact ⟨rfl, .inr ⟨rfl, rfl, hlk, h1, hp2, rfl⟩⟩
end Go.Cx
