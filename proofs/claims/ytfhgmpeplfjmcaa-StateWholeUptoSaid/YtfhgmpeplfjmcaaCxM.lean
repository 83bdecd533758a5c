/- append, whole. -/
import Derived.Test.YtfhgmpeplfjmcaaCxL
namespace Go.Cx
open Go.RowKit (Below)
set_option linter.unusedSimpArgs false
section
variable {P : Program} {g : Gh} {w : World} {hp : List Ob}
theorem append_zero {t tx ty e : TypeId} (ht : P.underlying t = some (.slice e)) (htx : noInt P tx) (he : (P.info? e).isSome) {s : Nat} {sh : Sh} {ys : List AV} {cy : Value} (hs : s = sizeA P e) (hy : Src P g w s sh ys cy) (h0 : ys.length = 0)
    {base : Option Addr} {len cap : Nat} (hle : len ≤ cap) : (Builtin.append_ #[t, tx] ty #[.slice base len cap, cy]).run P w = .ok (.slice base len cap) w := by
  obtain ⟨d, hd, hni⟩ := htx
  obtain ⟨i, hi⟩ := Option.isSome_iff_exists.1 he
  obtain ⟨new, hv, hc⟩ := hy.cells
  have hyn : ys = [] := List.eq_nil_of_length_eq_zero h0
  subst hyn
  have hn : new = [] := hv.nil_inv
  subst hn
  have hw := hc w (fun _ _ _ h => h)
  have hl := hy.len w
  simp only [List.length_nil] at hw hl
  subst hs
  simp only [Builtin.append_]
  simp only [List.getElem?_toArray, List.getElem?_cons_zero, List.getElem?_cons_succ, Sem.run_bind, run_underlying ht, Result.andThen_ok, run_sizeOf hi, run_underlying hd, Sem.run_pure]
  have hz : (match d with | .int k => true | x => false) = false := by
    cases d with
    | int k => exact absurd rfl (hni k)
    | _ => rfl
  have n1 : len + 0 ≤ cap := by omega
  simp only [hz, Bool.false_eq_true, if_false, hl, Result.andThen_ok, if_pos n1, Bool.not_false, if_true, Sem.run_bind, hw]
  cases base with
  | none => rfl
  | some a => simp only [storeCells, Sem.run_pure, Sem.run_bind, Result.andThen_ok]; rfl
theorem noInt_of {tx : TypeId} (h : badSrc P tx = false) : noInt P tx := by
  unfold badSrc at h
  cases hk : tk P tx with
  | slice e => exact ⟨_, tk_slice hk, fun k => by simp⟩
  | str => exact ⟨_, tk_str hk, fun k => by simp⟩
  | _ => rw [hk] at h; simp at h
theorem oslice_append (h : R g w hp) {t tx ty e : TypeId} (ht : P.underlying t = some (.slice e)) (htx : noInt P tx) {s : Nat} {sh : Sh} {xs ys : List AV} {cy : Value} (hs : s = sizeA P e) (hs0 : 0 < s) (hy : Src P g w s sh ys cy)
    {z : AV} (hz : zeroA P e = some z) (hzl : (cells z).length = s) (hlim : (xs ++ ys).length * (bytesA P e + 1) < LIM) {id ver : Nat} (he : hp[id]? = some (.grow e ver s sh xs)) {cx : Value} (hx : V g (.oslice id ver xs.length) cx) :
    Does P g w (Builtin.append_ #[t, tx] ty #[cx, cy]) (.oslice id ver (xs ++ ys).length) (hp.set id (.grow e ver s sh (xs ++ ys))) := by
  have hlen0 : (xs ++ ys).length = xs.length + ys.length := by simp
  rcases h.growOK he with k | ⟨b, cc, vs, fz, k⟩
  · have := k.nil; subst this
    have := k.slice hx; subst this
    rw [List.nil_append]
    by_cases h0 : ys.length = 0
    · have : ys = [] := List.eq_nil_of_length_eq_zero h0
      subst this
      refine ⟨_, w, g, append_zero ht htx (by obtain ⟨i, cz, hi, _⟩ := zero_info hz; rw [hi]; rfl) hs hy rfl (Nat.le_refl _), Gh.le.refl g, ?_, hx⟩
      have : hp.set id (.grow e ver s sh []) = hp := by
        apply List.ext_getElem?
        intro i
        rw [List.getElem?_set]
        split
        · rename_i e; subst e
          rw [he]; simp [length_of_get he]
        · rfl
      rw [this]; exact h
    · obtain ⟨w', _, c', hrun, hbel, vs', hb', hsz', hc', hvl', hel', hlim', _⟩ := grow_case (ty := ty) h ht htx hs hs0 hy hz hzl (xs := []) (by simpa using hlim) (base := none) (cap := 0) (fun x hx => by simp at hx) (VL.nil g)
        (fun w' _ => rfl) (by simp; omega)
      simp only [List.nil_append, List.length_nil, Nat.zero_add] at hrun hc' hvl' hel' hlim'
      let nb := w.heap.size
      let g' : Gh := { g with cur := fun i => if i = id then some (ver, ys.length, some nb, c') else g.cur i }
      have hcur : g'.cur id = some (ver, ys.length, some nb, c') := by show (if id = id then _ else _) = _; rw [if_pos rfl]
      have hle : g.le g' := ⟨rfl, rfl, rfl, fun _ _ _ => rfl, fun _ _ _ e => e, fun _ _ e => e, fun i v' l' b' c'' e => by
        show ∃ x, (if i = id then some (ver, ys.length, some nb, c') else g.cur i) = some x ∧ _
        split
        · rename_i e1; subst e1; rw [k.cur] at e; cases e; exact ⟨_, rfl, .inr ⟨rfl, by omega, fun e => by omega⟩⟩
        · exact ⟨_, e, Hdr.refl _ _ _ _⟩⟩
      obtain ⟨f1, f2⟩ := h.fresh
      refine ⟨_, w', g', hrun, hle, ?_, .oslice _ _ _ nb c' _ hcur (Hdr.refl _ _ _ _)⟩
      refine h.turnV hle (length_of_get he) (fun i hi => by show (if i = id then _ else _) = _; rw [if_neg hi]) (fun _ _ => rfl) rfl hbel ?_ (fun _ b' ho => ?_)
      · exact ⟨k.blk, .inr ⟨nb, c', vs', (0, 0), hcur, h.newFree, hb', hsz', k.pos, hc', hvl'.mono hle, hel', LIM_TOP hlim', f2, fun o _ => frozen_new hb'⟩⟩
      · rcases ho with ho | ⟨_, _, _, ho⟩
        · rw [show g'.blk id = g.blk id from rfl, k.blk] at ho; simp at ho
        · rw [hcur] at ho; cases ho; exact Nat.le_refl _
  rw [k.slice hx, hlen0]
  obtain ⟨i, cz, hi, hcz, hcs⟩ := zero_info hz
  have hlen : (xs ++ ys).length = xs.length + ys.length := by simp
  have hw1 : ∀ x ∈ xs, (cells x).length = s := fun x hx => (k.sh x hx).2.1
  have hw2 : ∀ x ∈ ys, (cells x).length = s := fun x hx => (hy.el x hx).2.1
  have hel : ∀ x ∈ xs ++ ys, reshape sh x = x ∧ (cells x).length = s ∧ (cells x).all oneCell := by
    intro x hx; simp at hx; rcases hx with hx | hx
    · exact k.sh x hx
    · exact hy.el x hx
  have hroom0 : xs.length * s ≤ vs.size := by rw [k.size]; exact Nat.mul_le_mul_right _ k.le
  have lim' : (xs ++ ys).length < LIM := Nat.lt_of_le_of_lt (Nat.le_mul_of_pos_right _ (by omega)) hlim
  by_cases hroom : xs.length + ys.length ≤ cc
  · obtain ⟨new, hv, hrun⟩ := append_room (ty := ty) (P := P) ht htx (by rw [hi]; rfl) hs hy (b := b) (len := xs.length) (cap := cc) hroom k.heap k.froz (by rw [k.size]; exact Nat.le_refl _)
    have l2 : new.length = ys.length * s := by rw [← hv.1, flat_len hw2]
    have hfit : xs.length * s + new.length ≤ vs.size := by rw [l2, ← Nat.add_mul, k.size]; exact Nat.mul_le_mul_right _ hroom
    let g' : Gh := { g with cur := fun i => if i = id then some (ver, xs.length + ys.length, some b, cc) else g.cur i }
    have hcur : g'.cur id = some (ver, xs.length + ys.length, some b, cc) := by show (if id = id then _ else _) = _; rw [if_pos rfl]
    have hle : g.le g' := ⟨rfl, rfl, rfl, fun _ _ _ => rfl, fun _ _ _ e => e, fun _ _ e => e, fun i v' l' b' c' e => by
      show ∃ x, (if i = id then some (ver, xs.length + ys.length, some b, cc) else g.cur i) = some x ∧ _
      split
      · rename_i e1; subst e1; rw [k.cur] at e; cases e; exact ⟨_, rfl, .inr ⟨rfl, by omega, fun _ => ⟨rfl, rfl⟩⟩⟩
      · exact ⟨_, e, Hdr.refl _ _ _ _⟩⟩
    obtain ⟨r1, r2, r3, r4⟩ := rest_setCells b new (xs.length * s) w
    refine ⟨_, _, g', hrun, hle, ?_, .oslice _ _ _ b cc _ hcur (Hdr.refl _ _ _ _)⟩
    refine h.turn (b := b) hle (length_of_get he) (by rw [he]; simp) (.inr ⟨_, _, _, k.cur⟩) (fun i hi => by show (if i = id then _ else _) = _; rw [if_neg hi]) (fun _ _ => rfl) (fun _ _ _ e => .inl e) (fun _ _ _ e => e) r1 r2 r3 (by omega)
      (fun k _ hk => heap_setCells_other b _ _ w k hk) ?_ (fun _ b' ho => ?_)
    · refine ⟨k.blk, .inr ?_⟩
      refine ⟨b, cc, _, fz, by rw [hlen]; exact hcur, k.base, heap_setCells b new _ w vs _ fz k.heap, by rw [size_putR]; exact k.size, k.pos, by rw [hlen]; exact hroom, ?_, hel, LIM_TOP lim', k.imm, fun o ho => ?_⟩
      · rw [hlen, putR_list _ _ _ hfit, flat_append]
        have e : List.take ((xs.length + ys.length) * s) (List.take (xs.length * s) vs.toList ++ new ++ List.drop (xs.length * s + new.length) vs.toList) = List.take (xs.length * s) vs.toList ++ new := by
          have l0 : (List.take (xs.length * s) vs.toList).length = xs.length * s := by simp; omega
          rw [List.take_append_of_le_length (by rw [List.length_append, l0, l2, Nat.add_mul]; exact Nat.le_refl _)]
          rw [List.take_of_length_le (by rw [List.length_append, l0, l2, Nat.add_mul]; exact Nat.le_refl _)]
        rw [e]
        exact ((k.vl).append hv).mono hle
      · rw [World.frozen?_setCells]
        exact k.froz o (by simpa using ho)
    · left
      rcases ho with ho | ⟨_, _, _, ho⟩
      · rw [show g'.blk id = g.blk id from rfl, k.blk] at ho; simp at ho
      · rw [hcur] at ho; cases ho; rfl
  · have hold : ∀ w', (∀ b o v, w.cell? ⟨b, o, none⟩ = some v → w'.cell? ⟨b, o, none⟩ = some v) → (Builtin.firstCells s xs.length (.slice (some ⟨b, 0, none⟩) xs.length cc)).run P w' = .ok (Array.mk (vs.toList.take (xs.length * s))) w' := by
      intro w' hw'
      have hll : xs.length * s = (vs.toList.take (xs.length * s)).length := by simp; omega
      simp only [Builtin.firstCells]
      conv => lhs; rw [hll]
      exact load_lies (fun i v hi => hw' _ _ _ (k.lies i v hi))
    obtain ⟨w', _, c', hrun, hbel, vs', hb', hsz', hc', hvl', hel', hlim', _⟩ := grow_case (ty := ty) h ht htx hs hs0 hy hz hzl hlim k.sh k.vl hold (by omega)
    let nb := w.heap.size
    let g' : Gh := { g with cur := fun i => if i = id then some (ver, xs.length + ys.length, some nb, c') else g.cur i }
    have hcur : g'.cur id = some (ver, xs.length + ys.length, some nb, c') := by show (if id = id then _ else _) = _; rw [if_pos rfl]
    have hpos : 0 < ys.length := by have := k.le; omega
    have hle : g.le g' := ⟨rfl, rfl, rfl, fun _ _ _ => rfl, fun _ _ _ e => e, fun _ _ e => e, fun i v' l' b' c'' e => by
      show ∃ x, (if i = id then some (ver, xs.length + ys.length, some nb, c') else g.cur i) = some x ∧ _
      split
      · rename_i e1; subst e1; rw [k.cur] at e; cases e; exact ⟨_, rfl, .inr ⟨rfl, by omega, fun e => by omega⟩⟩
      · exact ⟨_, e, Hdr.refl _ _ _ _⟩⟩
    obtain ⟨f1, f2⟩ := h.fresh
    refine ⟨_, w', g', hrun, hle, ?_, .oslice _ _ _ nb c' _ hcur (Hdr.refl _ _ _ _)⟩
    refine h.turn (b := b) hle (length_of_get he) (by rw [he]; simp) (.inr ⟨_, _, _, k.cur⟩) (fun i hi => by show (if i = id then _ else _) = _; rw [if_neg hi]) (fun _ _ => rfl) (fun _ _ _ e => .inl e) (fun _ _ _ e => e) hbel.os hbel.tape hbel.output hbel.size
      (fun k hk _ => hbel.block k hk) ?_ (fun _ b' ho => ?_)
    · refine ⟨k.blk, .inr ?_⟩
      exact ⟨nb, c', vs', (0, 0), by rw [hlen]; exact hcur, h.newFree, hb', hsz', k.pos, by rw [hlen]; exact hc', hvl'.mono hle, hel', LIM_TOP hlim', f2, fun o _ => frozen_new hb'⟩
    · rcases ho with ho | ⟨_, _, _, ho⟩
      · rw [show g'.blk id = g.blk id from rfl, k.blk] at ho; simp at ho
      · rw [hcur] at ho; cases ho; right; exact Nat.le_refl _
theorem virt_append (h : R g w hp) {t tx ty e : TypeId} (ht : P.underlying t = some (.slice e)) (htx : noInt P tx) (hie : (P.info? e).isSome) {s : Nat} {sh : Sh} {ys : List AV} {cy : Value} (hs : s = sizeA P e) (hs0 : 0 < s) (hy : Src P g w s sh ys cy)
    {z : AV} (hz : zeroA P e = some z) (hzl : (cells z).length = s) (hlim : ys.length * (bytesA P e + 1) < LIM) (h0 : 0 < s) :
    Does P g w (Builtin.append_ #[t, tx] ty #[.slice none 0 0, cy]) (.oslice hp.length 0 ys.length) (hp ++ [.grow e 0 s sh ys]) := by
  by_cases hn : ys.length = 0
  · have : ys = [] := List.eq_nil_of_length_eq_zero hn
    subst this
    obtain ⟨g', hle, hcur, hR⟩ := h.addVirt e h0 sh
    exact ⟨_, w, g', append_zero ht htx hie hs hy rfl (Nat.le_refl _), hle, hR, .oslice0 _ _ _ hcur (Hdr.refl _ _ _ _)⟩
  · obtain ⟨w', _, c', hrun, hbel, vs', hb', hsz', hc', hvl', hel', hlim', _⟩ := grow_case (ty := ty) h ht htx hs hs0 hy hz hzl (xs := []) (by simpa using hlim) (base := none) (cap := 0) (fun x hx => by simp at hx) (VL.nil g) (fun w' _ => rfl) (by simp; omega)
    simp only [List.nil_append, List.length_nil, Nat.zero_add] at hrun hc' hvl' hel' hlim'
    obtain ⟨g', hle, hR, hV⟩ := grow_new h hbel hb' hsz' h0 hc' hvl' hel' hlim'
    exact ⟨_, w', g', hrun, hle, hR, hV⟩
theorem appendB_sound (h : R g w hp) {t tx ty : TypeId} {s x v : AV} {hp' : List Ob} {c : Cls} (hc : appendB none P t tx s x hp (fun v h c => some (v, h, c)) = some (v, hp', c)) {cs cx : Value} (hs : V g s cs) (hx : V g x cx) :
    Does P g w (Builtin.append_ #[t, tx] ty #[cs, cx]) v hp' := by
  unfold appendB at hc
  split at hc
  · rename_i e htk
    have ht := tk_slice htk
    simp only at hc
    split at hc
    · simp at hc
    · rename_i hcond
      simp only [not_or, Bool.not_eq_true] at hcond
      obtain ⟨hsz, hno⟩ := hcond
      have htx := noInt_of hno
      have he : (P.info? e).isSome := by
        cases hi : P.info? e with
        | none => simp [sizeA, infoF_eq, hi] at hsz
        | some i => rfl
      obtain ⟨how, ys, cl, hk, hsrc⟩ := srcA_sound (P := P) h hc hx
      clear hc
      split at hk
      · rename_i hhow
        have hy : Src P g w (sizeA P e) (shA P 8 e) ys cx := by
          rcases hsrc with ⟨rfl, rfl, rfl⟩ | ⟨s', sh', rfl, hs'⟩
          · exact nil_src _ _
          · simp only [okHow, Bool.and_eq_true, beq_iff_eq] at hhow
            obtain ⟨rfl, hb⟩ := hhow
            rw [← Sh.beq_eq _ _ hb]; exact hs'
        have hpos : 0 < sizeA P e := by omega
        split at hk
        · cases hs
          replace hk := newGrow_inv hk
          obtain ⟨z, hz, hzl, h0, hlim, rfl, rfl, rfl⟩ := hk
          exact virt_append h ht htx he rfl hpos hy hz hzl hlim h0
        · rename_i sz' sh' xs zs
          split at hk
          · rename_i hm
            simp only [Bool.and_eq_true, beq_iff_eq] at hm
            obtain ⟨rfl, hb⟩ := hm
            have := Sh.beq_eq _ _ hb; subst this
            obtain ⟨a, ca, hcs⟩ : ∃ a ca, cs = .slice a xs.length ca := by cases hs; exact ⟨_, _, rfl⟩
            have hcap : cs = .slice a xs.length (xs ++ zs).length := by cases hs; cases hcs; rfl
            subst hcap
            cases hb : (ys.length == 0) with
            | true =>
              rw [hb] at hk
              simp at hk hb; obtain ⟨rfl, rfl, rfl⟩ := hk
              exact Does.pure h (append_zero ht htx he rfl hy (by simp [hb]) (by simp)) hs
            | false =>
              rw [hb] at hk
              simp only [cond_false] at hk
              cases hd : decide (zs.length < ys.length) with
              | false => rw [hd] at hk; simp at hk
              | true =>
                rw [hd] at hk
                simp only [cond_true] at hk
                replace hk := newGrow_inv hk
                obtain ⟨z, hz, hzl, h0, hlim, rfl, rfl, rfl⟩ := hk
                have e' := els_src (P := P) (slice_els h (fslice_weak hs))
                obtain ⟨olds, hov, hold⟩ := e'.cells
                obtain ⟨w', _, c', hrun, hbel, vs', hb', hsz', hc', hvl', hel', hlim', _⟩ := grow_case (ty := ty) h ht htx rfl hpos hy hz hzl hlim e'.el hov hold (by simp at hd; simp; omega)
                have hlen : (xs ++ ys).length = xs.length + ys.length := by simp
                obtain ⟨g', hle, hR, hV⟩ := grow_new h hbel hb' hsz' h0 (by rw [hlen]; exact hc') hvl' hel' hlim'
                rw [← hlen] at hrun
                exact ⟨_, w', g', hrun, hle, hR, hV⟩
          · simp at hk
        · rename_i sz' sh' xs kk
          split at hk
          · rename_i hm
            cases hb : (ys.length == 0) with
            | true =>
              rw [hb] at hk
              simp at hk hb; obtain ⟨rfl, rfl, rfl⟩ := hk
              obtain ⟨a, ca, rfl, hle, _⟩ := (slice_els h hs).some
              exact Does.pure h (append_zero ht htx he rfl hy (by simp [hb]) hle) hs
            | false => rw [hb] at hk; simp at hk
          · simp at hk
        · rename_i id ver len
          obtain ⟨tyo, sz', sh', xs, hg, rfl, hk'⟩ := grown_inv hk
          clear hk
          split at hk'
          · rename_i hm
            simp only [Bool.and_eq_true, beq_iff_eq] at hm
            obtain ⟨⟨rfl, rfl⟩, hb⟩ := hm
            have := Sh.beq_eq _ _ hb; subst this
            split at hk'
            · rename_i z hz
              split at hk'
              · rename_i hzl
                obtain ⟨hlim, hk2⟩ := ask_some hk'
                simp only [decide_eq_true_eq] at hlim
                simp only [Option.some.injEq, Prod.mk.injEq] at hk2; obtain ⟨rfl, rfl, rfl⟩ := hk2
                exact oslice_append h ht htx rfl hpos hy hz hzl hlim hg hs
              · simp at hk'
            · simp at hk'
          · simp at hk'
        · simp at hk
      · simp at hk
  · simp at hc
end
end Go.Cx
