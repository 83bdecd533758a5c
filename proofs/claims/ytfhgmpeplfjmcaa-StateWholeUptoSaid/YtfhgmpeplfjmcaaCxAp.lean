/- An operation whose new objects go into holes. -/
import Derived.Test.YtfhgmpeplfjmcaaCxAo
import Derived.Test.YtfhgmpeplfjmcaaCxV
namespace Go.Cx
open Go.RowKit (Below)
set_option linter.unusedSimpArgs false
theorem allsOf_spec {n : Nat} : ∀ {W : List Spot} {L : List Nat}, allsOf n W = some L → ∀ p, hasL W p → (Spot.new n).has p ∨ ∃ i ∈ L, (Spot.all i).has p
  | [], L, _, p, h => by obtain ⟨s, hs, -⟩ := h; simp at hs
  | .new m :: W, L, h, p, hp => by
    simp only [allsOf] at h
    cases hm : (m == n) with
    | false => rw [hm] at h; simp at h
    | true =>
      rw [hm] at h
      simp only [beq_iff_eq] at hm
      subst hm
      obtain ⟨s, hs, hsp⟩ := hp
      rcases List.mem_cons.1 hs with rfl | hs
      · exact .inl hsp
      · exact allsOf_spec h p ⟨s, hs, hsp⟩
  | .all i :: W, L, h, p, hp => by
    simp only [allsOf, Option.map_eq_some_iff] at h
    obtain ⟨L', h, rfl⟩ := h
    obtain ⟨s, hs, hsp⟩ := hp
    rcases List.mem_cons.1 hs with rfl | hs
    · exact .inr ⟨i, by simp, hsp⟩
    · rcases allsOf_spec h p ⟨s, hs, hsp⟩ with h1 | ⟨j, h1, h2⟩
      · exact .inl h1
      · exact .inr ⟨j, by simp [h1], h2⟩
  | .ob _ :: W, L, h, p, hp => by simp [allsOf] at h
  | .rng .. :: W, L, h, p, hp => by simp [allsOf] at h
noncomputable def opM (hs : List Nat) (E : En) (o : Oper) (fr : List AV) (hp : List Ob) : Option (AV × List Ob × Cls) :=
  (opF E o fr hp).bind fun r => match hs with
    | [] => cond (r.2.1.length == hp.length && newsOK hp.length (ftOf E o fr hp r.2.2)) (some r) none
    | _ => ((ftOf E o fr hp r.2.2).f.bind fun f => allsOf hp.length f.2).bind fun L => cond (okMv hp.length hs L r.2.1 r.1) (some (ren (τM hp.length hs) r.1, hpM hp.length hs L r.2.1, r.2.2)) none
theorem opM_inv {hs : List Nat} {E : En} {o : Oper} {fr : List AV} {hp hp' : List Ob} {v : AV} {c : Cls} (h : opM hs E o fr hp = some (v, hp', c)) :
    (hs = [] ∧ opF E o fr hp = some (v, hp', c) ∧ hp'.length = hp.length ∧ newsOK hp.length (ftOf E o fr hp c) = true) ∨
    ∃ v0 hp0 R W L, hs ≠ [] ∧ opF E o fr hp = some (v0, hp0, c) ∧ (ftOf E o fr hp c).f = some (R, W) ∧ allsOf hp.length W = some L ∧ okMv hp.length hs L hp0 v0 = true ∧ v = ren (τM hp.length hs) v0 ∧ hp' = hpM hp.length hs L hp0 := by
  unfold opM at h
  cases hop : opF E o fr hp with
  | none => rw [hop] at h; simp at h
  | some r =>
    obtain ⟨v0, hp0, c0⟩ := r
    rw [hop] at h
    simp only [Option.bind_some] at h
    split at h
    · cases hl : (hp0.length == hp.length && newsOK hp.length (ftOf E o fr hp c0)) with
      | false => rw [hl] at h; simp at h
      | true =>
        rw [hl] at h; simp at h; obtain ⟨rfl, rfl, rfl⟩ := h
        simp only [Bool.and_eq_true, beq_iff_eq] at hl
        exact .inl ⟨rfl, rfl, hl.1, hl.2⟩
    · rename_i hne
      cases hf : (ftOf E o fr hp c0).f with
      | none => rw [hf] at h; simp at h
      | some f =>
        obtain ⟨R, W⟩ := f
        rw [hf] at h
        simp only [Option.bind_some] at h
        cases hL : allsOf hp.length W with
        | none => rw [hL] at h; simp at h
        | some L =>
          rw [hL] at h
          simp only [Option.bind_some] at h
          cases hk : okMv hp.length hs L hp0 v0 with
          | false => rw [hk] at h; simp at h
          | true =>
            rw [hk] at h
            simp only [cond_true, Option.some.injEq, Prod.mk.injEq] at h
            obtain ⟨rfl, rfl, rfl⟩ := h
            exact .inr ⟨v0, hp0, R, W, L, fun e => hne e, rfl, hf, hL, hk, rfl, rfl⟩
theorem opM_wp {E : En} (hE : EnOK E) {hs : List Nat} {g : Gh} {w : World} {hp : List Ob} (h : R g w hp) {fr : List AV} {a : Act} (hfr : VL g fr a.tmps.toList) {o : Oper} {v : AV} {hp' : List Ob} {c : Cls} (hop : opM hs E o fr hp = some (v, hp', c))
    (hh : ∀ i ∈ hs, g.blk i = none ∧ g.cur i = none)
    {next : Act → World → Prop} {Q : Exit → Act → World → Prop} (hk : ∀ g' w' cv, g.le g' → R g' w' hp' → V g' v cv → next (a.put o.dst cv) w') : o.wp E.P a w next Q := by
  rcases opM_inv hop with ⟨-, h1, -⟩ | ⟨v0, hp0, R0, W, L, -, h1, h2, h3, h4, rfl, rfl⟩
  · exact opF_wp hE h hfr h1 hk
  · simp only [okMv, Bool.and_eq_true, beq_iff_eq, List.all_eq_true, decide_eq_true_eq] at h4
    obtain ⟨⟨⟨⟨⟨k1, k2⟩, k3⟩, k4⟩, k5⟩, k6⟩ := h4
    have hd := distinct_nodup0 k2
    have same : ∀ i : Nat, i < hp.length → L.contains i = false → hp0[i]? = hp[i]? := by
      intro i hi hc
      obtain ⟨h2', e1, e2⟩ := opF_frame hE h1 hp (fun _ _ => rfl)
      rw [h1] at e1
      simp only [Option.some.injEq, Prod.mk.injEq, true_and, and_true] at e1
      subst e1
      refine all_eq fun p hpp => (e2 p).2 fun hw => ?_
      have hw : hasL W p := by unfold Ft.wrs at hw; rw [h2] at hw; exact hw
      rcases allsOf_spec h3 p hw with hn | ⟨j, hj, hn⟩
      · cases p <;> simp only [Spot.has] at hpp hn <;> omega
      · have : i = j := by cases p <;> simp only [Spot.has] at hpp hn <;> omega
        subst this
        simp [hj] at hc
    refine opF_wp hE h hfr h1 fun g' w' cv hle hR hV => hk (g'.mv hp.length hs) w' cv (Gh.mv_le hle (fun i hi => h.none_blk hi) hh) (hR.move k1 hd k3 (fun i o hi _ hc ho => ?_) (fun i o hi _ hc ho => ?_)) ?_
    · rw [same i hi hc] at ho
      exact h.old_cov hh ho
    · rcases hc with hc | hc
      · have := k5 i (by simpa using hc)
        rw [List.getD_eq_getElem?_getD, ho] at this; exact this
      · refine k6 o (List.mem_of_getElem? (i := i - hp.length) ?_)
        rw [List.getElem?_drop, show hp.length + (i - hp.length) = i by omega]; exact ho
    · exact V.renamed (g := g') (g' := g'.mv hp.length hs) (fun _ _ _ e => e) (fun _ _ hi e => (Gh.mv_at hd k3 hi).1.trans e) (fun _ _ hi e => (Gh.mv_at hd k3 hi).2.trans e) hV k4
theorem allsOf_all {n : Nat} {i : Nat} : ∀ {W : List Spot} {L : List Nat}, allsOf n W = some L → (i ∈ L ↔ Spot.all i ∈ W)
  | [], L, h => by simp only [allsOf, Option.some.injEq] at h; subst h; simp
  | .new m :: W, L, h => by
    simp only [allsOf] at h
    cases hm : (m == n) with
    | false => rw [hm] at h; simp at h
    | true => rw [hm] at h; simp only [cond_true] at h; rw [allsOf_all h]; simp
  | .all j :: W, L, h => by
    simp only [allsOf, Option.map_eq_some_iff] at h
    obtain ⟨L', h, rfl⟩ := h
    simp [allsOf_all (i := i) h]
  | .ob _ :: W, L, h => by simp [allsOf] at h
  | .rng .. :: W, L, h => by simp [allsOf] at h
theorem allsOf_mem {n : Nat} : ∀ {W : List Spot} {L : List Nat}, allsOf n W = some L → ∀ s ∈ W, s = .new n ∨ ∃ i ∈ L, s = .all i
  | [], L, _, s, h => by simp at h
  | .new m :: W, L, h, s, hs => by
    simp only [allsOf] at h
    cases hm : (m == n) with
    | false => rw [hm] at h; simp at h
    | true =>
      rw [hm] at h
      simp only [beq_iff_eq] at hm
      subst hm
      rcases List.mem_cons.1 hs with rfl | hs
      · exact .inl rfl
      · exact allsOf_mem h s hs
  | .all i :: W, L, h, s, hs => by
    simp only [allsOf, Option.map_eq_some_iff] at h
    obtain ⟨L', h, rfl⟩ := h
    rcases List.mem_cons.1 hs with rfl | hs
    · exact .inr ⟨i, by simp, rfl⟩
    · rcases allsOf_mem h s hs with h1 | ⟨j, h1, h2⟩
      · exact .inl h1
      · exact .inr ⟨j, by simp [h1], h2⟩
  | .ob _ :: W, L, h, s, hs => by simp [allsOf] at h
  | .rng .. :: W, L, h, s, hs => by simp [allsOf] at h
theorem allsOf_len {n : Nat} {W : List Spot} {L : List Nat} (h : allsOf n W = some L) (hl : hasL W .len) : ∀ p, (Spot.new n).has p → hasL W p := by
  induction W generalizing L with
  | nil => obtain ⟨s, hs, -⟩ := hl; simp at hs
  | cons s W ih =>
    intro p hp
    cases s with
    | new m =>
      simp only [allsOf] at h
      cases hm : (m == n) with
      | false => rw [hm] at h; simp at h
      | true => simp only [beq_iff_eq] at hm; subst hm; exact ⟨_, List.mem_cons_self, hp⟩
    | all i =>
      simp only [allsOf, Option.map_eq_some_iff] at h
      obtain ⟨L', h, -⟩ := h
      obtain ⟨s, hs, hsp⟩ := hl
      rcases List.mem_cons.1 hs with rfl | hs
      · simp [Spot.has] at hsp
      · obtain ⟨s', h1, h2⟩ := ih h ⟨s, hs, hsp⟩ p hp
        exact ⟨s', by simp [h1], h2⟩
    | ob _ => simp [allsOf] at h
    | rng => simp [allsOf] at h
theorem hpM_get {n : Nat} {hs L : List Nat} {hp : List Ob} (i : Nat) : (hpM n hs L hp)[i]? = if i < n then some (if hs.contains i then renO (τM n hs) (hp.getD (n + hs.idxOf i) .dead) else if L.contains i then renO (τM n hs) (hp.getD i .dead) else hp.getD i .dead) else none := by
  unfold hpM
  rw [List.getElem?_map]
  by_cases h : i < n
  · rw [List.getElem?_range h, if_pos h]; rfl
  · rw [List.getElem?_eq_none (by simpa using h), if_neg h]; rfl
theorem hpM_len {n : Nat} {hs L : List Nat} {hp : List Ob} : (hpM n hs L hp).length = n := by simp [hpM]
theorem opM_frame {E : En} (hE : EnOK E) {hs : List Nat} {o : Oper} {fr : List AV} {hp hp' : List Ob} {v : AV} {c : Cls} (hop : opM hs E o fr hp = some (v, hp', c)) :
    Frame (opM hs E o fr) (Ft.rds (ftM hp.length hs (ftOf E o fr hp c))) (Ft.wrs (ftM hp.length hs (ftOf E o fr hp c))) hp v hp' c := by
  intro h2 hR
  generalize hft : ftOf E o fr hp c = ft at hR ⊢
  have hc : ft.c = c := by subst hft; unfold ftOf; cases c <;> rfl
  have hR0 : ∀ p, ft.rds p → pl h2 p = pl hp p := by
    intro p hp'
    refine hR p ?_
    unfold Ft.rds ftM at *
    cases hf : ft.f with
    | none => rw [hf] at hp'; simpa [hf] using hp'
    | some f => rw [hf] at hp'; obtain ⟨s, h1, h2⟩ := hp'; exact ⟨s, List.mem_cons_of_mem _ h1, h2⟩
  have hlen : ft.f.isSome = true → h2.length = hp.length := by
    intro hs'
    have : pl h2 .len = pl hp .len := by
      refine hR .len ?_
      unfold Ft.rds ftM
      cases hf : ft.f with
      | none => rw [hf] at hs'; simp at hs'
      | some f => exact ⟨_, List.mem_cons_self, trivial⟩
    simpa [pl] using this
  have hft2 : ftOf E o fr h2 c = ft := by rw [← hft]; exact ftOf_congr (fun _ _ => rfl) (by rw [hft]; exact hR0)
  rcases opM_inv hop with ⟨rfl, h1, h3, h4⟩ | ⟨v0, hp0, R, W, L, hne, h1, h3, h4, h5, rfl, rfl⟩
  · obtain ⟨h2', e1, e2⟩ := opF_frame hE h1 h2 (by rw [hft]; exact hR0)
    rw [hft] at e2 h4
    have hl2 : h2'.length = h2.length := by
      by_cases hw : ft.wrs .len
      · have a1 : h2'.length = hp'.length := by simpa [pl] using (e2 .len).1 hw
        have a2 : h2.length = hp.length := by
          cases hf : ft.f with
          | some f => exact hlen (by rw [hf]; rfl)
          | none =>
            unfold Ft.wrs at hw
            rw [hf] at hw
            have : pl h2 .len = pl hp .len := hR0 .len (by
              unfold Ft.rds; rw [hf]
              intro e; simp only at hw; rw [e] at hw; simp [Cls.isWrite] at hw)
            simpa [pl] using this
        omega
      · simpa [pl] using (e2 .len).2 hw
    have h4' : newsOK h2.length ft = true := by
      cases hf : ft.f with
      | none => unfold newsOK; rw [hf]
      | some f => rw [hlen (by rw [hf]; rfl)]; exact h4
    refine ⟨h2', ?_, fun p => ⟨fun hw => (e2 p).1 ?_, fun hw => ?_⟩⟩
    · unfold opM
      rw [e1]
      simp [hl2, hft2, h4']
    · unfold Ft.wrs ftM at *
      cases hf : ft.f with
      | none => rw [hf] at hw; simpa [hf] using hw
      | some f =>
        rw [hf] at hw
        obtain ⟨s, a1, a2⟩ := hw
        simp only [List.map_nil, List.append_nil] at a1
        exact ⟨s, (List.mem_filter.1 a1).1, a2⟩
    · by_cases hw0 : ft.wrs p
      · cases hf : ft.f with
        | none => exfalso; apply hw; unfold Ft.wrs ftM at *; rw [hf] at hw0; simpa [hf] using hw0
        | some f =>
          obtain ⟨R, W⟩ := f
          have hlen := hlen (by rw [hf]; rfl)
          unfold Ft.wrs at hw0
          rw [hf] at hw0
          obtain ⟨s, a1, a2⟩ := hw0
          have hnew : ∃ m, s = .new m := by
            cases hs : notNew s with
            | true =>
              exfalso; apply hw
              unfold Ft.wrs ftM; rw [hf]
              exact ⟨s, by simp [a1, hs], a2⟩
            | false => cases s <;> simp [notNew] at hs; exact ⟨_, rfl⟩
          obtain ⟨m, rfl⟩ := hnew
          have hm : m = hp.length := by
            unfold newsOK at h4
            rw [hf] at h4
            have := List.all_eq_true.1 h4 _ a1
            simpa using this
          subst hm
          have none' : ∀ {l : List Ob} {j : Nat}, l.length = hp.length → hp.length ≤ j → l[j]? = none := fun e hj => List.getElem?_eq_none (by omega)
          cases p with
          | len => simp [pl, hl2]
          | ob j => simp only [pl, none' (hl2.trans hlen) a2, none' hlen a2]
          | cell j k => simp only [pl, none' (hl2.trans hlen) a2, none' hlen a2]
      · exact (e2 p).2 hw0
  · rw [hft] at h3
    have hlen := hlen (by rw [h3]; rfl)
    obtain ⟨h2', e1, e2⟩ := opF_frame hE h1 h2 (by rw [hft]; exact hR0)
    obtain ⟨h0', f1, f2⟩ := opF_frame hE h1 hp (fun _ _ => rfl)
    rw [h1] at f1
    simp only [Option.some.injEq, Prod.mk.injEq, true_and, and_true] at f1
    subst f1
    rw [hft] at e2 f2
    have hwrs : ∀ p, ft.wrs p ↔ hasL W p := fun p => by unfold Ft.wrs; rw [h3]
    have hl2 : h2'.length = hp0.length := by
      by_cases hw : hasL W .len
      · simpa [pl] using (e2 .len).1 ((hwrs _).2 hw)
      · have a1 : h2'.length = h2.length := by simpa [pl] using (e2 .len).2 (fun h => hw ((hwrs _).1 h))
        have a2 : hp0.length = hp.length := by simpa [pl] using (f2 .len).2 (fun h => hw ((hwrs _).1 h))
        omega
    have hnew : ∀ i, hp.length ≤ i → h2'[i]? = hp0[i]? := by
      intro i hi
      by_cases hw : hasL W .len
      · refine all_eq fun p hp' => (e2 p).1 ((hwrs _).2 (allsOf_len h4 hw p ?_))
        cases p <;> simp only [Spot.has] at hp' ⊢ <;> omega
      · have a2 : hp0.length = hp.length := by simpa [pl] using (f2 .len).2 (fun h => hw ((hwrs _).1 h))
        rw [List.getElem?_eq_none (by omega), List.getElem?_eq_none (by omega)]
    have hLs : ∀ i, i ∈ L → h2'[i]? = hp0[i]? := fun i hi => all_eq fun p hp' => (e2 p).1 ((hwrs _).2 ⟨_, (allsOf_all h4).1 hi, hp'⟩)
    have hok : okMv hp.length hs L h2' v0 = okMv hp.length hs L hp0 v0 := by
      have a1 : L.all (fun i => covO (okM hp.length hs) (h2'.getD i .dead)) = L.all (fun i => covO (okM hp.length hs) (hp0.getD i .dead)) := by
        rw [Bool.eq_iff_iff, List.all_eq_true, List.all_eq_true]
        constructor <;> intro h i hi <;> have := h i hi <;> rw [List.getD_eq_getElem?_getD] at this ⊢
        · rw [← hLs i hi]; exact this
        · rw [hLs i hi]; exact this
      have a2 : h2'.drop hp.length = hp0.drop hp.length := by
        apply List.ext_getElem?
        intro i
        rw [List.getElem?_drop, List.getElem?_drop]
        exact hnew _ (by omega)
      unfold okMv
      rw [hl2, a1, a2]
    have hok0 := h5
    simp only [okMv, Bool.and_eq_true, beq_iff_eq, List.all_eq_true, decide_eq_true_eq] at hok0
    obtain ⟨⟨⟨⟨⟨k1, k2⟩, k3⟩, k4⟩, k5⟩, k6⟩ := hok0
    refine ⟨hpM hp.length hs L h2', ?_, fun p => ?_⟩
    · unfold opM
      rw [e1]
      simp only [Option.bind_some, hft2, h3, hlen, h4, hok, h5, cond_true]
    · have same : ∀ i, (i ∈ L ∨ i ∈ hs) → (hpM hp.length hs L h2')[i]? = (hpM hp.length hs L hp0)[i]? := by
        intro i hi
        rw [hpM_get, hpM_get]
        split
        · have b1 : h2'.getD (hp.length + hs.idxOf i) .dead = hp0.getD (hp.length + hs.idxOf i) .dead := by
            rw [List.getD_eq_getElem?_getD, List.getD_eq_getElem?_getD, hnew _ (by omega)]
          rw [b1]
          cases hc : hs.contains i with
          | true => rfl
          | false =>
            have hiL : i ∈ L := by
              rcases hi with hi | hi
              · exact hi
              · simp [hi] at hc
            rw [List.getD_eq_getElem?_getD (l := h2') (i := i), List.getD_eq_getElem?_getD (l := hp0) (i := i), hLs i hiL]
        · rfl
      have other : ∀ i, i ∉ L → i ∉ hs → (hpM hp.length hs L h2')[i]? = h2[i]? := by
        intro i a1 a2
        rw [hpM_get]
        have c1 : hs.contains i = false := by simpa using a2
        have c2 : L.contains i = false := by simpa using a1
        by_cases hi : i < hp.length
        · rw [if_pos hi, c1, c2]
          simp only [Bool.false_eq_true, if_false]
          have : h2'[i]? = h2[i]? := by
            refine all_eq fun p hpp => (e2 p).2 fun hw => ?_
            rcases allsOf_spec h4 p ((hwrs _).1 hw) with hn | ⟨j, hj, hn⟩
            · cases p <;> simp only [Spot.has] at hpp hn <;> omega
            · have : i = j := by cases p <;> simp only [Spot.has] at hpp hn <;> omega
              subst this; exact a1 hj
          rw [← this, List.getD_eq_getElem?_getD, List.getElem?_eq_getElem (show i < h2'.length by omega)]; rfl
        · rw [if_neg hi, List.getElem?_eq_none (by omega)]
      have wr : ∀ {p}, (∃ i, (i ∈ L ∨ i ∈ hs) ∧ (Spot.all i).has p) ↔ (ftM hp.length hs ft).wrs p := by
        intro p
        unfold Ft.wrs ftM
        rw [h3]
        constructor
        · rintro ⟨i, hi, hpp⟩
          refine ⟨_, ?_, hpp⟩
          rcases hi with hi | hi
          · exact List.mem_append_left _ (List.mem_filter.2 ⟨(allsOf_all h4).1 hi, rfl⟩)
          · exact List.mem_append_right _ (List.mem_map.2 ⟨i, hi, rfl⟩)
        · rintro ⟨s, hsm, hpp⟩
          rcases List.mem_append.1 hsm with h | h
          · obtain ⟨m1, m2⟩ := List.mem_filter.1 h
            rcases allsOf_mem h4 s m1 with rfl | ⟨j, hj, rfl⟩
            · simp [notNew] at m2
            · exact ⟨j, .inl hj, hpp⟩
          · obtain ⟨i, hi, rfl⟩ := List.mem_map.1 h
            exact ⟨i, .inr hi, hpp⟩
      constructor
      · intro hw
        obtain ⟨i, hi, hpp⟩ := wr.2 hw
        cases p with
        | len => simp [Spot.has] at hpp
        | ob j => simp only [Spot.has] at hpp; subst hpp; exact (pl_of (same _ hi)).1
        | cell j k => simp only [Spot.has] at hpp; subst hpp; exact (pl_of (same _ hi)).2 k
      · intro hw
        have nn : ∀ j, (Spot.all j).has p → j ∉ L ∧ j ∉ hs := fun j hj => ⟨fun h => hw (wr.1 ⟨j, .inl h, hj⟩), fun h => hw (wr.1 ⟨j, .inr h, hj⟩)⟩
        cases p with
        | len => simp [pl, hpM_len, hlen]
        | ob j => obtain ⟨b1, b2⟩ := nn j rfl; exact (pl_of (other j b1 b2)).1
        | cell j k => obtain ⟨b1, b2⟩ := nn j rfl; exact (pl_of (other j b1 b2)).2 k
end Go.Cx
