/- An operation whose new objects go into holes. -/
import Derived.Test.YtcnalhganahiiaaGreatDoorCxU
import Derived.Test.YtcnalhganahiiaaGreatDoorCxV
section
namespace Go.Cx
open Go.RowKit (Below)
set_option linter.unusedSimpArgs false
theorem allsOf_spec {n : Nat} : ∀ {W : List Spot} {L : List Nat}, allsOf n W = some L → ∀ p, hasL W p → (Spot.new n).has p ∨ ∃ i ∈ L, (Spot.all i).has p
  | [], L, _, p, h => by obtain ⟨s, hs, -⟩ := h; simp at hs
  | .new m :: W, L, h, p, hp => by
    simp only [allsOf] at h
    cases hm : (m == n) with
    | false => rw [hm] at h; simp at h
    | true =>
      rw [hm] at h
      simp only [beq_iff_eq] at hm
      subst hm
      obtain ⟨s, hs, hsp⟩ := hp
      rcases List.mem_cons.1 hs with rfl | hs
      · exact .inl hsp
      · exact allsOf_spec h p ⟨s, hs, hsp⟩
  | .all i :: W, L, h, p, hp => by
    simp only [allsOf, Option.map_eq_some_iff] at h
    obtain ⟨L', h, rfl⟩ := h
    obtain ⟨s, hs, hsp⟩ := hp
    rcases List.mem_cons.1 hs with rfl | hs
    · exact .inr ⟨i, by simp, hsp⟩
    · rcases allsOf_spec h p ⟨s, hs, hsp⟩ with h1 | ⟨j, h1, h2⟩
      · exact .inl h1
      · exact .inr ⟨j, by simp [h1], h2⟩
  | .ob _ :: W, L, h, p, hp => by simp [allsOf] at h
  | .rng .. :: W, L, h, p, hp => by simp [allsOf] at h
noncomputable def opM (hs : List Nat) (E : En) (o : Oper) (fr : List AV) (hp : List Ob) : Option (AV × List Ob × Cls) :=
  (opF E o fr hp).bind fun r => match hs with
    | [] => cond (r.2.1.length == hp.length && newsOK hp.length (ftOf E o fr hp r.2.2)) (some r) none
    | _ => ((ftOf E o fr hp r.2.2).f.bind fun f => allsOf hp.length f.2).bind fun L => cond (okMv hp.length hs L r.2.1 r.1) (some (ren (τM hp.length hs) r.1, hpM hp.length hs L r.2.1, r.2.2)) none
theorem opM_inv {hs : List Nat} {E : En} {o : Oper} {fr : List AV} {hp hp' : List Ob} {v : AV} {c : Cls} (h : opM hs E o fr hp = some (v, hp', c)) :
    (hs = [] ∧ opF E o fr hp = some (v, hp', c) ∧ hp'.length = hp.length ∧ newsOK hp.length (ftOf E o fr hp c) = true) ∨
    ∃ v0 hp0 R W L, hs ≠ [] ∧ opF E o fr hp = some (v0, hp0, c) ∧ (ftOf E o fr hp c).f = some (R, W) ∧ allsOf hp.length W = some L ∧ okMv hp.length hs L hp0 v0 = true ∧ v = ren (τM hp.length hs) v0 ∧ hp' = hpM hp.length hs L hp0 := by
  unfold opM at h
  cases hop : opF E o fr hp with
  | none => rw [hop] at h; simp at h
  | some r =>
    obtain ⟨v0, hp0, c0⟩ := r
    rw [hop] at h
    simp only [Option.bind_some] at h
    split at h
    · cases hl : (hp0.length == hp.length && newsOK hp.length (ftOf E o fr hp c0)) with
      | false => rw [hl] at h; simp at h
      | true =>
        rw [hl] at h; simp at h; obtain ⟨rfl, rfl, rfl⟩ := h
        simp only [Bool.and_eq_true, beq_iff_eq] at hl
        exact .inl ⟨rfl, rfl, hl.1, hl.2⟩
    · rename_i hne
      cases hf : (ftOf E o fr hp c0).f with
      | none => rw [hf] at h; simp at h
      | some f =>
        obtain ⟨R, W⟩ := f
        rw [hf] at h
        simp only [Option.bind_some] at h
        cases hL : allsOf hp.length W with
        | none => rw [hL] at h; simp at h
        | some L =>
          rw [hL] at h
          simp only [Option.bind_some] at h
          cases hk : okMv hp.length hs L hp0 v0 with
          | false => rw [hk] at h; simp at h
          | true =>
            rw [hk] at h
            simp only [cond_true, Option.some.injEq, Prod.mk.injEq] at h
            obtain ⟨rfl, rfl, rfl⟩ := h
            exact .inr ⟨v0, hp0, R, W, L, fun e => hne e, rfl, hf, hL, hk, rfl, rfl⟩
theorem opM_wp {E : En} (hE : EnOK E) {hs : List Nat} {g : Gh} (hLy : LayAt E.P g) {w : World} {hp : List Ob} (h : R g w hp) {fr : List AV} {a : Act} (hfr : VL g fr a.tmps.toList) {o : Oper} {v : AV} {hp' : List Ob} {c : Cls} (hop : opM hs E o fr hp = some (v, hp', c))
    (hh : ∀ i ∈ hs, g.blk i = none ∧ g.cur i = none)
    {next : Act → World → Prop} {Q : Exit → Act → World → Prop} (hk : ∀ g' w' cv, g.le g' → R g' w' hp' → V g' v cv → next (a.put o.dst cv) w') : o.wp E.P a w next Q := by
  rcases opM_inv hop with ⟨-, h1, -⟩ | ⟨v0, hp0, R0, W, L, -, h1, h2, h3, h4, rfl, rfl⟩
  · exact opF_wp hE hLy h hfr h1 hk
  · simp only [okMv, Bool.and_eq_true, beq_iff_eq, List.all_eq_true, decide_eq_true_eq] at h4
    obtain ⟨⟨⟨⟨⟨k1, k2⟩, k3⟩, k4⟩, k5⟩, k6⟩ := h4
    have hd := distinct_nodup0 k2
    have same : ∀ i : Nat, i < hp.length → L.contains i = false → hp0[i]? = hp[i]? := by
      intro i hi hc
      obtain ⟨h2', e1, e2⟩ := opF_frame hE h1 hp (fun _ _ => rfl)
      rw [h1] at e1
      simp only [Option.some.injEq, Prod.mk.injEq, true_and, and_true] at e1
      subst e1
      refine all_eq fun p hpp => (e2 p).2 fun hw => ?_
      have hw : hasL W p := by unfold Ft.wrs at hw; rw [h2] at hw; exact hw
      rcases allsOf_spec h3 p hw with hn | ⟨j, hj, hn⟩
      · cases p <;> simp only [Spot.has] at hpp hn <;> omega
      · have : i = j := by cases p <;> simp only [Spot.has] at hpp hn <;> omega
        subst this
        simp [hj] at hc
    refine opF_wp hE hLy h hfr h1 fun g' w' cv hle hR hV => hk (g'.mv hp.length hs) w' cv (Gh.mv_le hle (fun i hi => h.none_blk hi) hh) (hR.move k1 hd k3 (fun i o hi _ hc ho => ?_) (fun i o hi _ hc ho => ?_)) ?_
    · rw [same i hi hc] at ho
      exact h.old_cov hh ho
    · rcases hc with hc | hc
      · have := k5 i (by simpa using hc)
        rw [List.getD_eq_getElem?_getD, ho] at this; exact this
      · refine k6 o (List.mem_of_getElem? (i := i - hp.length) ?_)
        rw [List.getElem?_drop, show hp.length + (i - hp.length) = i by omega]; exact ho
    · exact V.renamed (g := g') (g' := g'.mv hp.length hs) (fun _ _ _ e => e) (fun _ _ hi e => (Gh.mv_at hd k3 hi).1.trans e) (fun _ _ hi e => (Gh.mv_at hd k3 hi).2.trans e) hV k4
theorem allsOf_all {n : Nat} {i : Nat} : ∀ {W : List Spot} {L : List Nat}, allsOf n W = some L → (i ∈ L ↔ Spot.all i ∈ W)
  | [], L, h => by simp only [allsOf, Option.some.injEq] at h; subst h; simp
  | .new m :: W, L, h => by
    simp only [allsOf] at h
    cases hm : (m == n) with
    | false => rw [hm] at h; simp at h
    | true => rw [hm] at h; simp only [cond_true] at h; rw [allsOf_all h]; simp
  | .all j :: W, L, h => by
    simp only [allsOf, Option.map_eq_some_iff] at h
    obtain ⟨L', h, rfl⟩ := h
    simp [allsOf_all (i := i) h]
  | .ob _ :: W, L, h => by simp [allsOf] at h
  | .rng .. :: W, L, h => by simp [allsOf] at h
theorem allsOf_mem {n : Nat} : ∀ {W : List Spot} {L : List Nat}, allsOf n W = some L → ∀ s ∈ W, s = .new n ∨ ∃ i ∈ L, s = .all i
  | [], L, _, s, h => by simp at h
  | .new m :: W, L, h, s, hs => by
    simp only [allsOf] at h
    cases hm : (m == n) with
    | false => rw [hm] at h; simp at h
    | true =>
      rw [hm] at h
      simp only [beq_iff_eq] at hm
      subst hm
      rcases List.mem_cons.1 hs with rfl | hs
      · exact .inl rfl
      · exact allsOf_mem h s hs
  | .all i :: W, L, h, s, hs => by
    simp only [allsOf, Option.map_eq_some_iff] at h
    obtain ⟨L', h, rfl⟩ := h
    rcases List.mem_cons.1 hs with rfl | hs
    · exact .inr ⟨i, by simp, rfl⟩
    · rcases allsOf_mem h s hs with h1 | ⟨j, h1, h2⟩
      · exact .inl h1
      · exact .inr ⟨j, by simp [h1], h2⟩
  | .ob _ :: W, L, h, s, hs => by simp [allsOf] at h
  | .rng .. :: W, L, h, s, hs => by simp [allsOf] at h
theorem allsOf_len {n : Nat} {W : List Spot} {L : List Nat} (h : allsOf n W = some L) (hl : hasL W .len) : ∀ p, (Spot.new n).has p → hasL W p := by
  induction W generalizing L with
  | nil => obtain ⟨s, hs, -⟩ := hl; simp at hs
  | cons s W ih =>
    intro p hp
    cases s with
    | new m =>
      simp only [allsOf] at h
      cases hm : (m == n) with
      | false => rw [hm] at h; simp at h
      | true => simp only [beq_iff_eq] at hm; subst hm; exact ⟨_, List.mem_cons_self, hp⟩
    | all i =>
      simp only [allsOf, Option.map_eq_some_iff] at h
      obtain ⟨L', h, -⟩ := h
      obtain ⟨s, hs, hsp⟩ := hl
      rcases List.mem_cons.1 hs with rfl | hs
      · simp [Spot.has] at hsp
      · obtain ⟨s', h1, h2⟩ := ih h ⟨s, hs, hsp⟩ p hp
        exact ⟨s', by simp [h1], h2⟩
    | ob _ => simp [allsOf] at h
    | rng => simp [allsOf] at h
theorem hpM_get {n : Nat} {hs L : List Nat} {hp : List Ob} (i : Nat) : (hpM n hs L hp)[i]? = if i < n then some (if hs.contains i then renO (τM n hs) (hp.getD (n + hs.idxOf i) .dead) else if L.contains i then renO (τM n hs) (hp.getD i .dead) else hp.getD i .dead) else none := by
  unfold hpM
  rw [List.getElem?_map]
  by_cases h : i < n
  · rw [List.getElem?_range h, if_pos h]; rfl
  · rw [List.getElem?_eq_none (by simpa using h), if_neg h]; rfl
theorem hpM_len {n : Nat} {hs L : List Nat} {hp : List Ob} : (hpM n hs L hp).length = n := by simp [hpM]
theorem opM_frame {E : En} (hE : EnOK E) {hs : List Nat} {o : Oper} {fr : List AV} {hp hp' : List Ob} {v : AV} {c : Cls} (hop : opM hs E o fr hp = some (v, hp', c)) :
    Frame (opM hs E o fr) (Ft.rds (ftM hp.length hs (ftOf E o fr hp c))) (Ft.wrs (ftM hp.length hs (ftOf E o fr hp c))) hp v hp' c := by
  intro h2 hR
  generalize hft : ftOf E o fr hp c = ft at hR ⊢
  have hc : ft.c = c := by subst hft; unfold ftOf; cases c <;> rfl
  have hR0 : ∀ p, ft.rds p → pl h2 p = pl hp p := by
    intro p hp'
    refine hR p ?_
    unfold Ft.rds ftM at *
    cases hf : ft.f with
    | none => rw [hf] at hp'; simpa [hf] using hp'
    | some f => rw [hf] at hp'; obtain ⟨s, h1, h2⟩ := hp'; exact ⟨s, List.mem_cons_of_mem _ h1, h2⟩
  have hlen : ft.f.isSome = true → h2.length = hp.length := by
    intro hs'
    have : pl h2 .len = pl hp .len := by
      refine hR .len ?_
      unfold Ft.rds ftM
      cases hf : ft.f with
      | none => rw [hf] at hs'; simp at hs'
      | some f => exact ⟨_, List.mem_cons_self, trivial⟩
    simpa [pl] using this
  have hft2 : ftOf E o fr h2 c = ft := by rw [← hft]; exact ftOf_congr (fun _ _ => rfl) (by rw [hft]; exact hR0)
  rcases opM_inv hop with ⟨rfl, h1, h3, h4⟩ | ⟨v0, hp0, R, W, L, hne, h1, h3, h4, h5, rfl, rfl⟩
  · obtain ⟨h2', e1, e2⟩ := opF_frame hE h1 h2 (by rw [hft]; exact hR0)
    rw [hft] at e2 h4
    have hl2 : h2'.length = h2.length := by
      by_cases hw : ft.wrs .len
      · have a1 : h2'.length = hp'.length := by simpa [pl] using (e2 .len).1 hw
        have a2 : h2.length = hp.length := by
          cases hf : ft.f with
          | some f => exact hlen (by rw [hf]; rfl)
          | none =>
            unfold Ft.wrs at hw
            rw [hf] at hw
            have : pl h2 .len = pl hp .len := hR0 .len (by
              unfold Ft.rds; rw [hf]
              intro e; simp only at hw; rw [e] at hw; simp [Cls.isWrite] at hw)
            simpa [pl] using this
        omega
      · simpa [pl] using (e2 .len).2 hw
    have h4' : newsOK h2.length ft = true := by
      cases hf : ft.f with
      | none => unfold newsOK; rw [hf]
      | some f => rw [hlen (by rw [hf]; rfl)]; exact h4
    refine ⟨h2', ?_, fun p => ⟨fun hw => (e2 p).1 ?_, fun hw => ?_⟩⟩
    · unfold opM
      rw [e1]
      simp [hl2, hft2, h4']
    · unfold Ft.wrs ftM at *
      cases hf : ft.f with
      | none => rw [hf] at hw; simpa [hf] using hw
      | some f =>
        rw [hf] at hw
        obtain ⟨s, a1, a2⟩ := hw
        simp only [List.map_nil, List.append_nil] at a1
        exact ⟨s, (List.mem_filter.1 a1).1, a2⟩
    · by_cases hw0 : ft.wrs p
      · cases hf : ft.f with
        | none => exfalso; apply hw; unfold Ft.wrs ftM at *; rw [hf] at hw0; simpa [hf] using hw0
        | some f =>
          obtain ⟨R, W⟩ := f
          have hlen := hlen (by rw [hf]; rfl)
          unfold Ft.wrs at hw0
          rw [hf] at hw0
          obtain ⟨s, a1, a2⟩ := hw0
          have hnew : ∃ m, s = .new m := by
            cases hs : notNew s with
            | true =>
              exfalso; apply hw
              unfold Ft.wrs ftM; rw [hf]
              exact ⟨s, by simp [a1, hs], a2⟩
            | false => cases s <;> simp [notNew] at hs; exact ⟨_, rfl⟩
          obtain ⟨m, rfl⟩ := hnew
          have hm : m = hp.length := by
            unfold newsOK at h4
            rw [hf] at h4
            have := List.all_eq_true.1 h4 _ a1
            simpa using this
          subst hm
          have none' : ∀ {l : List Ob} {j : Nat}, l.length = hp.length → hp.length ≤ j → l[j]? = none := fun e hj => List.getElem?_eq_none (by omega)
          cases p with
          | len => simp [pl, hl2]
          | ob j => simp only [pl, none' (hl2.trans hlen) a2, none' hlen a2]
          | cell j k => simp only [pl, none' (hl2.trans hlen) a2, none' hlen a2]
      · exact (e2 p).2 hw0
  · rw [hft] at h3
    have hlen := hlen (by rw [h3]; rfl)
    obtain ⟨h2', e1, e2⟩ := opF_frame hE h1 h2 (by rw [hft]; exact hR0)
    obtain ⟨h0', f1, f2⟩ := opF_frame hE h1 hp (fun _ _ => rfl)
    rw [h1] at f1
    simp only [Option.some.injEq, Prod.mk.injEq, true_and, and_true] at f1
    subst f1
    rw [hft] at e2 f2
    have hwrs : ∀ p, ft.wrs p ↔ hasL W p := fun p => by unfold Ft.wrs; rw [h3]
    have hl2 : h2'.length = hp0.length := by
      by_cases hw : hasL W .len
      · simpa [pl] using (e2 .len).1 ((hwrs _).2 hw)
      · have a1 : h2'.length = h2.length := by simpa [pl] using (e2 .len).2 (fun h => hw ((hwrs _).1 h))
        have a2 : hp0.length = hp.length := by simpa [pl] using (f2 .len).2 (fun h => hw ((hwrs _).1 h))
        omega
    have hnew : ∀ i, hp.length ≤ i → h2'[i]? = hp0[i]? := by
      intro i hi
      by_cases hw : hasL W .len
      · refine all_eq fun p hp' => (e2 p).1 ((hwrs _).2 (allsOf_len h4 hw p ?_))
        cases p <;> simp only [Spot.has] at hp' ⊢ <;> omega
      · have a2 : hp0.length = hp.length := by simpa [pl] using (f2 .len).2 (fun h => hw ((hwrs _).1 h))
        rw [List.getElem?_eq_none (by omega), List.getElem?_eq_none (by omega)]
    have hLs : ∀ i, i ∈ L → h2'[i]? = hp0[i]? := fun i hi => all_eq fun p hp' => (e2 p).1 ((hwrs _).2 ⟨_, (allsOf_all h4).1 hi, hp'⟩)
    have hok : okMv hp.length hs L h2' v0 = okMv hp.length hs L hp0 v0 := by
      have a1 : L.all (fun i => covO (okM hp.length hs) (h2'.getD i .dead)) = L.all (fun i => covO (okM hp.length hs) (hp0.getD i .dead)) := by
        rw [Bool.eq_iff_iff, List.all_eq_true, List.all_eq_true]
        constructor <;> intro h i hi <;> have := h i hi <;> rw [List.getD_eq_getElem?_getD] at this ⊢
        · rw [← hLs i hi]; exact this
        · rw [hLs i hi]; exact this
      have a2 : h2'.drop hp.length = hp0.drop hp.length := by
        apply List.ext_getElem?
        intro i
        rw [List.getElem?_drop, List.getElem?_drop]
        exact hnew _ (by omega)
      unfold okMv
      rw [hl2, a1, a2]
    have hok0 := h5
    simp only [okMv, Bool.and_eq_true, beq_iff_eq, List.all_eq_true, decide_eq_true_eq] at hok0
    obtain ⟨⟨⟨⟨⟨k1, k2⟩, k3⟩, k4⟩, k5⟩, k6⟩ := hok0
    refine ⟨hpM hp.length hs L h2', ?_, fun p => ?_⟩
    · unfold opM
      rw [e1]
      simp only [Option.bind_some, hft2, h3, hlen, h4, hok, h5, cond_true]
    · have same : ∀ i, (i ∈ L ∨ i ∈ hs) → (hpM hp.length hs L h2')[i]? = (hpM hp.length hs L hp0)[i]? := by
        intro i hi
        rw [hpM_get, hpM_get]
        split
        · have b1 : h2'.getD (hp.length + hs.idxOf i) .dead = hp0.getD (hp.length + hs.idxOf i) .dead := by
            rw [List.getD_eq_getElem?_getD, List.getD_eq_getElem?_getD, hnew _ (by omega)]
          rw [b1]
          cases hc : hs.contains i with
          | true => rfl
          | false =>
            have hiL : i ∈ L := by
              rcases hi with hi | hi
              · exact hi
              · simp [hi] at hc
            rw [List.getD_eq_getElem?_getD (l := h2') (i := i), List.getD_eq_getElem?_getD (l := hp0) (i := i), hLs i hiL]
        · rfl
      have other : ∀ i, i ∉ L → i ∉ hs → (hpM hp.length hs L h2')[i]? = h2[i]? := by
        intro i a1 a2
        rw [hpM_get]
        have c1 : hs.contains i = false := by simpa using a2
        have c2 : L.contains i = false := by simpa using a1
        by_cases hi : i < hp.length
        · rw [if_pos hi, c1, c2]
          simp only [Bool.false_eq_true, if_false]
          have : h2'[i]? = h2[i]? := by
            refine all_eq fun p hpp => (e2 p).2 fun hw => ?_
            rcases allsOf_spec h4 p ((hwrs _).1 hw) with hn | ⟨j, hj, hn⟩
            · cases p <;> simp only [Spot.has] at hpp hn <;> omega
            · have : i = j := by cases p <;> simp only [Spot.has] at hpp hn <;> omega
              subst this; exact a1 hj
          rw [← this, List.getD_eq_getElem?_getD, List.getElem?_eq_getElem (show i < h2'.length by omega)]; rfl
        · rw [if_neg hi, List.getElem?_eq_none (by omega)]
      have wr : ∀ {p}, (∃ i, (i ∈ L ∨ i ∈ hs) ∧ (Spot.all i).has p) ↔ (ftM hp.length hs ft).wrs p := by
        intro p
        unfold Ft.wrs ftM
        rw [h3]
        constructor
        · rintro ⟨i, hi, hpp⟩
          refine ⟨_, ?_, hpp⟩
          rcases hi with hi | hi
          · exact List.mem_append_left _ (List.mem_filter.2 ⟨(allsOf_all h4).1 hi, rfl⟩)
          · exact List.mem_append_right _ (List.mem_map.2 ⟨i, hi, rfl⟩)
        · rintro ⟨s, hsm, hpp⟩
          rcases List.mem_append.1 hsm with h | h
          · obtain ⟨m1, m2⟩ := List.mem_filter.1 h
            rcases allsOf_mem h4 s m1 with rfl | ⟨j, hj, rfl⟩
            · simp [notNew] at m2
            · exact ⟨j, .inl hj, hpp⟩
          · obtain ⟨i, hi, rfl⟩ := List.mem_map.1 h
            exact ⟨i, .inr hi, hpp⟩
      constructor
      · intro hw
        obtain ⟨i, hi, hpp⟩ := wr.2 hw
        cases p with
        | len => simp [Spot.has] at hpp
        | ob j => simp only [Spot.has] at hpp; subst hpp; exact (pl_of (same _ hi)).1
        | cell j k => simp only [Spot.has] at hpp; subst hpp; exact (pl_of (same _ hi)).2 k
      · intro hw
        have nn : ∀ j, (Spot.all j).has p → j ∉ L ∧ j ∉ hs := fun j hj => ⟨fun h => hw (wr.1 ⟨j, .inl h, hj⟩), fun h => hw (wr.1 ⟨j, .inr h, hj⟩)⟩
        cases p with
        | len => simp [pl, hpM_len, hlen]
        | ob j => obtain ⟨b1, b2⟩ := nn j rfl; exact (pl_of (other j b1 b2)).1
        | cell j k => obtain ⟨b1, b2⟩ := nn j rfl; exact (pl_of (other j b1 b2)).2 k
end Go.Cx

end

section
namespace Go.Cx
noncomputable section
open Go.RowKit (Below)
set_option linter.unusedSimpArgs false
def stepF (E : En) (all : List Oper) (o : Oper) (st : St) : Option (St × Ft) :=
  match o.guard with
  | none => (opF E o st.fr st.hp).map fun r => (⟨putA st.fr o.dst r.1, r.2.1⟩, ftOf E o st.fr st.hp r.2.2)
  | some (j, want) => match (all[j]?).bind (·.dst) with
    | some d => match st.fr.getD d .junk with
      | .bool b => if b = want then (opF E o st.fr st.hp).map fun r => (⟨putA st.fr o.dst r.1, r.2.1⟩, ftOf E o st.fr st.hp r.2.2) else some (⟨putA st.fr o.dst (.tuple []), st.hp⟩, ⟨.pure, none⟩)
      | .tuple [] => some (⟨putA st.fr o.dst (.tuple []), st.hp⟩, ⟨.pure, none⟩)
      | _ => none
    | none => none
def runF (E : En) (all : List Oper) : List Oper → St → Option (St × List Ft)
  | [], st => some (st, [])
  | o :: l, st => match stepF E all o st with
    | some (st', c) => (runF E all l st').map fun r => (r.1, c :: r.2)
    | none => none
theorem set_same {fr : List AV} {d : Nat} {b : Bool} (h : fr.getD d .junk = .bool b) : fr.set d (.bool b) = fr := by
  have hlt : d < fr.length := by
    rcases Nat.lt_or_ge d fr.length with h' | h'
    · exact h'
    · rw [List.getD_eq_getElem?_getD, List.getElem?_eq_none h'] at h; simp at h
  apply List.ext_getElem?
  intro i
  rw [List.getElem?_set]
  split
  · rename_i e; subst e
    rw [List.getD_eq_getElem?_getD, List.getElem?_eq_getElem hlt] at h
    rw [List.getElem?_eq_getElem hlt]; simpa using h.symm
  · rfl
theorem runOps_F {E : En} {all : List Oper} : ∀ (l : List Oper) (st : St) (acc : List Ft) (K : St → List Ft → Prop), runOps False E all l st acc K → ∃ st' cl, runF E all l st = some (st', cl) ∧ K st' (acc.reverse ++ cl)
  | [], st, acc, K, h => ⟨st, [], rfl, by simpa [runOps] using h⟩
  | o :: l, st, acc, K, h => by
    have go : ∀ {st1 : St} {c : Ft}, stepF E all o st = some (st1, c) → runOps False E all l st1 (c :: acc) K → ∃ st' cl, runF E all (o :: l) st = some (st', cl) ∧ K st' (acc.reverse ++ cl) := by
      intro st1 c hs hr
      obtain ⟨st', cl, h1, h2⟩ := runOps_F l st1 (c :: acc) K hr
      exact ⟨st', c :: cl, by simp [runF, hs, h1], by simpa using h2⟩
    simp only [runOps] at h
    split at h
    · rename_i hg
      obtain ⟨v, hp', c, hop, hk⟩ := opA_P h
      exact go (by simp [stepF, hg, hop]) hk
    · rename_i j want hg
      split at h
      · rename_i d hd
        split at h
        · rename_i b hb
          cases b with
          | true =>
            simp only [cond_true, set_same hb] at h
            cases want with
            | true =>
              simp only [if_true] at h
              obtain ⟨v, hp', c, hop, hk⟩ := opA_P h
              exact go (by unfold stepF; simp only [hg, hd, hb]; simp [hop]) hk
            | false =>
              simp only [Bool.false_eq_true, if_false] at h
              exact go (by unfold stepF; simp only [hg, hd, hb]; simp) h
          | false =>
            simp only [cond_false, set_same hb] at h
            cases want with
            | true =>
              simp only [if_true] at h
              exact go (by unfold stepF; simp only [hg, hd, hb]; simp) h
            | false =>
              simp only [Bool.false_eq_true, if_false] at h
              obtain ⟨v, hp', c, hop, hk⟩ := opA_P h
              exact go (by unfold stepF; simp only [hg, hd, hb]; simp [hop]) hk
        · rename_i hb
          exact go (by unfold stepF; simp only [hg, hd, hb]) h
        · exact h.elim
      · exact h.elim
theorem runF_trace {E : En} {all : List Oper} : ∀ (l : List Oper) (st st' : St) (cl : List Ft), runF E all l st = some (st', cl) →
    cl.length = l.length ∧ ∃ S : Nat → St, S 0 = st ∧ S l.length = st' ∧ ∀ i o, l[i]? = some o → ∃ c, cl[i]? = some c ∧ stepF E all o (S i) = some (S (i + 1), c)
  | [], st, st', cl, h => by
    simp [runF] at h
    obtain ⟨rfl, rfl⟩ := h
    exact ⟨rfl, fun _ => st, rfl, rfl, fun i o h => by simp at h⟩
  | o :: l, st, st', cl, h => by
    simp only [runF] at h
    split at h
    · rename_i st1 c hs
      simp only [Option.map_eq_some_iff] at h
      obtain ⟨⟨st2, cl2⟩, h1, h2⟩ := h
      simp only [Prod.mk.injEq] at h2
      obtain ⟨rfl, rfl⟩ := h2
      obtain ⟨hl, S, hS0, hSn, hS⟩ := runF_trace l st1 st2 cl2 h1
      refine ⟨by simp [hl], fun i => match i with | 0 => st | i + 1 => S i, rfl, hSn, fun i o' ho => ?_⟩
      cases i with
      | zero =>
        simp at ho; subst ho
        exact ⟨c, rfl, by simp only [hS0]; exact hs⟩
      | succ i => exact hS i o' (by simpa using ho)
    · simp at h
theorem eval_congr {fr fr' : List AV} {x : Operand} (h : ∀ t, x = .tmp t → fr[t]? = fr'[t]?) : evalA fr x = evalA fr' x := by
  cases x with
  | tmp t => simp only [evalA, getR_eq, List.getD_eq_getElem?_getD, h t rfl]
  | _ => rfl
theorem stepF_spec {E : En} (hE : EnOK E) {all : List Oper} {o : Oper} {s s1 : St} {c : Ft} (h : stepF E all o s = some (s1, c)) :
    ∃ v, s1.fr = putA s.fr o.dst v ∧ ∀ st : St, (∀ t ∈ opReads all o, st.fr[t]? = s.fr[t]?) → (∀ p, c.rds p → pl st.hp p = pl s.hp p) →
      ∃ h2, stepF E all o st = some (⟨putA st.fr o.dst v, h2⟩, c) ∧ ∀ p, (c.wrs p → pl h2 p = pl s1.hp p) ∧ (¬ c.wrs p → pl h2 p = pl st.hp p) := by
  have ops : ∀ st : St, (∀ t ∈ opReads all o, st.fr[t]? = s.fr[t]?) → ∀ x ∈ o.op.operands.toList, evalA st.fr x = evalA s.fr x := by
    intro st hst x hx
    refine eval_congr fun t ht => hst t ?_
    subst ht
    simp only [opReads, List.mem_append, List.mem_filterMap]
    left; exact ⟨_, hx, rfl⟩
  have act : ∀ {c : Ft}, ((opF E o s.fr s.hp).map fun r => ((⟨putA s.fr o.dst r.1, r.2.1⟩ : St), ftOf E o s.fr s.hp r.2.2)) = some (s1, c) →
      ∃ v, s1.fr = putA s.fr o.dst v ∧ ∀ st : St, (∀ t ∈ opReads all o, st.fr[t]? = s.fr[t]?) → (∀ p, c.rds p → pl st.hp p = pl s.hp p) →
      ∃ h2, ((opF E o st.fr st.hp).map fun r => ((⟨putA st.fr o.dst r.1, r.2.1⟩ : St), ftOf E o st.fr st.hp r.2.2)) = some (⟨putA st.fr o.dst v, h2⟩, c) ∧ ∀ p, (c.wrs p → pl h2 p = pl s1.hp p) ∧ (¬ c.wrs p → pl h2 p = pl st.hp p) := by
    intro c hh
    simp only [Option.map_eq_some_iff] at hh
    obtain ⟨⟨v, hp', c'⟩, h1, h2⟩ := hh
    simp only [Prod.mk.injEq] at h2
    obtain ⟨rfl, rfl⟩ := h2
    have k := opF_frame hE h1
    refine ⟨v, rfl, fun st h3 h4 => ?_⟩
    obtain ⟨h2', k1, k2⟩ := k st.hp h4
    refine ⟨h2', ?_, k2⟩
    rw [opF_congr (ops st h3), k1]
    simp only [Option.map_some, ftOf_congr (ops st h3) h4]
  have nop : ∀ st : St, ∀ p, ((⟨.pure, none⟩ : Ft).wrs p → pl st.hp p = pl s.hp p) ∧ (¬ (⟨.pure, none⟩ : Ft).wrs p → pl st.hp p = pl st.hp p) := fun st p => ⟨fun e => by simp [Ft.wrs, Cls.isWrite] at e, fun _ => rfl⟩
  unfold stepF at h
  split at h
  · rename_i hg
    obtain ⟨v, h1, h3⟩ := act h
    exact ⟨v, h1, fun st h4 h5 => by unfold stepF; rw [hg]; exact h3 st h4 h5⟩
  · rename_i j want hg
    split at h
    · rename_i d hd
      split at h
      · rename_i b hb
        have slot : ∀ st : St, (∀ t ∈ opReads all o, st.fr[t]? = s.fr[t]?) → st.fr.getD d .junk = .bool b := by
          intro st hst
          have := hst d (by simp only [opReads, hg, hd]; simp)
          rw [List.getD_eq_getElem?_getD, this, ← List.getD_eq_getElem?_getD]; exact hb
        split at h
        · rename_i e
          obtain ⟨v, h1, h3⟩ := act h
          exact ⟨v, h1, fun st h4 h5 => by unfold stepF; simp only [hg, hd, slot st h4, if_pos e]; exact h3 st h4 h5⟩
        · rename_i e
          simp only [Option.some.injEq, Prod.mk.injEq] at h
          obtain ⟨rfl, rfl⟩ := h
          exact ⟨.tuple [], rfl, fun st h4 h5 => ⟨st.hp, by unfold stepF; simp only [hg, hd, slot st h4, if_neg e], nop st⟩⟩
      · rename_i hb
        have slot : ∀ st : St, (∀ t ∈ opReads all o, st.fr[t]? = s.fr[t]?) → st.fr.getD d .junk = .tuple [] := by
          intro st hst
          have := hst d (by simp only [opReads, hg, hd]; simp)
          rw [List.getD_eq_getElem?_getD, this, ← List.getD_eq_getElem?_getD]; exact hb
        simp only [Option.some.injEq, Prod.mk.injEq] at h
        obtain ⟨rfl, rfl⟩ := h
        exact ⟨.tuple [], rfl, fun st h4 h5 => ⟨st.hp, by unfold stepF; simp only [hg, hd, slot st h4], nop st⟩⟩
      · simp at h
    · simp at h
theorem stepF_keeps {E : En} (hE : EnOK E) {all : List Oper} {o : Oper} {s s1 : St} {c : Ft} (h : stepF E all o s = some (s1, c)) {p : Pl} (hp : ¬ c.wrs p) : pl s1.hp p = pl s.hp p := by
  obtain ⟨v, h1, h3⟩ := stepF_spec hE h
  obtain ⟨h2, k1, k2⟩ := h3 s (fun _ _ => rfl) (fun _ _ => rfl)
  rw [h] at k1
  simp only [Option.some.injEq, Prod.mk.injEq] at k1
  have := (k2 p).2 hp
  rw [k1.1]
  exact this
def preds (acc : List (List Nat)) (o : Oper) : List Nat := ddupF ((o.after.toList.filter (Region.binds .any)).flatMap fun e => e.on :: acc.getD e.on []) 0
theorem closure_from : ∀ (l : List Oper) (acc : List (List Nat)),
    (l.foldl (fun acc o => acc ++ [preds acc o]) acc).take acc.length = acc ∧ (l.foldl (fun acc o => acc ++ [preds acc o]) acc).length = acc.length + l.length ∧
    ∀ i o, l[i]? = some o → (l.foldl (fun acc o => acc ++ [preds acc o]) acc)[acc.length + i]? = some (preds ((l.foldl (fun acc o => acc ++ [preds acc o]) acc).take (acc.length + i)) o)
  | [], acc => ⟨by simp, by simp, fun i o h => by simp at h⟩
  | o :: l, acc => by
    obtain ⟨h1, h2, h3⟩ := closure_from l (acc ++ [preds acc o])
    simp only [List.foldl_cons]
    generalize l.foldl (fun acc o => acc ++ [preds acc o]) (acc ++ [preds acc o]) = F at *
    simp only [List.length_append, List.length_cons, List.length_nil] at h1 h2 h3
    have h4 : F.take acc.length = acc := by
      have := congrArg (List.take acc.length) h1
      rw [List.take_take, Nat.min_eq_left (by omega), List.take_left' rfl] at this
      exact this
    refine ⟨h4, by simp; omega, fun i o' ho => ?_⟩
    cases i with
    | zero =>
      simp at ho; subst ho
      rw [Nat.add_zero, h4]
      have := congrArg (fun l => l[acc.length]?) h1
      simpa using this
    | succ i =>
      have := h3 i o' (by simpa using ho)
      rw [show acc.length + (i + 1) = acc.length + (0 + 1) + i by omega]
      exact this
theorem closure_spec (ops : List Oper) {j : Nat} {o : Oper} (h : ops[j]? = some o) : (closure ops)[j]? = some (preds ((closure ops).take j) o) := by
  have := (closure_from ops []).2.2 j o h
  simpa [closure, preds] using this
theorem closure_len (ops : List Oper) : (closure ops).length = ops.length := by
  have := (closure_from ops []).2.1
  simpa [closure, preds] using this
theorem closure_in (ops : List Oper) (L : Nat → Prop) (hL : ∀ k o, ops[k]? = some o → L k → ∀ e ∈ o.after.toList, Region.binds .any e = true → L e.on) :
    ∀ (j : Nat) (o : Oper), ops[j]? = some o → (∀ e ∈ o.after.toList, Region.binds .any e = true → L e.on) → ∀ i ∈ (closure ops).getD j [], L i := by
  intro j
  induction j using Nat.strongRecOn with
  | _ j ih =>
    intro o ho hp i hi
    rw [List.getD_eq_getElem?_getD, closure_spec ops ho] at hi
    simp only [Option.getD_some, preds] at hi
    replace hi := mem_ddupF _ _ hi
    simp only [List.mem_flatMap, List.mem_filter, List.mem_cons] at hi
    obtain ⟨e, ⟨he, hb⟩, hi⟩ := hi
    have hLe := hp e he hb
    rcases hi with rfl | hi
    · exact hLe
    · rw [List.getD_eq_getElem?_getD, List.getElem?_take] at hi
      split at hi
      · rename_i hlt
        cases hoe : ops[e.on]? with
        | none =>
          rw [List.getElem?_eq_none (by rw [closure_len]; exact List.getElem?_eq_none_iff.1 hoe)] at hi
          simp at hi
        | some oe =>
          refine ih e.on hlt oe hoe (hL e.on oe hoe hLe) i ?_
          rw [List.getD_eq_getElem?_getD]; exact hi
      · simp at hi
theorem fine1_spec {all : List Oper} {before : List Nat} {b : Oper} {cb : Ft} : ∀ (l : List Oper) (cl : List Ft) (k : Nat), fine1 all before b cb k l cl = true → ∀ i a ca, l[i]? = some a → cl[i]? = some ca → (k + i) ∈ before ∨ clash all a b ca cb = false
  | [], _, _, _, i, a, ca, h, _ => by simp at h
  | _ :: _, [], _, _, i, a, ca, _, h => by simp at h
  | x :: l, cx :: cl, k, hf, i, a, ca, h1, h2 => by
    simp only [fine1, Bool.and_eq_true, Bool.or_eq_true, Bool.not_eq_true', List.contains_iff_mem] at hf
    cases i with
    | zero => simp at h1 h2; subst h1 h2; simpa using hf.1
    | succ i =>
      have := fine1_spec l cl (k + 1) hf.2 i a ca (by simpa using h1) (by simpa using h2)
      rwa [show k + (i + 1) = k + 1 + i by omega]
theorem fineFrom_spec {all : List Oper} {cls : List Ft} : ∀ (l : List Oper) (cl : List Ft) (bs : List (List Nat)) (k : Nat), fineFrom all cls k l cl bs = true → ∀ j b cb bf, l[j]? = some b → cl[j]? = some cb → bs[j]? = some bf →
    fine1 all bf b cb 0 (all.take (k + j)) (cls.take (k + j)) = true ∧ ∀ e ∈ b.after.toList, Region.binds .any e = true → e.on < k + j
  | [], _, _, _, _, j, b, cb, bf, h, _, _ => by simp at h
  | _ :: _, [], _, _, _, j, b, cb, bf, _, h, _ => by simp at h
  | _ :: _, _ :: _, [], _, _, j, b, cb, bf, _, _, h => by simp at h
  | x :: l, cx :: cl, bx :: bs, k, hf, j, b, cb, bf, h1, h2, h3 => by
    simp only [fineFrom, Bool.and_eq_true] at hf
    cases j with
    | zero =>
      simp at h1 h2 h3; subst h1 h2 h3
      refine ⟨hf.1.1, fun e he hb => ?_⟩
      have := List.all_eq_true.1 hf.1.2 e he
      simpa [hb] using this
    | succ j =>
      have := fineFrom_spec l cl bs (k + 1) hf.2 j b cb bf (by simpa using h1) (by simpa using h2) (by simpa using h3)
      rwa [show k + (j + 1) = k + 1 + j by omega]
theorem fine_spec {ops : List Oper} {cls : List Ft} (h : fine ops cls = true) {j : Nat} {b : Oper} {cb : Ft} (hb : ops[j]? = some b) (hc : cls[j]? = some cb) :
    (∀ e ∈ b.after.toList, Region.binds .any e = true → e.on < j) ∧ ∀ i a ca, i < j → ops[i]? = some a → cls[i]? = some ca → i ∈ (closure ops).getD j [] ∨ clash ops a b ca cb = false := by
  have hbs := closure_spec ops hb
  obtain ⟨h1, h2⟩ := fineFrom_spec ops cls (closure ops) 0 h j b cb _ hb hc hbs
  rw [Nat.zero_add] at h1 h2
  refine ⟨h2, fun i a ca hi ha hca => ?_⟩
  have := fine1_spec _ _ 0 h1 i a ca (by rw [List.getElem?_take, if_pos hi]; exact ha) (by rw [List.getElem?_take, if_pos hi]; exact hca)
  rw [Nat.zero_add] at this
  rw [List.getD_eq_getElem?_getD, hbs]
  exact this
section
variable {E : En} {ops : Array Oper} {S : Nat → St} {cls : List Ft}
def Wr (ops : Array Oper) (j t : Nat) : Prop := ∃ o, ops.toList[j]? = some o ∧ o.dst = some t
def WrP (cls : List Ft) (j : Nat) (p : Pl) : Prop := ∃ c, cls[j]? = some c ∧ c.wrs p
structure Inv (ops : Array Oper) (S : Nat → St) (cls : List Ft) (In : Nat → Prop) (st : St) : Prop where
  len : st.fr.length = (S 0).fr.length
  slot : ∀ t, (∃ j, In j ∧ Wr ops j t ∧ (∀ j', In j' → Wr ops j' t → j' ≤ j) ∧ st.fr[t]? = (S (j + 1)).fr[t]?) ∨ ((∀ j, In j → ¬ Wr ops j t) ∧ st.fr[t]? = (S 0).fr[t]?)
  heap : ∀ p, (∃ j, In j ∧ WrP cls j p ∧ (∀ j', In j' → WrP cls j' p → j' ≤ j) ∧ pl st.hp p = pl (S (j + 1)).hp p) ∨ ((∀ j, In j → ¬ WrP cls j p) ∧ pl st.hp p = pl (S 0).hp p)
structure Trace (E : En) (ops : Array Oper) (S : Nat → St) (cls : List Ft) : Prop where
  len : cls.length = ops.toList.length
  step : ∀ i o, ops.toList[i]? = some o → ∃ c, cls[i]? = some c ∧ stepF E ops.toList o (S i) = some (S (i + 1), c)
  fine : fine ops.toList cls = true
theorem put_get {fr : List AV} {dst : Option Nat} {v : AV} {t : Nat} (h : dst ≠ some t) : (putA fr dst v)[t]? = fr[t]? := by
  cases dst with
  | none => rfl
  | some d =>
    simp only [putA, List.getElem?_set]
    rw [if_neg (by intro e; subst e; exact h rfl)]
theorem put_len {fr : List AV} {dst : Option Nat} {v : AV} : (putA fr dst v).length = fr.length := by
  cases dst <;> simp [putA]
theorem Trace.slot (hE : EnOK E) (T : Trace E ops S cls) {i : Nat} {o : Oper} (ho : ops.toList[i]? = some o) {t : Nat} (ht : o.dst ≠ some t) : (S (i + 1)).fr[t]? = (S i).fr[t]? := by
  obtain ⟨c, hc, hs⟩ := T.step i o ho
  obtain ⟨v, h1, _⟩ := stepF_spec hE hs
  rw [h1, put_get ht]
theorem Trace.flen (hE : EnOK E) (T : Trace E ops S cls) {i : Nat} (hi : i ≤ ops.toList.length) : (S i).fr.length = (S 0).fr.length := by
  induction i with
  | zero => rfl
  | succ i ih =>
    have hlt : i < ops.toList.length := by omega
    obtain ⟨c, hc, hs⟩ := T.step i _ (List.getElem?_eq_getElem hlt)
    obtain ⟨v, h1, _⟩ := stepF_spec hE hs
    rw [h1, put_len, ih (by omega)]
theorem Trace.slots (hE : EnOK E) (T : Trace E ops S cls) {t : Nat} : ∀ (d i : Nat), i + d ≤ ops.toList.length → (∀ j, i ≤ j → j < i + d → ¬ Wr ops j t) → (S (i + d)).fr[t]? = (S i).fr[t]?
  | 0, i, _, _ => rfl
  | d + 1, i, hn, hw => by
    have hlt : i + d < ops.toList.length := by omega
    have ho := List.getElem?_eq_getElem hlt
    rw [show i + (d + 1) = (i + d) + 1 by omega, Trace.slot hE T ho (fun e => hw (i + d) (by omega) (by omega) ⟨_, ho, e⟩)]
    exact Trace.slots hE T d i (by omega) (fun j h1 h2 => hw j h1 (by omega))
theorem Trace.heaps (hE : EnOK E) (T : Trace E ops S cls) {p : Pl} : ∀ (d i : Nat), i + d ≤ ops.toList.length → (∀ j, i ≤ j → j < i + d → ¬ WrP cls j p) → pl (S (i + d)).hp p = pl (S i).hp p
  | 0, i, _, _ => rfl
  | d + 1, i, hn, hw => by
    have hlt : i + d < ops.toList.length := by omega
    obtain ⟨c, hc, hs⟩ := T.step (i + d) _ (List.getElem?_eq_getElem hlt)
    rw [show i + (d + 1) = (i + d) + 1 by omega, stepF_keeps hE hs (fun e => hw (i + d) (by omega) (by omega) ⟨c, hc, e⟩)]
    exact Trace.heaps hE T d i (by omega) (fun j h1 h2 => hw j h1 (by omega))
theorem Trace.next (hE : EnOK E) (T : Trace E ops S cls) {In : Nat → Prop} (hIn : ∀ j, In j → j < ops.toList.length) (hcl : ∀ k o, ops.toList[k]? = some o → In k → ∀ e ∈ o.after.toList, Region.binds .any e = true → In e.on) {st : St} (h : Inv ops S cls In st)
    {i : Nat} {o : Oper} (ho : ops.toList[i]? = some o) (hi : ¬ In i) (hp : ∀ e ∈ o.after.toList, Region.binds .any e = true → In e.on) :
    ∃ st' c, stepF E ops.toList o st = some (st', c) ∧ Inv ops S cls (fun j => In j ∨ j = i) st' := by
  obtain ⟨c, hc, hs⟩ := T.step i o ho
  obtain ⟨v, hv, hrun⟩ := stepF_spec hE hs
  have hilt : i < ops.toList.length := length_of_get ho
  have cget : ∀ j, j < ops.toList.length → ∃ cj, cls[j]? = some cj := fun j hj => ⟨_, List.getElem?_eq_getElem (by rw [T.len]; exact hj)⟩
  -- what is ahead of i lies in the set
  have ahead := closure_in ops.toList In hcl i o ho hp
  have fi := (fine_spec T.fine ho hc).2
  -- an operation behind i that lies in the set has i ahead of it: there is none that clashes
  have behind : ∀ j b cj, i < j → In j → ops.toList[j]? = some b → cls[j]? = some cj → clash ops.toList o b c cj = false := by
    intro j b cj hj hInj hb hcj
    rcases (fine_spec T.fine hb hcj).2 i o c hj ho hc with hm | hm
    · exact absurd (closure_in ops.toList In hcl j b hb (hcl j b hb hInj) i hm) hi
    · exact hm
  have before : ∀ j b cj, j < i → ¬ In j → ops.toList[j]? = some b → cls[j]? = some cj → clash ops.toList b o cj c = false := by
    intro j b cj hj hInj hb hcj
    rcases fi j b cj hj hb hcj with hm | hm
    · exact absurd (ahead j hm) hInj
    · exact hm
  have noW : ∀ {t j}, (t ∈ opReads ops.toList o ∨ o.dst = some t) → Wr ops j t → In j → j < i := by
    intro t j ht hw hInj
    obtain ⟨b, hb, hd⟩ := hw
    rcases Nat.lt_trichotomy j i with h1 | h1 | h1
    · exact h1
    · subst h1; exact absurd hInj hi
    · obtain ⟨cj, hcj⟩ := cget j (length_of_get hb)
      have := behind j b cj h1 hInj hb hcj
      simp only [clash, hd, Bool.or_eq_false_iff] at this
      rcases ht with ht | ht
      · have h2 := this.1.1.2
        rw [List.contains_eq_mem] at h2
        simp [ht] at h2
      · have h2 := this.1.1.1
        simp [ht] at h2
  have allW : ∀ {t j}, t ∈ opReads ops.toList o → Wr ops j t → j < i → In j := by
    intro t j ht hw hj
    obtain ⟨b, hb, hd⟩ := hw
    by_cases hIn' : In j
    · exact hIn'
    · obtain ⟨cj, hcj⟩ := cget j (length_of_get hb)
      have := before j b cj hj hIn' hb hcj
      simp only [clash, hd, Bool.or_eq_false_iff] at this
      have h2 := this.1.1.1.1
      rw [List.contains_eq_mem] at h2
      simp [ht] at h2
  have slots : ∀ t ∈ opReads ops.toList o, st.fr[t]? = (S i).fr[t]? := by
    intro t ht
    rcases h.slot t with ⟨j, hj, hw, hlast, he⟩ | ⟨hno, he⟩
    · have hji := noW (.inl ht) hw hj
      rw [he]
      have := Trace.slots hE T (t := t) (i - (j + 1)) (j + 1) (by omega) (fun k h1 h2 hw' => by
        have := hlast k (allW ht hw' (by omega)) hw'
        omega)
      rw [show j + 1 + (i - (j + 1)) = i by omega] at this; exact this.symm
    · rw [he]
      have := Trace.slots hE T (t := t) i 0 (by omega) (fun k h1 h2 hw' => hno k (allW ht hw' (by omega)) hw')
      rw [Nat.zero_add] at this
      exact this.symm
  have noP : ∀ {p j}, (c.rds p ∨ c.wrs p) → WrP cls j p → In j → j < i := by
    intro p j ht hw hInj
    obtain ⟨cj, hcj, hwj⟩ := hw
    rcases Nat.lt_trichotomy j i with h1 | h1 | h1
    · exact h1
    · subst h1; exact absurd hInj hi
    · have hb := List.getElem?_eq_getElem (hIn j hInj)
      have := behind j _ cj h1 hInj hb hcj
      simp only [clash, Bool.or_eq_false_iff] at this
      exact absurd ⟨hwj, ht⟩ (meet1_spec this.2 p)
  have allP : ∀ {p j}, c.rds p → WrP cls j p → j < i → In j := by
    intro p j ht hw hj
    obtain ⟨cj, hcj, hwj⟩ := hw
    by_cases hIn' : In j
    · exact hIn'
    · have hb := List.getElem?_eq_getElem (show j < ops.toList.length by omega)
      have := before j _ cj hj hIn' hb hcj
      simp only [clash, Bool.or_eq_false_iff] at this
      exact absurd ⟨hwj, .inl ht⟩ (meet1_spec this.1.2 p)
  have heap : ∀ p, c.rds p → pl st.hp p = pl (S i).hp p := by
    intro p ht
    rcases h.heap p with ⟨j, hj, hw, hlast, he⟩ | ⟨hno, he⟩
    · have hji := noP (.inl ht) hw hj
      rw [he]
      have := Trace.heaps hE T (p := p) (i - (j + 1)) (j + 1) (by omega) (fun k h1 h2 hw' => by
        have := hlast k (allP ht hw' (by omega)) hw'
        omega)
      rw [show j + 1 + (i - (j + 1)) = i by omega] at this; exact this.symm
    · rw [he]
      have := Trace.heaps hE T (p := p) i 0 (by omega) (fun k h1 h2 hw' => hno k (allP ht hw' (by omega)) hw')
      rw [Nat.zero_add] at this
      exact this.symm
  obtain ⟨h2', hst, hpl⟩ := hrun st slots heap
  refine ⟨_, c, hst, ?_, ?_, ?_⟩
  · simp only [put_len]; exact h.len
  · intro t
    by_cases ht : o.dst = some t
    · left
      refine ⟨i, .inr rfl, ⟨o, ho, ht⟩, fun j' hj' hw' => ?_, ?_⟩
      · rcases hj' with hj' | rfl
        · exact Nat.le_of_lt (noW (.inr ht) hw' hj')
        · exact Nat.le_refl _
      · simp only [hv, ht, putA, List.getElem?_set]
        have l1 : (S i).fr.length = st.fr.length := by rw [h.len, Trace.flen hE T (by omega)]
        simp [l1]
    · simp only [put_get ht]
      rcases h.slot t with ⟨j, hj, hw, hlast, he⟩ | ⟨hno, he⟩
      · refine .inl ⟨j, .inl hj, hw, fun j' hj' hw' => ?_, he⟩
        rcases hj' with hj' | rfl
        · exact hlast j' hj' hw'
        · obtain ⟨b, hb, hd⟩ := hw'
          rw [ho] at hb; cases hb
          exact absurd hd ht
      · refine .inr ⟨fun j hj hw => ?_, he⟩
        rcases hj with hj | rfl
        · exact hno j hj hw
        · obtain ⟨b, hb, hd⟩ := hw
          rw [ho] at hb; cases hb
          exact ht hd
  · intro p
    by_cases ht : c.wrs p
    · left
      refine ⟨i, .inr rfl, ⟨c, hc, ht⟩, fun j' hj' hw' => ?_, (hpl p).1 ht⟩
      rcases hj' with hj' | rfl
      · exact Nat.le_of_lt (noP (.inr ht) hw' hj')
      · exact Nat.le_refl _
    · have e := (hpl p).2 ht
      rcases h.heap p with ⟨j, hj, hw, hlast, he⟩ | ⟨hno, he⟩
      · refine .inl ⟨j, .inl hj, hw, fun j' hj' hw' => ?_, e.trans he⟩
        rcases hj' with hj' | rfl
        · exact hlast j' hj' hw'
        · obtain ⟨b, hb, hd⟩ := hw'
          rw [hc] at hb; cases hb
          exact absurd hd ht
      · refine .inr ⟨fun j hj hw => ?_, e.trans he⟩
        rcases hj with hj | rfl
        · exact hno j hj hw
        · obtain ⟨b, hb, hd⟩ := hw
          rw [hc] at hb; cases hb
          exact ht hd
theorem Trace.all (hE : EnOK E) (T : Trace E ops S cls) {In : Nat → Prop} (hIn : ∀ j, j < ops.toList.length → In j) {st : St} (h : Inv ops S cls In st) : st = S ops.toList.length := by
  have e1 : st.fr = (S ops.toList.length).fr := by
    apply List.ext_getElem?
    intro t
    rcases h.slot t with ⟨j, hj, hw, hlast, he⟩ | ⟨hno, he⟩
    · obtain ⟨b, hb, hd⟩ := hw
      have hlt := length_of_get hb
      rw [he]
      have := Trace.slots hE T (t := t) (ops.toList.length - (j + 1)) (j + 1) (by omega) (fun k h1 h2 hw' => by
        have := hlast k (hIn k (by omega)) hw'
        omega)
      rw [show j + 1 + (ops.toList.length - (j + 1)) = ops.toList.length by omega] at this; exact this.symm
    · rw [he]
      have := Trace.slots hE T (t := t) ops.toList.length 0 (by omega) (fun k h1 h2 hw' => hno k (hIn k (by omega)) hw')
      rw [Nat.zero_add] at this
      exact this.symm
  have e2 : st.hp = (S ops.toList.length).hp := by
    apply pl_ext
    intro p
    rcases h.heap p with ⟨j, hj, hw, hlast, he⟩ | ⟨hno, he⟩
    · obtain ⟨b, hb, hd⟩ := hw
      have hlt := length_of_get hb
      rw [T.len] at hlt
      rw [he]
      have := Trace.heaps hE T (p := p) (ops.toList.length - (j + 1)) (j + 1) (by omega) (fun k h1 h2 hw' => by
        have := hlast k (hIn k (by omega)) hw'
        omega)
      rw [show j + 1 + (ops.toList.length - (j + 1)) = ops.toList.length by omega] at this; exact this.symm
    · rw [he]
      have := Trace.heaps hE T (p := p) ops.toList.length 0 (by omega) (fun k h1 h2 hw' => hno k (hIn k (by omega)) hw')
      rw [Nat.zero_add] at this
      exact this.symm
  cases st
  cases hS : S ops.toList.length
  rw [hS] at e1 e2
  simp_all
end
end
end Go.Cx

end
