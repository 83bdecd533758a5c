/- Regions that draw their order. -/
import Derived.Test.YtfhgmpeplfjmcaaCxT
namespace Go.Cx
open Go.RowKit (Below)
set_option linter.unusedSimpArgs false
mutual
theorem frzVA_last {β : Type} : ∀ (x : AV) {hp : List Ob} {r : β} {K : AV → List Ob → Option β}, frzVA none x hp K = some r → ∃ y hp', K y hp' = some r
  | .oslice id ver len, hp, r, K, h => by
    unfold frzVA giveUpA at h
    dsimp only at h
    split at h
    · obtain ⟨_, _, _, _, _, h⟩ := grownR_inv h; exact ⟨_, _, h⟩
    · obtain ⟨_, _, _, _, _, _, h⟩ := grown_inv h; exact ⟨_, _, h⟩
  | .agg cs, hp, r, K, h => by
    unfold frzVA at h
    obtain ⟨_, _, h⟩ := frzVL_last cs h
    exact ⟨_, _, h⟩
  | .tuple .., hp, r, K, h | .int .., hp, r, K, h | .bool .., hp, r, K, h | .str .., hp, r, K, h | .ptr .., hp, r, K, h | .nilptr, hp, r, K, h | .rptr .., hp, r, K, h | .nilsl, hp, r, K, h | .slice .., hp, r, K, h
  | .fslice .., hp, r, K, h | .optr .., hp, r, K, h | .func .., hp, r, K, h | .nilfunc, hp, r, K, h | .nilIface, hp, r, K, h | .junk, hp, r, K, h => ⟨_, hp, by simpa [frzVA] using h⟩
theorem frzVL_last {β : Type} : ∀ (l : List AV) {hp : List Ob} {r : β} {K : List AV → List Ob → Option β}, frzVL none l hp K = some r → ∃ y hp', K y hp' = some r
  | [], hp, r, K, h => ⟨[], hp, by simpa [frzVL] using h⟩
  | x :: l, hp, r, K, h => by
    unfold frzVL at h
    obtain ⟨_, _, h⟩ := frzVA_last x h
    obtain ⟨_, _, h⟩ := frzVL_last l h
    exact ⟨_, _, h⟩
end
theorem frzPs_last {β : Type} : ∀ (l : List (Nat × AV)) {hp : List Ob} {r : β} {K : List (Nat × AV) → List Ob → Option β}, frzPs none l hp K = some r → ∃ y hp', K y hp' = some r
  | [], hp, r, K, h => ⟨[], hp, by simpa [frzPs] using h⟩
  | (i, x) :: l, hp, r, K, h => by
    unfold frzPs at h
    obtain ⟨_, _, h⟩ := frzVA_last x h
    obtain ⟨_, _, h⟩ := frzPs_last l h
    exact ⟨_, _, h⟩
theorem buildSA_last {β : Type} {P : Program} {own : Bool} {t : TypeId} {len : Nat} {ps : List (Nat × AV)} {hp : List Ob} {K : AV → List Ob → Cls → Option β} {r : β} (h : buildSA none P own t len ps hp K = some r) : ∃ v hp' c, K v hp' c = some r := by
  unfold buildSA at h
  split at h
  · split at h
    · dsimp only at h
      split at h
      · split at h
        · split at h
          · split at h
            · obtain ⟨_, _, _, _, h⟩ := newGrow_cps h; exact ⟨_, _, _, h⟩
            · exact ⟨_, _, _, h⟩
          · simp at h
        · simp at h
      · simp at h
    · simp at h
  · simp at h
theorem opF_cls {E : En} (hE : EnOK E) {o : Oper} {fr : List AV} {hp hp' : List Ob} {v : AV} {c : Cls} (hop : opF E o fr hp = some (v, hp', c)) : ClsOK (opF E o fr) hp v hp' c := by
  have pure : ∀ {X : Option AV}, (opF E o fr hp = X.bind fun v => some (v, hp, Cls.pure)) → (∀ h2, opF E o fr h2 = X.bind fun v => some (v, h2, Cls.pure)) → ClsOK (opF E o fr) hp v hp' c := by
    intro X h1 h2
    rw [hop] at h1
    obtain ⟨rfl, rfl, rfl⟩ := val_of h1.symm
    exact ⟨fun _ => rfl, fun _ h3 => by rw [h2]; rfl⟩
  have wr : c = .write → ClsOK (opF E o fr) hp v hp' c := fun e => ⟨fun h => by rw [e] at h; simp [Cls.isWrite] at h, fun h => by rw [e] at h; simp at h⟩
  unfold opF opA at hop
  dsimp only at hop
  split at hop
  · rename_i x he
    split at hop
    · rename_i hf
      unfold giveUpA at hop
      split at hop
      · split at hop
        · obtain ⟨_, _, _, _, _, hk⟩ := grownR_inv hop
          simp only [Option.some.injEq, Prod.mk.injEq] at hk; obtain ⟨rfl, rfl, rfl⟩ := hk
          exact ⟨fun _ => rfl, fun e => by simp at e⟩
        obtain ⟨_, _, _, _, _, _, hk⟩ := grown_inv hop
        simp only [Option.some.injEq, Prod.mk.injEq] at hk; exact wr hk.2.2.symm
      · rename_i hn
        refine pure (X := some (evalA fr x)) ?_ (fun h2 => ?_) <;> (unfold opF opA giveUpA; simp only [he, hf, if_true]; rfl)
    · rename_i hf
      refine pure (X := some (evalA fr x)) ?_ (fun h2 => ?_) <;> (unfold opF opA; simp only [he, hf]; rfl)
  · rename_i x he
    split at hop
    · rename_i hf
      unfold giveUpA at hop
      split at hop
      · split at hop
        · obtain ⟨_, _, _, _, _, hk⟩ := grownR_inv hop
          simp only [Option.some.injEq, Prod.mk.injEq] at hk; obtain ⟨rfl, rfl, rfl⟩ := hk
          exact ⟨fun _ => rfl, fun e => by simp at e⟩
        obtain ⟨_, _, _, _, _, _, hk⟩ := grown_inv hop
        simp only [Option.some.injEq, Prod.mk.injEq] at hk; exact wr hk.2.2.symm
      · rename_i hn
        refine pure (X := some (evalA fr x)) ?_ (fun h2 => ?_) <;> (unfold opF opA giveUpA; simp only [he, hf, if_true]; rfl)
    · rename_i hf
      refine pure (X := some (evalA fr x)) ?_ (fun h2 => ?_) <;> (unfold opF opA; simp only [he, hf]; rfl)
  · rename_i x y z he
    split at hop
    · rename_i t ht
      refine pure (X := some (cond t (evalA fr y) (evalA fr z))) ?_ (fun h2 => ?_) <;> (unfold opF opA; simp only [he, ht]; cases t <;> rfl)
    · simp at hop
  · split at hop
    · split at hop
      · simp only [newFix, Option.some.injEq, Prod.mk.injEq] at hop; exact wr hop.2.2.symm
      · simp at hop
    · simp at hop
  · split at hop
    · simp only [newFix, Option.some.injEq, Prod.mk.injEq] at hop; exact wr hop.2.2.symm
    · simp at hop
  · rename_i t parts he
    have hop0 := hop
    split at hop
    · rename_i z hz
      split at hop
      · rename_i l ht
        split at hop
        · rename_i hT
          split at hop
          · rename_i cs hf
            refine pure (X := some (.agg cs)) ?_ (fun h2 => ?_) <;> (unfold opF opA; simp only [he, hz, ht, hT, hf, if_true]; rfl)
          · simp at hop
        · simp at hop
      · rename_i n e ht
        split at hop
        · rename_i hT
          split at hop
          · rename_i cs hf
            refine pure (X := some (.agg cs)) ?_ (fun h2 => ?_) <;> (unfold opF opA; simp only [he, hz, ht, hT, hf, if_true]; rfl)
          · simp at hop
        · simp at hop
      · simp at hop
    · simp at hop
  · rename_i t len parts he
    split at hop
    · obtain ⟨ps1, hp1, hop⟩ := frzPs_last _ hop
      obtain ⟨_, _, _, hop⟩ := buildSA_last hop
      simp only [Option.some.injEq, Prod.mk.injEq] at hop; exact wr hop.2.2.symm
    rename_i hown
    unfold buildSA at hop
    split at hop
    · rename_i e ht
      split at hop
      · rename_i zs hz
        dsimp only at hop
        split at hop
        · rename_i cs hf
          split at hop
          · rename_i xs hx
            split at hop
            · rename_i hc
              split at hop
              · exact newGrow_cls hop
              · rename_i ho
                refine pure (X := some (.fslice (sizeA E.P e) (shA E.P 8 e) xs [])) ?_ (fun h2 => ?_) <;> (unfold opF opA; simp only [he]; rw [if_neg hown]; unfold buildSA; simp only [ht, hz, hf, hx, if_pos hc, if_neg ho]; rfl)
            · simp at hop
          · simp at hop
        · simp at hop
      · simp at hop
    · simp at hop
  · -- load
    rename_i t x he
    have h2 := loadA_hom (fun r : Option (AV × Cls) => r.bind fun (p : AV × Cls) => some (p.1, hp, p.2)) none (P := E.P) t (evalA fr x) hp (fun v c => some (v, c))
    simp only [Option.bind_none, Option.bind_some] at h2
    rw [← h2] at hop
    cases hl : loadA none E.P t (evalA fr x) hp (fun v c => some (v, c)) with
    | none => rw [hl] at hop; simp at hop
    | some p =>
      rw [hl] at hop
      simp only [Option.bind_some, Option.some.injEq, Prod.mk.injEq] at hop
      obtain ⟨rfl, rfl, rfl⟩ := hop
      obtain ⟨k1, k2⟩ := loadA_cls hl
      refine ⟨fun _ => rfl, fun e h3 => ?_⟩
      have h4 := loadA_hom (fun r : Option (AV × Cls) => r.bind fun (p : AV × Cls) => some (p.1, h3, p.2)) none (P := E.P) t (evalA fr x) h3 (fun v c => some (v, c))
      simp only [Option.bind_none, Option.bind_some] at h4
      unfold opF opA
      simp only [he]
      rw [← h4, k2 e h3]; rfl
  · rename_i t x y he
    have h2 := storeA_hom (fun r : Option (List Ob) => r.bind fun p => some (AV.junk, p, Cls.write)) none (P := E.P) t (evalA fr x) (evalA fr y) hp some
    simp only [Option.bind_none, Option.bind_some] at h2
    rw [← h2] at hop
    cases hl : storeA none E.P t (evalA fr x) (evalA fr y) hp some with
    | none => rw [hl] at hop; simp at hop
    | some p =>
      rw [hl] at hop
      simp only [Option.bind_some, Option.some.injEq, Prod.mk.injEq] at hop
      exact wr hop.2.2.symm
  · rename_i x he
    have h2 := fun (hp : List Ob) => nilCheckA_hom (fun r : Option AV => r.bind fun v => some (v, hp, Cls.pure)) none (evalA fr x) some
    simp only [Option.bind_none, Option.bind_some] at h2
    refine pure (X := nilCheckA none (evalA fr x) some) ?_ (fun h3 => ?_) <;> (unfold opF opA; simp only [he, h2])
  · rename_i op t x y ty he
    have h2 := fun (hp : List Ob) => binA_hom (fun r : Option AV => r.bind fun v => some (v, hp, Cls.pure)) none (P := E.P) op t (evalA fr x) (evalA fr y) some
    simp only [Option.bind_none, Option.bind_some] at h2
    refine pure (X := binA none E.P op t (evalA fr x) (evalA fr y) some) ?_ (fun h3 => ?_) <;> (unfold opF opA; simp only [he, h2])
  · rename_i op t x he
    have h2 := fun (hp : List Ob) => unA_hom (fun r : Option AV => r.bind fun v => some (v, hp, Cls.pure)) none op (evalA fr x) some
    simp only [Option.bind_none, Option.bind_some] at h2
    refine pure (X := unA none op (evalA fr x) some) ?_ (fun h3 => ?_) <;> (unfold opF opA; simp only [he, h2])
  · rename_i s d x he
    have k := convA_cls hop
    refine ⟨k.same, fun e h3 => ?_⟩
    have := k.pure e h3
    unfold opF opA; simp only [he]; exact this
  · rename_i f first captured he
    refine pure (X := some (.func f (first.toList.map (evalA fr)) (captured.toList.map (evalA fr)))) ?_ (fun h2 => ?_) <;> (unfold opF opA; simp only [he]; rfl)
  · split at hop
    · split at hop
      · split at hop
        · split at hop
          · replace hop := (ask_some2 hop).2.2
            exact newGrow_cls hop
          · simp at hop
        · simp at hop
      · simp at hop
    · simp at hop
  · -- slice
    rename_i t x lo hi he
    have run : ∀ {s : AV} {esz : Nat}, (optInt none (lo.map (evalA fr)) fun l => optInt none (hi.map (evalA fr)) fun hh => cutA none (ownOf E o) esz s l hh hp fun v h c => some (v, h, c)) = some (v, hp', c) →
        (∀ h2, opF E o fr h2 = (optInt none (lo.map (evalA fr)) fun l => optInt none (hi.map (evalA fr)) fun hh => cutA none (ownOf E o) esz s l hh h2 fun v h c => some (v, h, c))) → ClsOK (opF E o fr) hp v hp' c := by
      intro s esz h1 h2
      have two : ∀ {β : Type} {y : Option AV} {K : Option Int → Option β} {r : β}, optInt none y K = some r → ∃ i, K i = some r ∧ ∀ {γ : Type} (K' : Option Int → Option γ), optInt none y K' = K' i := by
        intro β y K r h
        unfold optInt at h ⊢
        split at h
        · exact ⟨_, h, fun _ => rfl⟩
        · exact ⟨_, h, fun _ => rfl⟩
        · simp at h
      obtain ⟨i1, h3, e1⟩ := two h1
      obtain ⟨i2, h4, e2⟩ := two h3
      have k := cutA_cls h4
      refine ⟨k.same, fun e h5 => ?_⟩
      rw [h2, e1, e2]
      exact k.pure e h5
    split at hop
    · rename_i s ht hs
      exact run hop (fun h2 => by unfold opF opA; simp only [he, ht, hs])
    · simp at hop
    · simp at hop
    · rename_i y e ht hne
      split at hop
      · simp at hop
      · rename_i hsz
        refine run hop (fun h2 => ?_)
        unfold opF opA
        simp only [he, ht]
        rw [if_neg hsz]
    · simp at hop
  · rename_i t x f he
    have h2 := fun (hp : List Ob) => fieldAddrA_hom (fun r : Option AV => r.bind fun v => some (v, hp, Cls.pure)) none (P := E.P) t (evalA fr x) f some
    simp only [Option.bind_none, Option.bind_some] at h2
    refine pure (X := fieldAddrA none E.P t (evalA fr x) f some) ?_ (fun h3 => ?_) <;> (unfold opF opA; simp only [he, h2])
  · rename_i t x f he
    have h2 := fun (hp : List Ob) => fieldA_hom (fun r : Option AV => r.bind fun v => some (v, hp, Cls.pure)) none (P := E.P) t (evalA fr x) f some
    simp only [Option.bind_none, Option.bind_some] at h2
    refine pure (X := fieldA none E.P t (evalA fr x) f some) ?_ (fun h3 => ?_) <;> (unfold opF opA; simp only [he, h2])
  · rename_i t x i he
    have h2 := fun (hp : List Ob) => indexAddrA_hom (fun r : Option AV => r.bind fun v => some (v, hp, Cls.pure)) none (P := E.P) t (evalA fr x) (evalA fr i) some
    simp only [Option.bind_none, Option.bind_some] at h2
    refine pure (X := indexAddrA none E.P t (evalA fr x) (evalA fr i) some) ?_ (fun h3 => ?_) <;> (unfold opF opA; simp only [he, h2])
  · rename_i t x i he
    have h2 := fun (hp : List Ob) => indexA_hom (fun r : Option AV => r.bind fun v => some (v, hp, Cls.pure)) none (P := E.P) t (evalA fr x) (evalA fr i) some
    simp only [Option.bind_none, Option.bind_some] at h2
    refine pure (X := indexA none E.P t (evalA fr x) (evalA fr i) some) ?_ (fun h3 => ?_) <;> (unfold opF opA; simp only [he, h2])
  · rename_i x i he
    split at hop
    · rename_i vs hx
      split at hop
      · rename_i u hu
        refine pure (X := some u) ?_ (fun h2 => ?_) <;> (unfold opF opA; simp only [he, hx, hu]; rfl)
      · simp at hop
    · simp at hop
  · rename_i cl he
    split at hop
    · rename_i b hb
      have hbase : ∀ h2, opF E o fr h2 = builtinA none E.P b cl.argTypes.toList (cl.args.toList.map (evalA fr)) h2 fun v h c => some (v, h, c) := fun h2 => by unfold opF opA; simp only [he, hb]
      unfold builtinA at hop hbase
      split at hop
      · rename_i t ts x xs hts hxs
        have h2 := fun (hp : List Ob) => lenA_hom (fun r : Option AV => r.bind fun v => some (v, hp, Cls.pure)) none (P := E.P) t x some
        simp only [Option.bind_none, Option.bind_some] at h2
        rw [hts, hxs] at hbase
        simp only at hbase
        refine pure (X := lenA none E.P t x some) ?_ (fun h3 => ?_) <;> rw [hbase, h2]
      · rename_i t ts x xs hts hxs
        have h2 := fun (hp : List Ob) => capA_hom (fun r : Option AV => r.bind fun v => some (v, hp, Cls.pure)) none (P := E.P) t x some
        simp only [Option.bind_none, Option.bind_some] at h2
        rw [hts, hxs] at hbase
        simp only at hbase
        refine pure (X := capA none E.P t x some) ?_ (fun h3 => ?_) <;> rw [hbase, h2]
      · rename_i t tx s x hts hxs
        rw [hts, hxs] at hbase
        simp only at hbase
        have k := appendA_cls hop
        exact ⟨k.same, fun e h3 => by rw [hbase]; exact k.pure e h3⟩
      · rename_i x l hxs
        split at hop
        · rename_i u hu
          rw [hxs] at hbase
          simp only [hu] at hbase
          refine pure (X := some u) ?_ (fun h3 => ?_) <;> rw [hbase] <;> rfl
        · simp at hop
      · rename_i x l hxs
        split at hop
        · rename_i u hu
          rw [hxs] at hbase
          simp only [hu] at hbase
          refine pure (X := some u) ?_ (fun h3 => ?_) <;> rw [hbase] <;> rfl
        · simp at hop
      · simp at hop
    · rename_i f hf
      split at hop
      · rename_i fid pre post hfv
        have hbase : ∀ h2, opF E o fr h2 = callFn none E fid (pre ++ cl.args.toList.map (evalA fr) ++ post) h2 fun v h c => some (v, h, c) := fun h2 => by unfold opF opA; simp only [he, hf, hfv]
        unfold callFn at hop hbase
        split at hop
        · rename_i sp hsp
          rw [hsp] at hbase
          simp only at hbase
          rw [Tr.fold_val] at hop
          split at hop
          · rename_i u hs
            obtain ⟨u, hp2, c2⟩ := u
            simp only [Option.some.injEq, Prod.mk.injEq] at hop; obtain ⟨rfl, rfl, rfl⟩ := hop
            have hS := hE fid sp hsp
            refine ⟨fun hne => ?_, fun e h3 => ?_⟩
            · cases c2 with
              | pure => exact (hS.pure _ _ _ _ hs).1
              | read => exact hS.read _ _ _ _ hs
              | write => simp [Cls.isWrite] at hne
              | heap => simp [Cls.isWrite] at hne
            · subst e
              rw [hbase, Tr.fold_val, (hS.pure _ _ _ _ hs).2 h3]
          · simp at hop
        · simp at hop
      · simp at hop
    · simp at hop
  · simp at hop
end Go.Cx
