/- What the printed functions come to, plainly. -/
import Derived.Test.YtajknlhbfhemlaaDoorYiG3
import Derived.Test.YtajknlhbfhemlaaDoorCxAm
namespace Go.Proofs.YtajknlhbfhemlaaDoor
open Go.Cx Go.Cx.AV
set_option linter.unusedSimpArgs false
set_option linter.unusedVariables false
theorem Grow_eq (n : Int) (h0 : 0 ≤ n) (h : n < 35184372088832) : g_slices_Grow_byte_byte n = some [] := by
  unfold g_slices_Grow_byte_byte
  have w : IntKind.i64.wrap (n - 0) = n := by rw [Int.sub_zero]; exact i64_wrap (by omega) (by omega)
  have hn0 : ¬ (n < 0) := by omega
  have hT : (T_slices_Grow_byte_byte n).val = some (.inl (.inl ())) := by simp only [T_slices_Grow_byte_byte, Tr.val_c, Tr.val_r, hn0]; rfl
  rw [run_inl hT]
  rw [run_inl (s := .inr ())]
  · exact run_inr rfl
  · simp only [M_slices_Grow_byte_byte, Tr.val_c, Tr.val_r, w, List.length_replicate]
    by_cases hn : n > 0
    · have : n.toNat * 2 < 70368744177664 := by omega
      simp [hn, this]
    · simp [hn]
theorem Concat_eq (a b : List AV) (h : a.length + b.length < 17592186044416) : g_slices_Concat_byte_byte [.slice 1 (.int .u8) a .ro, .slice 1 (.int .u8) b .ro] = some (a ++ b) := by
  have e0 : getXs (List.getD [AV.slice 1 (.int .u8) a .ro, .slice 1 (.int .u8) b .ro] (Int.toNat 0) (.slice 1 (.int .u8) [] .ro)) = a := rfl
  have e1 : getXs (List.getD [AV.slice 1 (.int .u8) a .ro, .slice 1 (.int .u8) b .ro] (Int.toNat 1) (.slice 1 (.int .u8) [] .ro)) = b := rfl
  have w0 : IntKind.i64.wrap (0 + (a.length : Int)) = a.length := by rw [Int.zero_add]; exact i64_wrap (by omega) (by omega)
  have w1 : IntKind.i64.wrap ((a.length : Int) + b.length) = ((a.length + b.length : Nat) : Int) := by rw [i64_wrap (by omega) (by omega)]; omega
  have w2 : IntKind.i64.wrap (0 + 1) = 1 := rfl
  have w3 : IntKind.i64.wrap (1 + 1) = 2 := rfl
  have n0 : ¬ ((a.length : Int) < 0) := by omega
  have n1 : ¬ (((a.length + b.length : Nat) : Int) < 0) := by omega
  have l0 : a.length * 2 < 70368744177664 := by omega
  have l1 : (a.length + b.length) * 2 < 70368744177664 := by omega
  have gr := Grow_eq (((a.length + b.length : Nat) : Int)) (by omega) (by omega)
  unfold g_slices_Concat_byte_byte
  rw [run_inl (s := .inl (0, 0)) rfl]
  rw [run_inl (s := .inl ((a.length : Int), 1)) (by simp only [M_slices_Concat_byte_byte, Tr.val_c, Tr.val_r, e0, w0, w2, n0]; rfl)]
  rw [run_inl (s := .inl (((a.length + b.length : Nat) : Int), 2)) (by simp only [M_slices_Concat_byte_byte, Tr.val_c, Tr.val_r, e1, w1, w3, n1]; rfl)]
  rw [run_inl (s := .inr ([], 0)) (by simp only [M_slices_Concat_byte_byte, Tr.val_c, Tr.val_r, gr, opt_some]; rfl)]
  rw [run_inl (s := .inr (a, 1)) (by simp only [M_slices_Concat_byte_byte, Tr.val_c, Tr.val_r, e0, w2, List.nil_append, l0, decide_true, beq_self_eq_true]; rfl)]
  rw [run_inl (s := .inr (a ++ b, 2)) (by simp only [M_slices_Concat_byte_byte, Tr.val_c, Tr.val_r, e1, w3, List.length_append, l1, decide_true, beq_self_eq_true]; rfl)]
  exact run_inr (by simp only [M_slices_Concat_byte_byte, Tr.val_c, Tr.val_r, beq_self_eq_true]; rfl)
theorem Plain_self (A : List AV) (hA : A.length < 8796093022208) : g_comptoirhelp_Plain_byte A A = some true := by
  have h : g_comptoirhelp_Same_byte_00fPlainbyte1_ A A = some true := by
    unfold g_comptoirhelp_Same_byte_00fPlainbyte1_
    rw [run_inl (s := (0 : Int)) (by simp only [T_comptoirhelp_Same_byte_00fPlainbyte1_, Tr.val_c, Tr.val_r, bne_self_eq_false, cond_false])]
    exact run_until (f := fun i => (i : Int)) (n := A.length) (fun i hi => by
      have q1 : (i : Int) < A.length := by omega
      have q2 : (0 : Int) ≤ i := by omega
      have w : IntKind.i64.wrap ((i : Int) + 1) = ((i + 1 : Nat) : Int) := by rw [i64_wrap (by omega) (by omega)]; omega
      simp only [M_comptoirhelp_Same_byte_00fPlainbyte1_, Tr.val_c, Tr.val_r, q1, q2, w, decide_true, cond_true, beq_self_eq_true, Bool.not_true, cond_false]) (by
      have q1 : ¬ ((A.length : Int) < A.length) := by omega
      simp only [M_comptoirhelp_Same_byte_00fPlainbyte1_, Tr.val_c, Tr.val_r, q1, decide_false, cond_false])
  unfold g_comptoirhelp_Plain_byte
  simp only [T_comptoirhelp_Plain_byte, Tr.val_c, Tr.val_r, val_opt, h, Option.bind_some]
theorem Kept_self (A : List AV) (x : Int) (hA : A.length < 8796093022208) : g_comptoirhelp_Kept_byte A [.int .u8 x, .int .u8 x, .int .u8 x] A x = some true := by
  have w : IntKind.i64.wrap ((A.length : Int) + 3) = ((A.length + 3 : Nat) : Int) := by rw [i64_wrap (by omega) (by omega)]; omega
  have l3 : (A ++ [AV.int .u8 x, .int .u8 x, .int .u8 x]).length = A.length + 3 := by simp
  have q1 : ¬ (((A.length + 3 : Nat) : Int) < ((A.length + 3 : Nat) : Int)) := by omega
  have q2 : (0 : Int) ≤ ((A.length + 3 : Nat) : Int) := by omega
  have q3 : ((A.length + 3 : Nat) : Int) ≤ ((A.length + 3 : Nat) : Int) := by omega
  have lx : [AV.int .u8 x, .int .u8 x, .int .u8 x].length = 3 := rfl
  have ht : List.take (A.length + 3) (A ++ [AV.int .u8 x, .int .u8 x, .int .u8 x]) = A ++ [AV.int .u8 x, .int .u8 x, .int .u8 x] := List.take_of_length_le (by rw [l3]; omega)
  have hd : List.drop (A.length + 3) (A ++ [AV.int .u8 x, .int .u8 x, .int .u8 x]) = [] := List.drop_of_length_le (by rw [l3]; omega)
  unfold g_comptoirhelp_Kept_byte
  rw [run_inl (s := (A ++ [AV.int .u8 x, .int .u8 x, .int .u8 x], [], (A.length : Int)))]
  · have step : ∀ j : Nat, j < 3 → (M_comptoirhelp_Kept_byte A [.int .u8 x, .int .u8 x, .int .u8 x] A x (A ++ [AV.int .u8 x, .int .u8 x, .int .u8 x], [], ((A.length + j : Nat) : Int))).val = some (.inl (A ++ [AV.int .u8 x, .int .u8 x, .int .u8 x], [], ((A.length + (j + 1) : Nat) : Int))) := by
      intro j hj
      have p1 : ((A.length + j : Nat) : Int) < ((A.length + 3 : Nat) : Int) := by omega
      have p2 : (0 : Int) ≤ ((A.length + j : Nat) : Int) := by omega
      have w1 : IntKind.i64.wrap (((A.length + j : Nat) : Int) + 1) = ((A.length + (j + 1) : Nat) : Int) := by rw [i64_wrap (by omega) (by omega)]; omega
      have hg : getI ((A ++ [AV.int .u8 x, .int .u8 x, .int .u8 x]).getD (A.length + j) (.int .u8 0)) = x := by
        rw [List.getD_eq_getElem?_getD, List.getElem?_append_right (by omega), Nat.add_sub_cancel_left]
        rcases (show j = 0 ∨ j = 1 ∨ j = 2 by omega) with rfl | rfl | rfl <;> rfl
      simp only [M_comptoirhelp_Kept_byte, Tr.val_c, Tr.val_r, l3, p1, p2, w1, Int.toNat_natCast, hg, decide_true, cond_true, bne_self_eq_false, cond_false]
    have e : (A.length : Int) = ((A.length + 0 : Nat) : Int) := rfl
    rw [e, run_inl (step 0 (by omega)), run_inl (step 1 (by omega)), run_inl (step 2 (by omega))]
    exact run_inr (by
      have p1 : ¬ (((A.length + (2 + 1) : Nat) : Int) < ((A.length + 3 : Nat) : Int)) := by omega
      simp only [M_comptoirhelp_Kept_byte, Tr.val_c, Tr.val_r, l3, p1, decide_false, cond_false])
  · simp only [T_comptoirhelp_Kept_byte, Tr.val_c, Tr.val_r, val_opt, Plain_self A hA, Option.bind_some, Bool.not_true, cond_false, w, lx, l3, q1, q2, q3, decide_true, decide_false, cond_true, Int.toNat_natCast, List.drop_zero, ht, hd]
theorem take_eq (n : Int) (b : List AV) (k : Nat) (hk : k ≤ b.length) (hb : b.length < 8796093022208) :
    g_cursor_Cursor_take_p0500 n b k = some (if n < 0 then ([], 1, b, (k : Int)) else if n > b.length - k then ([], 3, b, (k : Int)) else ((b.drop k).take n.toNat, 0, b, (k : Int) + n)) := by
  unfold g_cursor_Cursor_take_p0500
  have w0 : IntKind.i64.wrap ((b.length : Int) - k) = b.length - k := i64_wrap (by omega) (by omega)
  by_cases h1 : n < 0
  · simp only [T_cursor_Cursor_take_p0500, Tr.val_c, Tr.val_r, h1, decide_true, cond_true, if_true]
  · by_cases h2 : n > (b.length : Int) - k
    · simp only [T_cursor_Cursor_take_p0500, Tr.val_c, Tr.val_r, h1, h2, w0, decide_true, decide_false, cond_true, cond_false, if_true, if_false]
    · have w1 : IntKind.i64.wrap ((k : Int) + n) = k + n := i64_wrap (by omega) (by omega)
      have w2 : IntKind.i64.wrap ((k : Int) + n - n) = k := by rw [i64_wrap (by omega) (by omega)]; omega
      have q1 : (0 : Int) ≤ k + n := by omega
      have q2 : (k : Int) + n ≤ b.length := by omega
      have q3 : (0 : Int) ≤ k := by omega
      have q4 : (k : Int) ≤ k + n := by omega
      have hd : ((b.take ((k : Int) + n).toNat).drop (k : Int).toNat) = (b.drop k).take n.toNat := by
        rw [List.drop_take]; congr 1; omega
      simp only [T_cursor_Cursor_take_p0500, Tr.val_c, Tr.val_r, h1, h2, w0, w1, w2, q1, q2, q3, q4, hd, decide_true, decide_false, cond_true, cond_false, if_false]
theorem read_eq (n : Int) (b : List AV) (k : Int) : g_cursor_read_ftake_0p500 n b k = g_cursor_Cursor_take_p0500 n b k := by
  conv => lhs; unfold g_cursor_read_ftake_0p500
  simp only [T_cursor_read_ftake_0p500, Tr.val_c, Tr.val_r, val_opt]
  cases g_cursor_Cursor_take_p0500 n b k <;> rfl
theorem New_eq (b : List AV) (hb : b.length < 8796093022208) : g_cursor_New b = some (b, 0) := by
  have : b.length * 2 < 70368744177664 := by omega
  unfold g_cursor_New
  simp only [T_cursor_New, Tr.val_c, Tr.val_r, this, decide_true, cond_true]
theorem Take_eq (n : Int) (b : List AV) (k : Nat) (hk : k ≤ b.length) (hb : b.length < 8796093022208) :
    g_cursor_Cursor_Take_p0500 n b k = some (if n < 0 then (1, b, (k : Int), []) else if n > b.length - k then (3, b, (k : Int), []) else (0, b, (k : Int) + n, (b.drop k).take n.toNat)) := by
  have h := take_eq n b k hk hb
  have hl : ∀ m : Nat, ((b.drop k).take m).length * 2 < 70368744177664 := by
    intro m; simp only [List.length_take, List.length_drop]; omega
  have hz : ([] : List AV).length * 2 < 70368744177664 := by decide
  unfold g_cursor_Cursor_Take_p0500
  simp only [T_cursor_Cursor_Take_p0500, Tr.val_c, Tr.val_r, val_opt, read_eq, h, Option.bind_some]
  by_cases h1 : n < 0
  · simp only [h1, if_true, hz, decide_true, cond_true, beq_self_eq_true]
  · by_cases h2 : n > (b.length : Int) - k
    · simp only [h1, h2, if_true, if_false, hz, decide_true, cond_true, beq_self_eq_true]
    · simp only [h1, h2, if_false, hl, decide_true, cond_true, beq_self_eq_true]
theorem CText_eq (n : Int) (b : List AV) (k : Nat) (hk : k ≤ b.length) (hb : b.length < 8796093022208) :
    g_cursor_Cursor_Text_p0500 n b k = some (if n < 0 then ([], 1, b, (k : Int)) else if n > b.length - k then ([], 3, b, (k : Int)) else (bytesOf ((b.drop k).take n.toNat), 0, b, (k : Int) + n)) := by
  have h := Take_eq n b k hk hb
  unfold g_cursor_Cursor_Text_p0500
  simp only [T_cursor_Cursor_Text_p0500, g_cursor_read_fTake_0p500, T_cursor_read_fTake_0p500, Tr.val_c, Tr.val_r, val_opt, h, Option.bind_some, beq_self_eq_true, cond_true]
  by_cases h1 : n < 0
  · simp only [h1, if_true]; rfl
  · by_cases h2 : n > (b.length : Int) - k
    · simp only [h1, h2, if_true, if_false]; rfl
    · simp only [h1, h2, if_false]
def hasB (b : List UInt8) (n : Nat) : Bool := (b.getD ((n - 1) / 8) 0).toNat.testBit (7 - (n - 1) % 8)
def orB (c : UInt8) (k : Nat) : UInt8 := UInt8.ofNat (c.toNat ||| 2 ^ k)
def setB (b : List UInt8) (n : Nat) : List UInt8 := b.set ((n - 1) / 8) (orB (b.getD ((n - 1) / 8) 0) (7 - (n - 1) % 8))
theorem orB_toNat (c : UInt8) {k : Nat} (hk : k < 8) : (orB c k).toNat = c.toNat ||| 2 ^ k := by
  have p : 2 ^ k < 2 ^ 8 := Nat.pow_lt_pow_right (by omega) hk
  have := Nat.or_lt_two_pow (show c.toNat < 2 ^ 8 from c.toNat_lt) p
  rw [orB, UInt8.toNat_ofNat']
  exact Nat.mod_eq_of_lt this
theorem setB_length (b : List UInt8) (n : Nat) : (setB b n).length = b.length := by simp [setB]
theorem hasB_setB (b : List UInt8) (n m : Nat) (hn : 1 ≤ n) (hm : 1 ≤ m) (hb : (n - 1) / 8 < b.length) : hasB (setB b n) m = (hasB b m || decide (n = m)) := by
  unfold hasB setB
  by_cases h : (m - 1) / 8 = (n - 1) / 8
  · have e : (b.set ((n - 1) / 8) (orB (b.getD ((n - 1) / 8) 0) (7 - (n - 1) % 8))).getD ((m - 1) / 8) 0 = orB (b.getD ((n - 1) / 8) 0) (7 - (n - 1) % 8) := by
      rw [h, List.getD_eq_getElem?_getD, List.getElem?_set_self hb]; rfl
    rw [e, orB_toNat _ (by omega), Nat.testBit_or, h, Nat.testBit_two_pow]
    congr 1
    rw [decide_eq_decide]
    omega
  · have e : (b.set ((n - 1) / 8) (orB (b.getD ((n - 1) / 8) 0) (7 - (n - 1) % 8))).getD ((m - 1) / 8) 0 = b.getD ((m - 1) / 8) 0 := by
      rw [List.getD_eq_getElem?_getD, List.getElem?_set_ne (by omega), List.getD_eq_getElem?_getD]
    rw [e]
    have : decide (n = m) = false := decide_eq_false (by intro e; subst e; exact h rfl)
    rw [this, Bool.or_false]
theorem hasB_append (b t : List UInt8) (m : Nat) (h : (m - 1) / 8 < b.length) : hasB (b ++ t) m = hasB b m := by
  unfold hasB
  rw [List.getD_eq_getElem?_getD, List.getElem?_append_left h, List.getD_eq_getElem?_getD]
theorem hasB_take (b : List UInt8) (k m : Nat) (h : (m - 1) / 8 < k) : hasB (b.take k) m = hasB b m := by
  unfold hasB
  rw [List.getD_eq_getElem?_getD, List.getElem?_take_of_lt h, List.getD_eq_getElem?_getD]
theorem hasB_zeros (k m : Nat) : hasB (List.replicate k 0) m = false := by
  unfold hasB
  have : (List.replicate k (0 : UInt8)).getD ((m - 1) / 8) 0 = 0 := by
    rw [List.getD_eq_getElem?_getD, List.getElem?_replicate]; split <;> rfl
  rw [this]; exact Nat.zero_testBit _
theorem bits_ext {a b : List UInt8} (hl : a.length = b.length) (h : ∀ m, 1 ≤ m → m ≤ 8 * a.length → hasB a m = hasB b m) : a = b := by
  refine List.ext_getElem hl fun i h1 h2 => ?_
  refine UInt8.toNat_inj.1 (Nat.eq_of_testBit_eq fun j => ?_)
  rcases Nat.lt_or_ge j 8 with hj | hj
  · have := h (8 * i + (7 - j) + 1) (by omega) (by omega)
    unfold hasB at this
    have q : (8 * i + (7 - j) + 1 - 1) / 8 = i := by omega
    have r : 7 - (8 * i + (7 - j) + 1 - 1) % 8 = j := by omega
    rw [q, r, getD_lt h1, getD_lt h2] at this
    exact this
  · have p : 2 ^ 8 ≤ 2 ^ j := Nat.pow_le_pow_right (by omega) hj
    rw [Nat.testBit_lt_two_pow (Nat.lt_of_lt_of_le a[i].toNat_lt p), Nat.testBit_lt_two_pow (Nat.lt_of_lt_of_le b[i].toNat_lt p)]
def rises : Int → List Int → Bool
  | _, [] => true
  | was, n :: l => decide (was < n) && decide (n ≤ 128) && decide (n ≠ 65) && rises n l
theorem rises_cons {was n : Int} {l : List Int} : rises was (n :: l) = true ↔ was < n ∧ n ≤ 128 ∧ n ≠ 65 ∧ rises n l = true := by
  simp only [rises, Bool.and_eq_true, decide_eq_true_eq, and_assoc]
theorem rises_gt : ∀ {l : List Int} {was : Int}, rises was l = true → ∀ x ∈ l, was < x ∧ x ≤ 128 ∧ x ≠ 65
  | [], _, _, x, hx => by cases hx
  | n :: l, was, h, x, hx => by
    obtain ⟨h1, h2, h3, h4⟩ := rises_cons.1 h
    rcases List.mem_cons.1 hx with rfl | hx
    · exact ⟨h1, h2, h3⟩
    · have := rises_gt h4 x hx; exact ⟨by omega, this.2⟩
theorem rises_lower {was w2 : Int} {l : List Int} (h : rises was l = true) (hw : ∀ x ∈ l, w2 < x) : rises w2 l = true := by
  cases l with
  | nil => rfl
  | cons n l =>
    obtain ⟨h1, h2, h3, h4⟩ := rises_cons.1 h
    exact rises_cons.2 ⟨hw n (by simp), h2, h3, h4⟩
theorem filter_rises : ∀ (k lo : Nat) (l : List Int) (p : Nat → Bool), rises ((lo : Int) - 1) l = true → (∀ x ∈ l, x < (lo : Int) + k) → (∀ n, lo ≤ n → n < lo + k → (p n = true ↔ (n : Int) ∈ l)) →
    ((List.range' lo k).filter p).map (fun (n : Nat) => (n : Int)) = l
  | 0, lo, l, p, h, hx, hp => by
    cases l with
    | nil => rfl
    | cons n l => have a := hx n (by simp); have b := (rises_cons.1 h).1; omega
  | k + 1, lo, l, p, h, hx, hp => by
    rw [List.range'_succ]
    by_cases hlo : (lo : Int) ∈ l
    · cases l with
      | nil => cases hlo
      | cons n l =>
        obtain ⟨h1, h2, h3, h4⟩ := rises_cons.1 h
        have e : n = (lo : Int) := by
          rcases List.mem_cons.1 hlo with e | e
          · exact e.symm
          · have := (rises_gt h4 _ e).1; omega
        subst e
        rw [List.filter_cons_of_pos ((hp lo (by omega) (by omega)).2 hlo), List.map_cons]
        congr 1
        refine filter_rises k (lo + 1) l p (by rw [show ((lo + 1 : Nat) : Int) - 1 = (lo : Int) by omega]; exact h4) (fun x m => by have := hx x (List.mem_cons_of_mem _ m); omega) fun n a b => ?_
        rw [hp n (by omega) (by omega), List.mem_cons]
        constructor
        · rintro (e | e)
          · omega
          · exact e
        · exact .inr
    · rw [List.filter_cons_of_neg (fun e => hlo ((hp lo (by omega) (by omega)).1 e))]
      refine filter_rises k (lo + 1) l p (rises_lower h fun x m => ?_) (fun x m => by have := hx x m; omega) (fun n a b => hp n (by omega) (by omega))
      have := (rises_gt h x m).1
      rcases Int.lt_or_eq_of_le (show (lo : Int) ≤ x by omega) with e | e
      · omega
      · subst e; exact absurd m hlo
theorem rises_filter : ∀ (k lo : Nat) (p : Nat → Bool), lo + k ≤ 129 → p 65 = false → rises ((lo : Int) - 1) (((List.range' lo k).filter p).map (fun (n : Nat) => (n : Int))) = true
  | 0, lo, p, _, _ => rfl
  | k + 1, lo, p, hk, h65 => by
    rw [List.range'_succ]
    have ih := rises_filter k (lo + 1) p (by omega) h65
    rw [show ((lo + 1 : Nat) : Int) - 1 = (lo : Int) by omega] at ih
    cases hp : p lo with
    | true =>
      rw [List.filter_cons_of_pos hp, List.map_cons]
      refine rises_cons.2 ⟨by omega, by omega, ?_, ih⟩
      intro e
      have : lo = 65 := by omega
      subst this; rw [hp] at h65; cases h65
    | false =>
      rw [List.filter_cons_of_neg (by simp [hp])]
      exact rises_lower ih fun x m => by have := (rises_gt ih x m).1; omega
def zerosL (k : Nat) : List UInt8 := List.replicate k 0
def setAll (b : List UInt8) (l : List Int) : List UInt8 := l.foldl (fun b n => setB b n.toNat) b
theorem setAll_length : ∀ (l : List Int) (b : List UInt8), (setAll b l).length = b.length
  | [], _ => rfl
  | n :: l, b => by rw [setAll, List.foldl_cons]; exact (setAll_length l _).trans (setB_length b _)
theorem hasB_setAll : ∀ (l : List Int) (b : List UInt8) (m : Nat), (∀ x ∈ l, 1 ≤ x ∧ x ≤ 8 * (b.length : Int)) → 1 ≤ m → (hasB (setAll b l) m = true ↔ hasB b m = true ∨ (m : Int) ∈ l)
  | [], b, m, _, _ => by simp [setAll]
  | n :: l, b, m, h, hm => by
    have hn := h n (by simp)
    rw [setAll, List.foldl_cons]
    refine (hasB_setAll l (setB b n.toNat) m (fun x hx => by rw [setB_length]; exact h x (List.mem_cons_of_mem _ hx)) hm).trans ?_
    rw [hasB_setB b n.toNat m (by omega) hm (by omega), Bool.or_eq_true, decide_eq_true_eq, List.mem_cons, or_assoc]
    have : n.toNat = m ↔ (m : Int) = n := by omega
    rw [this]
def bigL (l : List Int) : Bool := decide (l.getLastD 1 > 64)
def rawW (l : List Int) : List UInt8 := setAll (bif bigL l then setB (zerosL 16) 1 else zerosL 8) l
def mapW (l : List Int) : List UInt8 × Int := bif rises 1 l then (rawW l, 0) else ([], 1)
def whichL (b : List UInt8) (lo k : Nat) : List Int := ((List.range' lo k).filter (hasB b)).map (fun (n : Nat) => (n : Int))
def mapP (b : List UInt8) : List Int × Int × Int :=
  bif decide (b.length < 8) then ([], 0, 3) else bif !hasB b 1 then (whichL b 2 63, 8, 0) else bif decide (b.length < 16) then ([], 0, 3) else bif hasB b 65 || (whichL b 66 63).isEmpty then ([], 0, 6) else (whichL b 2 127, 16, 0)
theorem getLastD_mem {l : List Int} {d : Int} : l.getLastD d ∈ l ∨ l = [] := by
  cases l with
  | nil => exact .inr rfl
  | cons a l => left; rw [List.getLastD_cons]; exact List.mem_cons.2 (by
      cases l with
      | nil => exact .inl rfl
      | cons b l => right; rw [List.getLastD_cons]; exact (show ∀ (l : List Int) (b : Int), l.getLastD b ∈ b :: l by
          intro l; induction l with
          | nil => intro b; simp
          | cons c l ih => intro b; rw [List.getLastD_cons]; exact List.mem_cons_of_mem _ (ih c)) l b)
theorem rises_last : ∀ {l : List Int} {was : Int}, rises was l = true → ∀ x ∈ l, x ≤ l.getLastD was
  | [], _, _, x, hx => by cases hx
  | n :: l, was, h, x, hx => by
    obtain ⟨h1, h2, h3, h4⟩ := rises_cons.1 h
    rw [List.getLastD_cons]
    rcases List.mem_cons.1 hx with rfl | hx
    · cases l with
      | nil => exact Int.le_refl _
      | cons m l => have := rises_last h4 m (by simp); have := (rises_gt h4 m (by simp)).1; omega
    · exact rises_last h4 x hx
theorem rawW_length (l : List Int) : (rawW l).length = bif bigL l then 16 else 8 := by
  unfold rawW; rw [setAll_length]; cases bigL l <;> simp [setB_length, zerosL]
theorem raw_bits {l : List Int} (h : rises 1 l = true) (m : Nat) (hm : 1 ≤ m) : (hasB (rawW l) m = true ↔ (bigL l = true ∧ m = 1) ∨ (m : Int) ∈ l) := by
  have hl := rises_last h
  have hg := rises_gt h
  cases hb : bigL l with
  | true =>
    have e : rawW l = setAll (setB (zerosL 16) 1) l := by rw [rawW, hb]; rfl
    rw [e, hasB_setAll l _ m (fun x hx => by have := hg x hx; rw [setB_length]; simp only [zerosL, List.length_replicate]; omega) hm, hasB_setB _ _ _ (by omega) hm (by simp [zerosL]), zerosL, hasB_zeros, Bool.false_or, decide_eq_true_eq]
    have : (1 = m) ↔ (m = 1) := by omega
    rw [this]; simp
  | false =>
    have e : rawW l = setAll (zerosL 8) l := by rw [rawW, hb]; rfl
    have hs : l.getLastD 1 ≤ 64 := by simpa [bigL] using hb
    rw [e, hasB_setAll l _ m (fun x hx => by have := hg x hx; have := hl x hx; simp only [zerosL, List.length_replicate]; omega) hm, zerosL, hasB_zeros]
    simp
theorem mapP_raw {l : List Int} (h : rises 1 l = true) (t : List UInt8) : mapP (rawW l ++ t) = (l, ((rawW l).length : Int), 0) := by
  have hl := rises_last h
  have hg := rises_gt h
  have len := rawW_length l
  unfold mapP
  have bit : ∀ m, 1 ≤ m → m ≤ 8 * (rawW l).length → (hasB (rawW l ++ t) m = true ↔ (bigL l = true ∧ m = 1) ∨ (m : Int) ∈ l) := fun m h1 h2 => by
    rw [hasB_append _ _ _ (by omega)]; exact raw_bits h m h1
  have n1 : ¬ (((1 : Nat) : Int) ∈ l) := fun e => by have := (hg _ e).1; omega
  cases hb : bigL l with
  | true =>
    rw [hb, cond_true] at len
    have s1 : decide ((rawW l ++ t).length < 8) = false := decide_eq_false (by rw [List.length_append]; omega)
    have s2 : decide ((rawW l ++ t).length < 16) = false := decide_eq_false (by rw [List.length_append]; omega)
    have b1 : hasB (rawW l ++ t) 1 = true := (bit 1 (by omega) (by omega)).2 (.inl ⟨hb, rfl⟩)
    have b65 : hasB (rawW l ++ t) 65 = false := by
      cases hx : hasB (rawW l ++ t) 65 with
      | false => rfl
      | true =>
        rcases (bit 65 (by omega) (by omega)).1 hx with e | e
        · omega
        · exact absurd rfl (hg _ e).2.2
    have hs : l.getLastD 1 > 64 := by simpa [bigL] using hb
    have wn : (whichL (rawW l ++ t) 66 63).isEmpty = false := by
      rw [List.isEmpty_eq_false_iff_exists_mem]
      rcases getLastD_mem (l := l) (d := 1) with e | e
      · have g := hg _ e
        refine ⟨l.getLastD 1, ?_⟩
        rw [whichL, List.mem_map]
        refine ⟨(l.getLastD 1).toNat, List.mem_filter.2 ⟨List.mem_range'_1.2 ⟨by omega, by omega⟩, (bit _ (by omega) (by omega)).2 (.inr ?_)⟩, by omega⟩
        rw [show (((l.getLastD 1).toNat : Nat) : Int) = l.getLastD 1 by omega]; exact e
      · subst e; simp at hs
    have w : whichL (rawW l ++ t) 2 127 = l := filter_rises 127 2 l _ h (fun x hx => by have := hg x hx; omega) fun n a b => by
      rw [bit n (by omega) (by omega)]
      constructor
      · rintro (e | e)
        · omega
        · exact e
      · exact .inr
    rw [s1, s2, b1, b65, wn, w, len]; rfl
  | false =>
    rw [hb, cond_false] at len
    have hs : l.getLastD 1 ≤ 64 := by simpa [bigL] using hb
    have s1 : decide ((rawW l ++ t).length < 8) = false := decide_eq_false (by rw [List.length_append]; omega)
    have b1 : hasB (rawW l ++ t) 1 = false := by
      cases hx : hasB (rawW l ++ t) 1 with
      | false => rfl
      | true =>
        rcases (bit 1 (by omega) (by omega)).1 hx with e | e
        · rw [hb] at e; cases e.1
        · exact absurd e n1
    have w : whichL (rawW l ++ t) 2 63 = l := filter_rises 63 2 l _ h (fun x hx => by have := hl x hx; omega) fun n a b => by
      rw [bit n (by omega) (by omega), hb]
      constructor
      · rintro (e | e)
        · cases e.1
        · exact e
      · exact .inr
    rw [s1, b1, w, len]; rfl
theorem mem_whichL {b : List UInt8} {lo k m : Nat} : (m : Int) ∈ whichL b lo k ↔ lo ≤ m ∧ m < lo + k ∧ hasB b m = true := by
  rw [whichL, List.mem_map]
  constructor
  · rintro ⟨n, hn, e⟩
    obtain ⟨h1, h2⟩ := List.mem_filter.1 hn
    have : n = m := by omega
    subst this
    exact ⟨(List.mem_range'_1.1 h1).1, (List.mem_range'_1.1 h1).2, h2⟩
  · rintro ⟨h1, h2, h3⟩
    exact ⟨m, List.mem_filter.2 ⟨List.mem_range'_1.2 ⟨h1, h2⟩, h3⟩, rfl⟩
theorem mapW_parsed {b : List UInt8} (h : (mapP b).2.2 = 0) : rises 1 (mapP b).1 = true ∧ ((mapP b).2.1 = 8 ∨ (mapP b).2.1 = 16) ∧ (mapP b).2.1 ≤ (b.length : Int) ∧ rawW (mapP b).1 = b.take (mapP b).2.1.toNat := by
  by_cases s1 : b.length < 8
  · rw [mapP, decide_eq_true s1] at h; cases h
  · cases b1 : hasB b 1 with
    | false =>
      have E : mapP b = (whichL b 2 63, 8, 0) := by rw [mapP, decide_eq_false s1, b1]; rfl
      rw [E]
      show rises 1 (whichL b 2 63) = true ∧ ((8 : Int) = 8 ∨ (8 : Int) = 16) ∧ (8 : Int) ≤ (b.length : Int) ∧ rawW (whichL b 2 63) = b.take 8
      have r : rises 1 (whichL b 2 63) = true := by
        refine rises_lower (was := ((2 : Nat) : Int) - 1) ?_ ?_
        · have e : (List.range' 2 63).filter (hasB b) = (List.range' 2 63).filter (fun n => hasB b n && decide (n ≠ 65)) := by
            refine List.filter_congr fun n hn => ?_
            have := List.mem_range'_1.1 hn
            rw [decide_eq_true (show n ≠ 65 by omega), Bool.and_true]
          rw [whichL, e]
          exact rises_filter 63 2 _ (by omega) (by simp)
        · intro x hx
          rw [whichL, List.mem_map] at hx
          obtain ⟨n, hn, rfl⟩ := hx
          have := List.mem_range'_1.1 (List.mem_filter.1 hn).1; omega
      refine ⟨r, .inl rfl, by omega, ?_⟩
      have bg : bigL (whichL b 2 63) = false := by
        unfold bigL
        refine decide_eq_false ?_
        rcases getLastD_mem (l := whichL b 2 63) (d := 1) with e | e
        · have g := (rises_gt r _ e).1
          have e2 := e
          rw [show (whichL b 2 63).getLastD 1 = (((whichL b 2 63).getLastD 1).toNat : Int) by omega] at e2
          have := (mem_whichL.1 e2).2.1
          omega
        · rw [e]; decide
      have len := rawW_length (whichL b 2 63)
      rw [bg, cond_false] at len
      refine bits_ext (by rw [len, List.length_take]; omega) fun m h1 h2 => ?_
      rw [hasB_take _ _ _ (by omega), Bool.eq_iff_iff, raw_bits r m h1, bg, mem_whichL]
      constructor
      · rintro (e | e)
        · cases e.1
        · exact e.2.2
      · intro e
        refine .inr ⟨?_, by omega, e⟩
        rcases Nat.lt_or_ge m 2 with k | k
        · have : m = 1 := by omega
          subst this; rw [b1] at e; cases e
        · exact k
    | true =>
      by_cases s2 : b.length < 16
      · rw [mapP, decide_eq_false s1, b1, decide_eq_true s2] at h; cases h
      · cases b65 : hasB b 65 with
        | true => rw [mapP, decide_eq_false s1, b1, decide_eq_false s2, b65] at h; cases h
        | false =>
          cases wn : (whichL b 66 63).isEmpty with
          | true => rw [mapP, decide_eq_false s1, b1, decide_eq_false s2, b65, wn] at h; cases h
          | false =>
            have E : mapP b = (whichL b 2 127, 16, 0) := by rw [mapP, decide_eq_false s1, b1, decide_eq_false s2, b65, wn]; rfl
            rw [E]
            show rises 1 (whichL b 2 127) = true ∧ ((16 : Int) = 8 ∨ (16 : Int) = 16) ∧ (16 : Int) ≤ (b.length : Int) ∧ rawW (whichL b 2 127) = b.take 16
            have r : rises 1 (whichL b 2 127) = true := by
              refine rises_lower (was := ((2 : Nat) : Int) - 1) (rises_filter 127 2 _ (by omega) b65) ?_
              intro x hx
              rw [whichL, List.mem_map] at hx
              obtain ⟨n, hn, rfl⟩ := hx
              have := List.mem_range'_1.1 (List.mem_filter.1 hn).1; omega
            refine ⟨r, .inr rfl, by omega, ?_⟩
            have bg : bigL (whichL b 2 127) = true := by
              unfold bigL
              refine decide_eq_true ?_
              rw [List.isEmpty_eq_false_iff_exists_mem] at wn
              obtain ⟨x, hx⟩ := wn
              rw [whichL, List.mem_map] at hx
              obtain ⟨n, hn, rfl⟩ := hx
              have hn2 := List.mem_range'_1.1 (List.mem_filter.1 hn).1
              have := rises_last r (n : Int) (mem_whichL.2 ⟨by omega, by omega, (List.mem_filter.1 hn).2⟩)
              omega
            have len := rawW_length (whichL b 2 127)
            rw [bg, cond_true] at len
            refine bits_ext (by rw [len, List.length_take]; omega) fun m h1 h2 => ?_
            rw [hasB_take _ _ _ (by omega), Bool.eq_iff_iff, raw_bits r m h1, bg, mem_whichL]
            constructor
            · rintro (e | e)
              · rw [e.2]; exact b1
              · exact e.2.2
            · intro e
              rcases Nat.lt_or_ge m 2 with k | k
              · exact .inl ⟨rfl, by omega⟩
              · exact .inr ⟨k, by omega, e⟩
theorem bit_val (c : UInt8) : ∀ r : Fin 8, (bitsA .and .u8 (shrA .u8 (c.toNat : Int) (7 - (r.val : Int))) 1 == 1) = c.toNat.testBit (7 - r.val) :=
  all_bytes (p := fun c => ∀ r : Fin 8, (bitsA .and .u8 (shrA .u8 (c.toNat : Int) (7 - (r.val : Int))) 1 == 1) = c.toNat.testBit (7 - r.val)) (by decide +kernel) c
theorem or_val (c : UInt8) : ∀ r : Fin 8, bitsA .or .u8 (c.toNat : Int) (shlA .u8 1 (7 - (r.val : Int))) = ((orB c (7 - r.val)).toNat : Int) :=
  all_bytes (p := fun c => ∀ r : Fin 8, bitsA .or .u8 (c.toNat : Int) (shlA .u8 1 (7 - (r.val : Int))) = ((orB c (7 - r.val)).toNat : Int)) (by decide +kernel) c
theorem bit_at {n : Nat} (h1 : 1 ≤ n) (hn : n ≤ 128) : IntKind.i64.wrap (Int.tdiv (IntKind.i64.wrap ((n : Int) - 1)) 8) = (((n - 1) / 8 : Nat) : Int) ∧
    IntKind.i64.wrap ((7 : Int) - Int.tmod (IntKind.i64.wrap ((n : Int) - 1)) 8) = 7 - (((n - 1) % 8 : Nat) : Int) := by
  have e : IntKind.i64.wrap ((n : Int) - 1) = ((n - 1 : Nat) : Int) := by rw [i64_wrap (by omega) (by omega)]; omega
  rw [e, tdiv_eq (by omega), tmod_eq (by omega)]
  constructor
  · rw [i64_wrap (by omega) (by omega)]; omega
  · rw [i64_wrap (by omega) (by omega)]; omega
theorem has_eq (b : List UInt8) (n : Nat) (h1 : 1 ≤ n) (hn : n ≤ 128) (hb : (n - 1) / 8 < b.length) : g_bitmap_bits_has (bl b) (n : Int) = some (hasB b n) := by
  obtain ⟨e1, e2⟩ := bit_at h1 hn
  have q1 : (0 : Int) ≤ (((n - 1) / 8 : Nat) : Int) := by omega
  have q2 : (((n - 1) / 8 : Nat) : Int) < (b.length : Int) := by omega
  have q3 : (0 : Int) ≤ 7 - (((n - 1) % 8 : Nat) : Int) := by omega
  have v := bit_val (b.getD ((n - 1) / 8) 0) ⟨(n - 1) % 8, by omega⟩
  unfold g_bitmap_bits_has hasB
  simp only at v
  simp only [T_bitmap_bits_has, Tr.val_c, Tr.val_r, e1, e2, bl_length, q1, q2, q3, Int.toNat_natCast, bl_getD, getI_int, v, decide_true, cond_true]
theorem set_eq (b : List UInt8) (n : Nat) (h1 : 1 ≤ n) (hn : n ≤ 128) (hb : (n - 1) / 8 < b.length) : g_bitmap_bits_set (n : Int) (bl b) = some (bl (setB b n)) := by
  obtain ⟨e1, e2⟩ := bit_at h1 hn
  have q1 : (0 : Int) ≤ (((n - 1) / 8 : Nat) : Int) := by omega
  have q2 : (((n - 1) / 8 : Nat) : Int) < (b.length : Int) := by omega
  have q3 : (0 : Int) ≤ 7 - (((n - 1) % 8 : Nat) : Int) := by omega
  have v := or_val (b.getD ((n - 1) / 8) 0) ⟨(n - 1) % 8, by omega⟩
  have s : (bl b).set ((n - 1) / 8) (.int .u8 ((orB (b.getD ((n - 1) / 8) 0) (7 - (n - 1) % 8)).toNat : Int)) = bl (setB b n) := by
    rw [setB]; simp only [bl, List.map_set, byte]
  unfold g_bitmap_bits_set
  simp only at v
  simp only [T_bitmap_bits_set, Tr.val_c, Tr.val_r, e1, e2, bl_length, q1, q2, q3, hb, Int.toNat_natCast, bl_getD, getI_int, v, s, decide_true, cond_true, beq_self_eq_true]
abbrev il (l : List Int) : List AV := l.map (AV.int .i64)
theorem il_getD (l : List Int) (i : Nat) : getI ((il l).getD i (.int .i64 0)) = l.getD i 0 := by
  simp only [List.getD_eq_getElem?_getD, List.getElem?_map]
  cases l[i]? <;> rfl
theorem getDI_lt {l : List Int} {i : Nat} (h : i < l.length) : l.getD i 0 = l[i] := by simp [List.getD_eq_getElem?_getD, h]
theorem Write_map (l : List Int) (hl : l.length < 1000000) : g_bitmap_Write (il l) = some (bl (mapW l).1, (mapW l).2) := by
  have first : ∀ k i : Nat, ∀ was : Int, i + k = l.length → run (M_bitmap_Write (il l)) (M_bitmap_Write (il l) (.inl (was, (i : Int)))) =
      if rises was (l.drop i) = true then run (M_bitmap_Write (il l)) (M_bitmap_Write (il l) (.inl ((l.drop i).getLastD was, (l.length : Int)))) else some ([], 1) := by
    intro k
    induction k with
    | zero =>
      intro i was hi
      have : i = l.length := by omega
      subst this
      rw [List.drop_length]; rfl
    | succ k ih =>
      intro i was hi
      have q1 : (i : Int) < l.length := by omega
      have q2 : (0 : Int) ≤ (i : Int) := by omega
      have w1 : IntKind.i64.wrap ((i : Int) + 1) = ((i + 1 : Nat) : Int) := by rw [i64_wrap (by omega) (by omega)]; omega
      rw [List.drop_eq_getElem_cons (show i < l.length by omega), List.getLastD_cons]
      have g : l.getD i 0 = l[i] := getDI_lt (by omega)
      by_cases a1 : l[i] ≤ was
      · rw [if_neg (by rw [rises_cons]; omega)]
        exact run_inr (by simp only [M_bitmap_Write, Tr.val_c, Tr.val_r, List.length_map, q1, q2, Int.toNat_natCast, il_getD, g, a1, decide_true, cond_true])
      · by_cases a2 : l[i] > 128
        · rw [if_neg (by rw [rises_cons]; omega)]
          exact run_inr (by simp only [M_bitmap_Write, Tr.val_c, Tr.val_r, List.length_map, q1, q2, Int.toNat_natCast, il_getD, g, a1, a2, decide_true, decide_false, cond_true, cond_false])
        · by_cases a3 : l[i] = 65
          · rw [if_neg (by rw [rises_cons]; omega)]
            exact run_inr (by simp only [M_bitmap_Write, Tr.val_c, Tr.val_r, List.length_map, q1, q2, Int.toNat_natCast, il_getD, g, a3, show ¬ ((65 : Int) ≤ was) by omega, show ¬ ((65 : Int) > 128) by decide, beq_self_eq_true, decide_true, decide_false, cond_true, cond_false])
          · have a3' : (l[i] == 65) = false := by simpa using a3
            rw [run_inl (s := (.inl (l[i], ((i + 1 : Nat) : Int)))) (by simp only [M_bitmap_Write, Tr.val_c, Tr.val_r, List.length_map, q1, q2, Int.toNat_natCast, il_getD, g, a1, a2, a3', w1, decide_true, decide_false, cond_true, cond_false]), ih (i + 1) _ (by omega)]
            have : rises was (l[i] :: l.drop (i + 1)) = rises l[i] (l.drop (i + 1)) := by
              rw [rises, decide_eq_true (show was < l[i] by omega), decide_eq_true (show l[i] ≤ 128 by omega), decide_eq_true a3]; rfl
            rw [this]
  have second : ∀ (z : Nat) (B : List UInt8), (∀ x ∈ l, 1 ≤ x ∧ x ≤ 8 * (B.length : Int) ∧ x ≤ 128) → ∀ k i : Nat, ∀ C : List UInt8, C.length = B.length → i + k = l.length →
      run (M_bitmap_Write (il l)) (M_bitmap_Write (il l) (bif z == 0 then (.inr (.inl ((i : Int), bl C))) else (.inr (.inr ((i : Int), bl C))))) = some (bl (setAll C (l.drop i)), 0) := by
    intro z B hB k
    induction k with
    | zero =>
      intro i C hC hi
      have : i = l.length := by omega
      subst this
      have q1 : ¬ ((l.length : Int) < l.length) := by omega
      rw [List.drop_length]
      cases z == 0
      · exact run_inr (by simp only [M_bitmap_Write, Tr.val_c, Tr.val_r, List.length_map, q1, cond_false, decide_false, beq_self_eq_true, cond_true]; rfl)
      · exact run_inr (by simp only [M_bitmap_Write, Tr.val_c, Tr.val_r, List.length_map, q1, cond_false, decide_false, beq_self_eq_true, cond_true]; rfl)
    | succ k ih =>
      intro i C hC hi
      have hlt : i < l.length := by omega
      have q1 : (i : Int) < l.length := by omega
      have q2 : (0 : Int) ≤ (i : Int) := by omega
      have w1 : IntKind.i64.wrap ((i : Int) + 1) = ((i + 1 : Nat) : Int) := by rw [i64_wrap (by omega) (by omega)]; omega
      have g : l.getD i 0 = l[i] := getDI_lt hlt
      have hx := hB l[i] (List.getElem_mem hlt)
      have e : l[i] = ((l[i].toNat : Nat) : Int) := by omega
      have s := set_eq C l[i].toNat (by omega) (by omega) (by omega)
      rw [← e] at s
      have sl := setB_length C l[i].toNat
      rw [List.drop_eq_getElem_cons hlt, setAll, List.foldl_cons]
      have nx := ih (i + 1) (setB C l[i].toNat) (by omega) (by omega)
      cases hz : z == 0
      · rw [hz] at nx
        rw [cond_false] at nx
        rw [cond_false, run_inl (s := (.inr (.inr (((i + 1 : Nat) : Int), bl (setB C l[i].toNat))))) (by simp only [M_bitmap_Write, Tr.val_c, Tr.val_r, val_opt, List.length_map, q1, q2, Int.toNat_natCast, il_getD, g, s, w1, bl_length, sl, Option.bind_some, beq_self_eq_true, decide_true, cond_true]), nx]; rfl
      · rw [hz] at nx
        rw [cond_true] at nx
        rw [cond_true, run_inl (s := (.inr (.inl (((i + 1 : Nat) : Int), bl (setB C l[i].toNat))))) (by simp only [M_bitmap_Write, Tr.val_c, Tr.val_r, val_opt, List.length_map, q1, q2, Int.toNat_natCast, il_getD, g, s, w1, bl_length, sl, Option.bind_some, beq_self_eq_true, decide_true, cond_true]), nx]; rfl
  unfold g_bitmap_Write
  rw [run_inl (s := (.inl ((1 : Int), ((0 : Nat) : Int)))) rfl, first l.length 0 1 (by omega), List.drop_zero]
  unfold mapW
  cases hr : rises 1 l with
  | false => rw [if_neg (by simp)]; rfl
  | true =>
    rw [if_pos rfl, cond_true]
    have q1 : ¬ ((l.length : Int) < l.length) := by omega
    have hg := rises_gt hr
    have hl' := rises_last hr
    unfold rawW bigL
    by_cases hb : l.getLastD 1 > 64
    · have s2 := second 1 (setB (zerosL 16) 1) (fun x hx => by have := hg x hx; rw [setB_length]; simp only [zerosL, List.length_replicate]; omega) l.length 0 (setB (zerosL 16) 1) rfl (by omega)
      rw [run_inl (s := (.inr (.inr (((0 : Nat) : Int), bl (setB (zerosL 16) 1))))) (by simp only [M_bitmap_Write, Tr.val_c, Tr.val_r, List.length_map, q1, hb, decide_true, decide_false, cond_true, cond_false]; rfl)]
      rw [decide_eq_true hb]
      exact s2
    · have s2 := second 0 (zerosL 8) (fun x hx => by have := hg x hx; have := hl' x hx; simp only [zerosL, List.length_replicate]; omega) l.length 0 (zerosL 8) rfl (by omega)
      rw [run_inl (s := (.inr (.inl (((0 : Nat) : Int), bl (zerosL 8))))) (by simp only [M_bitmap_Write, Tr.val_c, Tr.val_r, List.length_map, q1, hb, decide_false, cond_false]; rfl)]
      rw [decide_eq_false hb]
      exact s2
theorem which_eq (x : Int) (b : List UInt8) (tp : Nat) (ht : tp ≤ 128) (hb : (tp - 1) / 8 < b.length) : ∀ (k lo : Nat), 1 ≤ lo → lo + k = tp + 1 → ∀ acc : List Int, acc.length ≤ lo → 
    run (M_bitmap_which_00fhas_ x (tp : Int) (bl b)) (M_bitmap_which_00fhas_ x (tp : Int) (bl b) ((lo : Int), il acc)) = some (il (acc ++ whichL b lo k))
  | 0, lo, h1, hk, acc, ha => by
    have q : ¬ ((lo : Int) ≤ tp) := by omega
    rw [show whichL b lo 0 = [] from rfl, List.append_nil]
    exact run_inr (by simp only [M_bitmap_which_00fhas_, Tr.val_c, Tr.val_r, q, decide_false, cond_false, beq_self_eq_true, cond_true])
  | k + 1, lo, h1, hk, acc, ha => by
    have q : (lo : Int) ≤ tp := by omega
    have w1 : IntKind.i64.wrap ((lo : Int) + 1) = ((lo + 1 : Nat) : Int) := by rw [i64_wrap (by omega) (by omega)]; omega
    have h := has_eq b lo h1 (by omega) (by omega)
    have w : whichL b lo (k + 1) = (bif hasB b lo then [(lo : Int)] else []) ++ whichL b (lo + 1) k := by
      unfold whichL; rw [List.range'_succ]
      cases hx : hasB b lo with
      | true => rw [List.filter_cons_of_pos hx]; rfl
      | false => rw [List.filter_cons_of_neg (by simp [hx])]; rfl
    cases hx : hasB b lo with
    | true =>
      rw [hx] at h w
      have e : il acc ++ [AV.int .i64 (lo : Int)] = il (acc ++ [(lo : Int)]) := by rw [il, il, List.map_append]; rfl
      have l1 : (il (acc ++ [(lo : Int)])).length * 9 < 70368744177664 := by rw [il, List.length_map, List.length_append, List.length_singleton]; omega
      rw [run_inl (s := (((lo + 1 : Nat) : Int), il (acc ++ [(lo : Int)]))) (by simp only [M_bitmap_which_00fhas_, Tr.val_c, Tr.val_r, val_opt, q, h, e, l1, w1, Option.bind_some, decide_true, cond_true, beq_self_eq_true])]
      rw [which_eq x b tp ht hb k (lo + 1) (by omega) (by omega) (acc ++ [(lo : Int)]) (by rw [List.length_append, List.length_singleton]; omega), w, cond_true, List.append_assoc]
    | false =>
      rw [hx] at h w
      rw [run_inl (s := (((lo + 1 : Nat) : Int), il acc)) (by simp only [M_bitmap_which_00fhas_, Tr.val_c, Tr.val_r, val_opt, q, h, w1, Option.bind_some, decide_true, cond_true, cond_false])]
      rw [which_eq x b tp ht hb k (lo + 1) (by omega) (by omega) acc (by omega), w, cond_false, List.nil_append]
theorem which_all (b : List UInt8) (lo tp : Nat) (h1 : 1 ≤ lo) (h2 : lo ≤ tp + 1) (ht : tp ≤ 128) (hb : (tp - 1) / 8 < b.length) : g_bitmap_which_00fhas_ (lo : Int) (tp : Int) (bl b) = some (il (whichL b lo (tp + 1 - lo))) := by
  unfold g_bitmap_which_00fhas_
  rw [run_inl (s := ((lo : Int), il [])) rfl, which_eq _ b tp ht hb (tp + 1 - lo) lo h1 (by omega) [] (by simp)]
  rfl
theorem hasB_cut {b : List UInt8} {k m : Nat} (h : (m - 1) / 8 < k) : hasB (b.take k) m = hasB b m := hasB_take b k m h
theorem whichL_cut {b : List UInt8} {c lo k : Nat} (h : lo + k ≤ 8 * c + 1) (h1 : 1 ≤ lo) : whichL (b.take c) lo k = whichL b lo k := by
  unfold whichL
  congr 1
  refine List.filter_congr fun n hn => ?_
  have := List.mem_range'_1.1 hn
  exact hasB_take b c n (by omega)
theorem Parse_map (b : List UInt8) (hb : b.length < 1000000) : g_bitmap_Parse (bl b) = some (il (mapP b).1, (mapP b).2.1, (mapP b).2.2) := by
  have t1 := Take_eq 8 (bl b) 0 (by omega) (by rw [bl_length]; omega)
  unfold g_bitmap_Parse mapP
  rw [bl_length] at t1
  have n0 : ¬ ((8 : Int) < 0) := by decide
  rw [if_neg n0] at t1
  by_cases h1 : b.length < 8
  · rw [if_pos (by omega)] at t1
    rw [decide_eq_true h1, cond_true]
    have z3 : ((3 : Int) != 0) = true := rfl
    simp only [T_bitmap_Parse, Tr.val_c, Tr.val_r, val_opt, New_eq (bl b) (by rw [bl_length]; omega), show ((0 : Int)) = ((0 : Nat) : Int) from rfl, t1, Option.bind_some, z3, cond_true]
    rfl
  · rw [if_neg (by omega)] at t1
    rw [decide_eq_false h1, cond_false]
    have e8 : ((bl b).drop 0).take (8 : Int).toNat = bl (b.take 8) := by rw [List.drop_zero]; exact bl_take b 8
    rw [e8] at t1
    have l8 : (b.take 8).length = 8 := by rw [List.length_take]; omega
    have hh := has_eq (b.take 8) 1 (by omega) (by omega) (by omega)
    rw [hasB_take b 8 1 (by omega)] at hh
    have z0 : ((0 : Int) != 0) = false := rfl
    have N := New_eq (bl b) (by rw [bl_length]; omega)
    cases hx : hasB b 1 with
    | false =>
      rw [hx] at hh
      have w := which_all (b.take 8) 2 64 (by omega) (by omega) (by omega) (by omega)
      rw [whichL_cut (by omega) (by omega)] at w
      simp only [T_bitmap_Parse, Tr.val_c, Tr.val_r, val_opt, N, show ((0 : Int)) = ((0 : Nat) : Int) from rfl, t1, Option.bind_some]
      have hh' : g_bitmap_bits_has (bl (b.take 8)) 1 = some false := hh
      have w' : g_bitmap_which_00fhas_ 2 64 (bl (b.take 8)) = some (il (whichL b 2 63)) := w
      simp only [show (((0 : Nat) : Int)) = (0 : Int) from rfl, z0, hh', w', Option.bind_some, beq_self_eq_true, cond_true, cond_false, Bool.not_false]
    | true =>
      rw [hx] at hh
      have t2 := Take_eq 8 (bl b) 8 (by rw [bl_length]; omega) (by rw [bl_length]; omega)
      rw [bl_length, if_neg n0] at t2
      have hh' : g_bitmap_bits_has (bl (b.take 8)) 1 = some true := hh
      have e0 : (((0 : Nat) : Int)) = (0 : Int) := rfl
      have e1 : (((8 : Nat) : Int)) = (8 : Int) := rfl
      have e2 : ((0 : Int) + 8) = (8 : Int) := rfl
      rw [e0, e2] at t1
      rw [e1] at t2
      by_cases h2 : b.length < 16
      · rw [if_pos (by omega)] at t2
        rw [decide_eq_true h2]
        have z3 : ((3 : Int) != 0) = true := rfl
        simp only [T_bitmap_Parse, Tr.val_c, Tr.val_r, val_opt, N, t1, hh', z0, t2, z3, Option.bind_some, beq_self_eq_true, cond_true, cond_false, Bool.not_true]
        rfl
      · rw [if_neg (by omega)] at t2
        rw [decide_eq_false h2]
        have e16 : bl (b.take 8) ++ ((bl b).drop 8).take (8 : Int).toNat = bl (b.take 16) := by
          rw [bl_drop, show (8 : Int).toNat = 8 from rfl, bl_take, ← bl_append]
          congr 1
          exact (List.take_add (i := 8) (j := 8) (l := b)).symm
        have l16 : (b.take 16).length = 16 := by rw [List.length_take]; omega
        have lb : (bl (b.take 16)).length * 2 < 70368744177664 := by rw [bl_length, l16]; decide
        have h65 := has_eq (b.take 16) 65 (by omega) (by omega) (by omega)
        rw [hasB_take b 16 65 (by omega)] at h65
        have w1 := which_all (b.take 16) 66 128 (by omega) (by omega) (by omega) (by omega)
        rw [whichL_cut (by omega) (by omega)] at w1
        have w2 := which_all (b.take 16) 2 128 (by omega) (by omega) (by omega) (by omega)
        rw [whichL_cut (by omega) (by omega)] at w2
        have h65' : g_bitmap_bits_has (bl (b.take 16)) 65 = some (hasB b 65) := h65
        have w1' : g_bitmap_which_00fhas_ 66 128 (bl (b.take 16)) = some (il (whichL b 66 63)) := w1
        have w2' : g_bitmap_which_00fhas_ 2 128 (bl (b.take 16)) = some (il (whichL b 2 127)) := w2
        simp only [T_bitmap_Parse, Tr.val_c, Tr.val_r, val_opt, N, t1, hh', z0, t2, e16, lb, h65', w1', w2', Option.bind_some, beq_self_eq_true, decide_true, cond_true, cond_false, Bool.not_true]
        cases hasB b 65 with
        | true => rfl
        | false =>
          cases hw : whichL b 66 63 with
          | nil => rfl
          | cons a r =>
            have : (((il (a :: r)).length : Int) == 0) = false := by simp only [il, List.length_map, List.length_cons, beq_eq_false_iff_ne]; omega
            simp only [this, cond_false, List.isEmpty_cons, Bool.or_false]
theorem rbit_val (c : UInt8) : ∀ r : Fin 8, (bitsA .and .u8 (c.toNat : Int) (shrA .u8 128 (r.val : Int)) != 0) = c.toNat.testBit (7 - r.val) :=
  all_bytes (p := fun c => ∀ r : Fin 8, (bitsA .and .u8 (c.toNat : Int) (shrA .u8 128 (r.val : Int)) != 0) = c.toNat.testBit (7 - r.val)) (by decide +kernel) c
theorem rbit1_val (c : UInt8) : (bitsA .and .u8 (c.toNat : Int) 128 != 0) = c.toNat.testBit 7 :=
  all_bytes (p := fun c => (bitsA .and .u8 (c.toNat : Int) 128 != 0) = c.toNat.testBit 7) (by decide +kernel) c
theorem ror_val (c : UInt8) : ∀ r : Fin 8, bitsA .or .u8 (c.toNat : Int) (shrA .u8 128 (r.val : Int)) = ((orB c (7 - r.val)).toNat : Int) :=
  all_bytes (p := fun c => ∀ r : Fin 8, bitsA .or .u8 (c.toNat : Int) (shrA .u8 128 (r.val : Int)) = ((orB c (7 - r.val)).toNat : Int)) (by decide +kernel) c
theorem ror1_val (c : UInt8) : bitsA .or .u8 (c.toNat : Int) 128 = ((orB c 7).toNat : Int) :=
  all_bytes (p := fun c => bitsA .or .u8 (c.toNat : Int) 128 = ((orB c 7).toNat : Int)) (by decide +kernel) c
theorem rbit_at {n : Nat} (h1 : 1 ≤ n) (hn : n ≤ 129) : IntKind.i64.wrap (Int.tdiv (IntKind.i64.wrap ((n : Int) - 1)) 8) = (((n - 1) / 8 : Nat) : Int) ∧
    IntKind.u64.wrap (Int.tmod (IntKind.i64.wrap ((n : Int) - 1)) 8) = (((n - 1) % 8 : Nat) : Int) := by
  have e : IntKind.i64.wrap ((n : Int) - 1) = ((n - 1 : Nat) : Int) := by rw [i64_wrap (by omega) (by omega)]; omega
  rw [e, tdiv_eq (by omega), tmod_eq (by omega)]
  constructor
  · rw [i64_wrap (by omega) (by omega)]; omega
  · rw [u64_wrap (by omega) (by omega)]; omega
theorem In_eq (L : List Int) (x : Int) (hL : L.length < 1000) : g_comptoirhelp_In_int (il L) x = some (decide (x ∈ L)) := by
  unfold g_comptoirhelp_In_int
  rw [run_inl (s := (0 : Int)) rfl]
  have := run_exit (step := M_comptoirhelp_In_int (il L) x) (f := fun i => (i : Int)) (p := fun i => L.getD i 0 != x) (n := L.length) (e := true) (z := false) (fun i hi => by
    have q1 : (i : Int) < L.length := by omega
    have q2 : (0 : Int) ≤ i := by omega
    have w : IntKind.i64.wrap ((i : Int) + 1) = ((i + 1 : Nat) : Int) := by rw [i64_wrap (by omega) (by omega)]; omega
    cases hx : (L.getD i 0 == x) with
    | true => 
      have : (L.getD i 0 != x) = false := by simpa using hx
      simp only [M_comptoirhelp_In_int, Tr.val_c, Tr.val_r, List.length_map, q1, q2, Int.toNat_natCast, il_getD, hx, this, decide_true, cond_true, Bool.false_eq_true, if_false]
    | false =>
      have : (L.getD i 0 != x) = true := by simpa using hx
      simp only [M_comptoirhelp_In_int, Tr.val_c, Tr.val_r, List.length_map, q1, q2, Int.toNat_natCast, il_getD, hx, this, w, decide_true, cond_true, cond_false, if_true]) (by
    have q1 : ¬ ((L.length : Int) < L.length) := by omega
    simp only [M_comptoirhelp_In_int, Tr.val_c, Tr.val_r, List.length_map, q1, decide_false, cond_false])
  refine this.trans ?_
  rw [range_all L 0 (fun y => y != x)]
  by_cases h : x ∈ L
  · rw [decide_eq_true h, if_neg]
    simp only [List.all_eq_true, bne_iff_ne, ne_eq]
    intro hall; exact hall x h rfl
  · rw [decide_eq_false h, if_pos]
    simp only [List.all_eq_true, bne_iff_ne, ne_eq]
    intro y hy e; subst e; exact h hy
theorem lastD : ∀ (l : List Int) (a d e : Int), (a :: l).getD ((a :: l).length - 1) d = (a :: l).getLastD e
  | [], _, _, _ => rfl
  | b :: l, a, d, e => by
    have := lastD l b d a
    rw [List.getLastD_cons, List.getLastD_cons]
    rw [List.getLastD_cons] at this
    simpa using this
theorem map_cond {b : List UInt8} : (decide ((65 : Int) ∈ whichL b 2 127) = true ∨ whichL b 2 127 = [] ∨ (whichL b 2 127).getD ((whichL b 2 127).length - 1) 0 < 66) ↔ (hasB b 65 || (whichL b 66 63).isEmpty) = true := by
  have m65 : (65 : Int) ∈ whichL b 2 127 ↔ hasB b 65 = true := by
    rw [show (65 : Int) = ((65 : Nat) : Int) from rfl, mem_whichL]; simp
  rw [decide_eq_true_eq, m65, Bool.or_eq_true]
  cases h65 : hasB b 65 with
  | true => simp
  | false =>
    have r : rises 1 (whichL b 2 127) = true := by
      refine rises_lower (was := ((2 : Nat) : Int) - 1) (rises_filter 127 2 _ (by omega) h65) ?_
      intro x hx
      rw [whichL, List.mem_map] at hx
      obtain ⟨n, hn, rfl⟩ := hx
      have := List.mem_range'_1.1 (List.mem_filter.1 hn).1; omega
    have last : ∀ x ∈ whichL b 2 127, x ≤ (whichL b 2 127).getD ((whichL b 2 127).length - 1) 0 := by
      intro x hx
      have := rises_last r x hx
      cases hw : whichL b 2 127 with
      | nil => rw [hw] at hx; cases hx
      | cons a l => rw [lastD l a 0 1, ← hw]; exact this
    simp only [Bool.false_eq_true, false_or]
    constructor
    · intro h
      cases hw : whichL b 66 63 with
      | nil => rfl
      | cons y t =>
        have hy : y ∈ whichL b 66 63 := by rw [hw]; simp
        rw [whichL, List.mem_map] at hy
        obtain ⟨n, hn, rfl⟩ := hy
        have hn2 := List.mem_range'_1.1 (List.mem_filter.1 hn).1
        have hm : (n : Int) ∈ whichL b 2 127 := mem_whichL.2 ⟨by omega, by omega, (List.mem_filter.1 hn).2⟩
        rcases h with h | h
        · rw [h] at hm; cases hm
        · have := last _ hm; omega
    · intro h
      cases hw : whichL b 2 127 with
      | nil => exact .inl rfl
      | cons a l =>
        right
        rw [lastD l a 0 1]
        rcases getLastD_mem (l := a :: l) (d := 1) with e | e
        · rw [← hw] at e ⊢
          have g := rises_gt r _ e
          have e2 := e
          rw [show (whichL b 2 127).getLastD 1 = (((whichL b 2 127).getLastD 1).toNat : Int) by omega] at e2
          have m := mem_whichL.1 e2
          rcases Int.lt_or_le ((whichL b 2 127).getLastD 1) 66 with k | k
          · exact k
          · have : (((whichL b 2 127).getLastD 1).toNat : Int) ∈ whichL b 66 63 := mem_whichL.2 ⟨by omega, by omega, m.2.2⟩
            rw [List.isEmpty_iff.1 h] at this; cases this
        · cases e
theorem rmap_loop (b : List UInt8) (n : Nat) (hn : n = 8 ∨ n = 16) (hb : n ≤ b.length) : ∀ (k lo : Nat), 1 ≤ lo → lo + k = 8 * n + 1 → ∀ acc : List Int, acc.length ≤ lo →
    run (M_comptoirref01_ParseMap (bl b)) (M_comptoirref01_ParseMap (bl b) ((n : Int), (lo : Int), il acc)) = run (M_comptoirref01_ParseMap (bl b)) (M_comptoirref01_ParseMap (bl b) ((n : Int), ((8 * n + 1 : Nat) : Int), il (acc ++ whichL b lo k)))
  | 0, lo, h1, hk, acc, ha => by
    rw [show whichL b lo 0 = [] from rfl, List.append_nil, show lo = 8 * n + 1 by omega]
  | k + 1, lo, h1, hk, acc, ha => by
    have w0 : IntKind.i64.wrap (8 * (n : Int)) = ((8 * n : Nat) : Int) := by rw [i64_wrap (by omega) (by omega)]; omega
    have q : (lo : Int) ≤ ((8 * n : Nat) : Int) := by omega
    have w1 : IntKind.i64.wrap ((lo : Int) + 1) = ((lo + 1 : Nat) : Int) := by rw [i64_wrap (by omega) (by omega)]; omega
    obtain ⟨e1, e2⟩ := rbit_at h1 (by omega)
    have q1 : (0 : Int) ≤ (((lo - 1) / 8 : Nat) : Int) := by omega
    have q2 : (((lo - 1) / 8 : Nat) : Int) < (b.length : Int) := by omega
    have q3 : (0 : Int) ≤ (((lo - 1) % 8 : Nat) : Int) := by omega
    have v := rbit_val (b.getD ((lo - 1) / 8) 0) ⟨(lo - 1) % 8, by omega⟩
    have hv : (b.getD ((lo - 1) / 8) 0).toNat.testBit (7 - (lo - 1) % 8) = hasB b lo := rfl
    simp only [hv] at v
    have w : whichL b lo (k + 1) = (bif hasB b lo then [(lo : Int)] else []) ++ whichL b (lo + 1) k := by
      unfold whichL; rw [List.range'_succ]
      cases hx : hasB b lo with
      | true => rw [List.filter_cons_of_pos hx]; rfl
      | false => rw [List.filter_cons_of_neg (by simp [hx])]; rfl
    cases hx : hasB b lo with
    | true =>
      rw [hx] at v w
      have e : il acc ++ [AV.int .i64 (lo : Int)] = il (acc ++ [(lo : Int)]) := by rw [il, il, List.map_append]; rfl
      have l1 : (il (acc ++ [(lo : Int)])).length * 9 < 70368744177664 := by rw [il, List.length_map, List.length_append, List.length_singleton]; omega
      rw [run_inl (s := ((n : Int), ((lo + 1 : Nat) : Int), il (acc ++ [(lo : Int)]))) (by simp only [M_comptoirref01_ParseMap, Tr.val_c, Tr.val_r, w0, q, e1, e2, bl_length, q1, q2, q3, Int.toNat_natCast, bl_getD, getI_int, v, e, l1, w1, decide_true, cond_true, beq_self_eq_true])]
      rw [rmap_loop b n hn hb k (lo + 1) (by omega) (by omega) (acc ++ [(lo : Int)]) (by rw [List.length_append, List.length_singleton]; omega), w, cond_true, List.append_assoc]
    | false =>
      rw [hx] at v w
      rw [run_inl (s := ((n : Int), ((lo + 1 : Nat) : Int), il acc)) (by simp only [M_comptoirref01_ParseMap, Tr.val_c, Tr.val_r, w0, q, e1, e2, bl_length, q1, q2, q3, Int.toNat_natCast, bl_getD, getI_int, v, w1, decide_true, cond_true, cond_false])]
      rw [rmap_loop b n hn hb k (lo + 1) (by omega) (by omega) acc (by omega), w, cond_false, List.nil_append]
theorem refParseMap_eq (b : List UInt8) (hb : b.length < 1000000) : g_comptoirref01_ParseMap (bl b) = some (il (mapP b).1, (mapP b).2.1, (mapP b).2.2) := by
  unfold g_comptoirref01_ParseMap
  by_cases h1 : b.length < 8
  · have h1' : (b.length : Int) < 8 := by omega
    unfold mapP
    rw [decide_eq_true h1]
    exact run_inr (x := (([] : List AV), (0 : Int), (3 : Int))) (by simp only [T_comptoirref01_ParseMap, Tr.val_c, Tr.val_r, bl_length, h1', decide_true, cond_true])
  · have h1' : ¬ (b.length : Int) < 8 := by omega
    have h0 : (0 : Int) < b.length := by omega
    have v := rbit1_val (b.getD 0 0)
    have hv : (b.getD 0 0).toNat.testBit 7 = hasB b 1 := rfl
    rw [hv] at v
    have g0 : getI ((bl b).getD 0 (.int .u8 0)) = ((b.getD 0 0).toNat : Int) := by rw [bl_getD]; rfl
    cases hx : hasB b 1 with
    | false =>
      rw [hx] at v
      rw [run_inl (s := (((8 : Nat) : Int), ((2 : Nat) : Int), il [])) (by simp only [T_comptoirref01_ParseMap, Tr.val_c, Tr.val_r, bl_length, h1', h0, g0, v, decide_true, decide_false, cond_true, cond_false]; rfl)]
      rw [rmap_loop b 8 (.inl rfl) (by omega) 63 2 (by omega) (by omega) [] (by simp)]
      unfold mapP
      rw [decide_eq_false h1, hx]
      have q : ¬ (((8 * 8 + 1 : Nat) : Int) ≤ IntKind.i64.wrap (8 * ((8 : Nat) : Int))) := by decide
      have z : (((8 : Nat) : Int) == 16) = false := rfl
      exact run_inr (by simp only [M_comptoirref01_ParseMap, Tr.val_c, Tr.val_r, q, z, decide_false, cond_true, cond_false, beq_self_eq_true]; rfl)
    | true =>
      rw [hx] at v
      by_cases h2 : b.length < 16
      · have h2' : (b.length : Int) < 16 := by omega
        unfold mapP
        rw [decide_eq_false h1, hx, decide_eq_true h2]
        exact run_inr (x := (([] : List AV), (0 : Int), (3 : Int))) (by simp only [T_comptoirref01_ParseMap, Tr.val_c, Tr.val_r, bl_length, h1', h0, g0, v, h2', decide_true, decide_false, cond_true, cond_false])
      · have h2' : ¬ (b.length : Int) < 16 := by omega
        rw [run_inl (s := (((16 : Nat) : Int), ((2 : Nat) : Int), il [])) (by simp only [T_comptoirref01_ParseMap, Tr.val_c, Tr.val_r, bl_length, h1', h0, g0, v, h2', decide_true, decide_false, cond_true, cond_false]; rfl)]
        rw [rmap_loop b 16 (.inr rfl) (by omega) 127 2 (by omega) (by omega) [] (by simp), List.nil_append]
        have q : ¬ (((8 * 16 + 1 : Nat) : Int) ≤ IntKind.i64.wrap (8 * ((16 : Nat) : Int))) := by decide
        have z : (((16 : Nat) : Int) == 16) = true := rfl
        have mp : mapP b = bif hasB b 65 || (whichL b 66 63).isEmpty then ([], 0, 6) else (whichL b 2 127, 16, 0) := by
          unfold mapP; rw [decide_eq_false h1, hx, decide_eq_false h2]; rfl
        have mc := map_cond (b := b)
        rw [mp]
        have wl : (whichL b 2 127).length ≤ 127 := by
          rw [whichL, List.length_map]
          have := List.length_filter_le (hasB b) (List.range' 2 127)
          rwa [List.length_range'] at this
        have I := In_eq (whichL b 2 127) 65 (by omega)
        generalize whichL b 2 127 = L at *
        generalize (hasB b 65 || (whichL b 66 63).isEmpty) = c at *
        by_cases a1 : (65 : Int) ∈ L
        · rw [decide_eq_true a1] at I mc
          have hc : c = true := mc.1 (.inl rfl)
          subst hc
          exact run_inr (by simp only [M_comptoirref01_ParseMap, Tr.val_c, Tr.val_r, val_opt, q, z, I, Option.bind_some, decide_false, cond_true, cond_false, beq_self_eq_true]; rfl)
        · rw [decide_eq_false a1] at I mc
          by_cases a2 : L = []
          · have hc : c = true := mc.1 (.inr (.inl a2))
            subst hc a2
            exact run_inr (by simp only [M_comptoirref01_ParseMap, Tr.val_c, Tr.val_r, val_opt, q, z, I, Option.bind_some, decide_false, cond_true, cond_false, beq_self_eq_true]; rfl)
          · have ln : 0 < L.length := by
              rcases Nat.eq_zero_or_pos L.length with h | h
              · exact absurd (List.length_eq_zero_iff.1 h) a2
              · exact h
            have z2 : ((L.length : Int) == 0) = false := beq_eq_false_iff_ne.2 (by omega)
            have w : IntKind.i64.wrap ((L.length : Int) - 1) = ((L.length - 1 : Nat) : Int) := by rw [i64_wrap (by omega) (by omega)]; omega
            have q1 : (0 : Int) ≤ ((L.length - 1 : Nat) : Int) := by omega
            have q2 : ((L.length - 1 : Nat) : Int) < (L.length : Int) := by omega
            have q3 : L.length - 1 < L.length := by omega
            by_cases a3 : L.getD (L.length - 1) 0 < 66
            · have hc : c = true := mc.1 (.inr (.inr a3))
              subst hc
              exact run_inr (by simp only [M_comptoirref01_ParseMap, Tr.val_c, Tr.val_r, val_opt, List.length_map, q, z, I, z2, w, q1, q2, q3, Int.toNat_natCast, il_getD, a3, Option.bind_some, decide_true, decide_false, cond_true, cond_false, beq_self_eq_true]; rfl)
            · have hc : c = false := by
                cases hcc : c with
                | false => rfl
                | true => rcases mc.2 hcc with h | h | h
                          · cases h
                          · exact absurd h a2
                          · exact absurd h a3
              subst hc
              exact run_inr (by simp only [M_comptoirref01_ParseMap, Tr.val_c, Tr.val_r, val_opt, List.length_map, q, z, I, z2, w, q1, q2, q3, Int.toNat_natCast, il_getD, a3, Option.bind_some, decide_true, decide_false, cond_true, cond_false, beq_self_eq_true]; rfl)
theorem set_first (C : List UInt8) (hC : 0 < C.length) : (bl C).set 0 (.int .u8 (bitsA .or .u8 (getI ((bl C).getD 0 (.int .u8 0))) 128)) = bl (setB C 1) := by
  rw [bl_getD, getI_int, ror1_val, setB]; simp only [bl, List.map_set, byte]
theorem set_nth (C : List UInt8) (n : Nat) : (bl C).set ((n - 1) / 8) (.int .u8 (bitsA .or .u8 (getI ((bl C).getD ((n - 1) / 8) (.int .u8 0))) (shrA .u8 128 (((n - 1) % 8 : Nat) : Int)))) = bl (setB C n) := by
  have v := ror_val (C.getD ((n - 1) / 8) 0) ⟨(n - 1) % 8, by omega⟩
  simp only at v
  rw [bl_getD, getI_int, v, setB]; simp only [bl, List.map_set, byte]
theorem setAll_snoc (B : List UInt8) (l : List Int) (n : Int) : setAll B (l ++ [n]) = setB (setAll B l) n.toNat := by simp [setAll]
theorem hasB_zl (k m : Nat) : hasB (zerosL k) m = false := hasB_zeros k m
theorem wide_eq {l : List Int} (h : ∀ x ∈ l, 1 < x ∧ x ≤ 64) : setB (setAll (zerosL 8) l ++ zerosL 8) 1 = setAll (setB (zerosL 16) 1) l := by
  have l1 : (setAll (zerosL 8) l).length = 8 := by rw [setAll_length]; rfl
  refine bits_ext (by rw [setB_length, List.length_append, l1, setAll_length, setB_length]; rfl) fun m h1 h2 => ?_
  rw [setB_length, List.length_append, l1] at h2
  rw [hasB_setB _ 1 m (by omega) h1 (by rw [List.length_append, l1]; decide), Bool.eq_iff_iff, Bool.or_eq_true, decide_eq_true_eq,
    hasB_setAll l _ m (fun x hx => by have := h x hx; rw [setB_length]; simp only [zerosL, List.length_replicate]; omega) h1,
    hasB_setB _ 1 m (by omega) h1 (by simp [zerosL]), hasB_zl 16, Bool.false_or, decide_eq_true_eq]
  rcases Nat.lt_or_ge 64 m with k | k
  · have e : hasB (setAll (zerosL 8) l ++ zerosL 8) m = false := by
      unfold hasB
      rw [List.getD_eq_getElem?_getD, List.getElem?_append_right (by omega), l1]
      unfold zerosL
      rw [List.getElem?_replicate]
      split <;> exact Nat.zero_testBit _
    have e2 : ¬ ((m : Int) ∈ l) := fun hm => by have := (h _ hm).2; omega
    rw [e]
    simp only [Bool.false_eq_true, false_or, e2, or_false]
  · rw [hasB_append _ _ m (by rw [l1]; omega), hasB_setAll l _ m (fun x hx => by have := h x hx; simp only [zerosL, List.length_replicate]; omega) h1, hasB_zl 8]
    simp only [Bool.false_eq_true, false_or]
    exact Or.comm
theorem lastD_take {l : List Int} {i : Nat} (hi : i < l.length) (h0 : 0 < i) : (l.take i).getLastD 1 = l[i - 1] := by
  have : l.take i = l.take (i - 1) ++ [l[i - 1]] := by
    rw [← List.take_succ_eq_append_getElem (show i - 1 < l.length by omega)]; congr 1; omega
  rw [this, List.getLastD_concat]
theorem rises_snoc : ∀ (l : List Int) (was n : Int), rises was (l ++ [n]) = (rises was l && decide (l.getLastD was < n) && decide (n ≤ 128) && decide (n ≠ 65))
  | [], was, n => by simp [rises]
  | a :: l, was, n => by
    rw [List.cons_append, rises, rises, rises_snoc l a n, List.getLastD_cons]
    simp only [Bool.and_assoc]
theorem rises_pre : ∀ (l l2 : List Int) (was : Int), rises was l = false → rises was (l ++ l2) = false
  | [], _, _, h => by cases h
  | a :: l, l2, was, h => by
    rw [rises] at h
    rw [List.cons_append, rises]
    cases h1 : (decide (was < a) && decide (a ≤ 128) && decide (a ≠ 65)) with
    | false => rfl
    | true => rw [h1, Bool.true_and] at h; rw [rises_pre l l2 a h]; rfl
theorem raw_snoc {l : List Int} {n : Int} (hr : rises 1 l = true) (hn : l.getLastD 1 < n) : rawW (l ++ [n]) = bif decide (n > 64) && !bigL l then setB (setB (rawW l ++ zerosL 8) 1) n.toNat else setB (rawW l) n.toNat := by
  have bs : bigL (l ++ [n]) = decide (n > 64) := by unfold bigL; rw [List.getLastD_concat]
  unfold rawW
  rw [bs]
  cases hb : bigL l with
  | true =>
    have : n > 64 := by have : l.getLastD 1 > 64 := by simpa [bigL] using hb
                        omega
    rw [decide_eq_true this]
    simp only [cond_true, Bool.not_true, Bool.and_false, cond_false, setAll_snoc]
  | false =>
    have hs : l.getLastD 1 ≤ 64 := by simpa [bigL] using hb
    by_cases h : n > 64
    · rw [decide_eq_true h]
      simp only [cond_true, Bool.not_false, Bool.and_true, cond_false, setAll_snoc]
      rw [wide_eq fun x hx => ⟨(rises_gt hr x hx).1, by have := rises_last hr x hx; omega⟩]
    · rw [decide_eq_false h]
      simp only [Bool.false_and, cond_false, setAll_snoc]
theorem zeros_app (B : List UInt8) : bl B ++ [.int .u8 0, .int .u8 0, .int .u8 0, .int .u8 0, .int .u8 0, .int .u8 0, .int .u8 0, .int .u8 0] = bl (B ++ zerosL 8) := by rw [bl_append]; rfl
theorem refWriteMap_eq (l : List Int) (hl : l.length < 1000000) : g_comptoirref01_WriteMap (il l) = some (bl (mapW l).1, (mapW l).2) := by
  have key : ∀ (k i : Nat), i + k = l.length → rises 1 (l.take i) = true → run (M_comptoirref01_WriteMap (il l)) (M_comptoirref01_WriteMap (il l) ((i : Int), bl (rawW (l.take i)))) = some (bl (mapW l).1, (mapW l).2) := by
    intro k
    induction k with
    | zero =>
      intro i hi hr
      have : i = l.length := by omega
      subst this
      have q1 : ¬ ((l.length : Int) < l.length) := by omega
      rw [List.take_length] at hr ⊢
      rw [show mapW l = (rawW l, 0) by unfold mapW; rw [hr]; rfl]
      exact run_inr (by simp only [M_comptoirref01_WriteMap, Tr.val_c, Tr.val_r, List.length_map, q1, decide_false, cond_false, beq_self_eq_true, cond_true])
    | succ k ih =>
      intro i hi hr
      have hlt : i < l.length := by omega
      have q1 : (i : Int) < l.length := by omega
      have q2 : (0 : Int) ≤ (i : Int) := by omega
      have w1 : IntKind.i64.wrap ((i : Int) + 1) = ((i + 1 : Nat) : Int) := by rw [i64_wrap (by omega) (by omega)]; omega
      have g : l.getD i 0 = l[i] := getDI_lt hlt
      have ts : l.take (i + 1) = l.take i ++ [l[i]] := List.take_succ_eq_append_getElem hlt
      have rs : rises 1 (l.take (i + 1)) = (rises 1 (l.take i) && decide ((l.take i).getLastD 1 < l[i]) && decide (l[i] ≤ 128) && decide (l[i] ≠ 65)) := by rw [ts]; exact rises_snoc _ _ _
      rw [hr, Bool.true_and] at rs
      have bad : rises 1 (l.take (i + 1)) = false → mapW l = ([], 1) := fun h => by
        have := rises_pre (l.take (i + 1)) (l.drop (i + 1)) 1 h
        rw [List.take_append_drop] at this
        unfold mapW; rw [this]; rfl
      have fst : i = 0 → (l.take i).getLastD 1 = 1 := by rintro rfl; rfl
      have prev : 0 < i → (l.take i).getLastD 1 = l[i - 1] := lastD_take hlt
      have prev1 : 0 < i → 1 < l[i - 1] := fun h0 => by
        rw [← prev h0]
        rcases getLastD_mem (l := l.take i) (d := 1) with e | e
        · exact (rises_gt hr _ e).1
        · have := congrArg List.length e; rw [List.length_take, List.length_nil] at this; omega
      by_cases a1 : l[i] < 2
      · have : rises 1 (l.take (i + 1)) = false := by
          rw [rs, decide_eq_false (show ¬ (l.take i).getLastD 1 < l[i] by
            rcases Nat.eq_zero_or_pos i with h | h
            · rw [fst h]; omega
            · rw [prev h]; have := prev1 h; omega)]; rfl
        rw [bad this]
        exact run_inr (by simp only [M_comptoirref01_WriteMap, Tr.val_c, Tr.val_r, List.length_map, q1, q2, Int.toNat_natCast, il_getD, g, a1, decide_true, cond_true]; rfl)
      by_cases a2 : l[i] > 128
      · have : rises 1 (l.take (i + 1)) = false := by rw [rs, decide_eq_false (show ¬ l[i] ≤ 128 by omega), Bool.and_false, Bool.false_and]
        rw [bad this]
        exact run_inr (by simp only [M_comptoirref01_WriteMap, Tr.val_c, Tr.val_r, List.length_map, q1, q2, Int.toNat_natCast, il_getD, g, a1, a2, decide_true, decide_false, cond_true, cond_false]; rfl)
      by_cases a3 : l[i] = 65
      · have : rises 1 (l.take (i + 1)) = false := by rw [rs, decide_eq_false (show ¬ l[i] ≠ 65 by omega), Bool.and_false]
        rw [bad this]
        exact run_inr (by simp only [M_comptoirref01_WriteMap, Tr.val_c, Tr.val_r, List.length_map, q1, q2, Int.toNat_natCast, il_getD, g, a3, show ¬ ((65 : Int) < 2) by decide, show ¬ ((65 : Int) > 128) by decide, beq_self_eq_true, decide_true, decide_false, cond_true, cond_false]; rfl)
      have a3' : (l[i] == 65) = false := by simpa using a3
      have e : l[i] = ((l[i].toNat : Nat) : Int) := by omega
      obtain ⟨e1, e2⟩ := rbit_at (n := l[i].toNat) (by omega) (by omega)
      rw [← e] at e1 e2
      have r1 : (0 : Int) ≤ (((l[i].toNat - 1) / 8 : Nat) : Int) := by omega
      have r3 : (0 : Int) ≤ (((l[i].toNat - 1) % 8 : Nat) : Int) := by omega
      -- a rising one
      have good : (l.take i).getLastD 1 < l[i] → (M_comptoirref01_WriteMap (il l) ((i : Int), bl (rawW (l.take i)))).val = some (.inl (((i + 1 : Nat) : Int), bl (rawW (l.take (i + 1))))) := fun hn => by
        have sn := raw_snoc hr hn
        rw [← ts] at sn
        have rl := rawW_length (l.take i)
        generalize rawW (l.take i) = B at rl sn
        have wi : i > 0 → IntKind.i64.wrap ((i : Int) - 1) = ((i - 1 : Nat) : Int) := fun h => by rw [i64_wrap (by omega) (by omega)]; omega
        have lz : (zerosL 8).length = 8 := rfl
        by_cases b1 : l[i] > 64
        · rw [decide_eq_true b1, Bool.true_and] at sn
          cases hb : bigL (l.take i) with
          | true =>
            rw [hb] at rl sn
            simp only [cond_true] at rl
            simp only [Bool.not_true, cond_false] at sn
            have z8 : ((B.length : Int) == 8) = false := beq_eq_false_iff_ne.2 (by omega)
            have r2 : (((l[i].toNat - 1) / 8 : Nat) : Int) < (B.length : Int) := by omega
            have r4 : (l[i].toNat - 1) / 8 < B.length := by omega
            have sl := setB_length B l[i].toNat
            by_cases c0 : (i : Int) > 0
            · have i0 : 0 < i := by omega
              have w2 := wi i0
              have t1 : (0 : Int) ≤ ((i - 1 : Nat) : Int) := by omega
              have t2 : ((i - 1 : Nat) : Int) < (l.length : Int) := by omega
              have g2 : l.getD (i - 1) 0 = l[i - 1] := getDI_lt (by omega)
              have t3 : ¬ l[i] ≤ l[i - 1] := by rw [← prev i0]; omega
              simp only [M_comptoirref01_WriteMap, Tr.val_c, Tr.val_r, List.length_map, q1, q2, Int.toNat_natCast, il_getD, g, a1, a2, a3', c0, w2, t1, t2, g2, t3, b1, bl_length, z8, e1, e2, r1, r2, r3, r4, set_nth, sl, sn, w1, decide_true, decide_false, cond_true, cond_false, beq_self_eq_true]
            · simp only [M_comptoirref01_WriteMap, Tr.val_c, Tr.val_r, List.length_map, q1, q2, Int.toNat_natCast, il_getD, g, a1, a2, a3', c0, b1, bl_length, z8, e1, e2, r1, r2, r3, r4, set_nth, sl, sn, w1, decide_true, decide_false, cond_true, cond_false, beq_self_eq_true]
          | false =>
            rw [hb] at rl sn
            simp only [cond_false] at rl
            simp only [Bool.not_false, cond_true] at sn
            have z8 : ((B.length : Int) == 8) = true := beq_iff_eq.2 (by omega)
            have l16 : (B ++ zerosL 8).length = 16 := by rw [List.length_append, lz, rl]
            have sf := set_first (B ++ zerosL 8) (by omega)
            have s1 := setB_length (B ++ zerosL 8) 1
            have s2 := setB_length (setB (B ++ zerosL 8) 1) l[i].toNat
            have ll : 16 * 2 < 70368744177664 := by decide
            have lo : (0 : Int) < ((16 : Nat) : Int) := by decide
            have lo2 : 0 < 16 := by decide
            have r2 : (((l[i].toNat - 1) / 8 : Nat) : Int) < ((16 : Nat) : Int) := by omega
            have r4 : (l[i].toNat - 1) / 8 < 16 := by omega
            rw [l16] at s1
            rw [s1] at s2
            by_cases c0 : (i : Int) > 0
            · have i0 : 0 < i := by omega
              have w2 := wi i0
              have t1 : (0 : Int) ≤ ((i - 1 : Nat) : Int) := by omega
              have t2 : ((i - 1 : Nat) : Int) < (l.length : Int) := by omega
              have g2 : l.getD (i - 1) 0 = l[i - 1] := getDI_lt (by omega)
              have t3 : ¬ l[i] ≤ l[i - 1] := by rw [← prev i0]; omega
              simp only [M_comptoirref01_WriteMap, Tr.val_c, Tr.val_r, List.length_map, q1, q2, Int.toNat_natCast, il_getD, g, a1, a2, a3', c0, w2, t1, t2, g2, t3, b1, zeros_app, bl_length, z8, l16, ll, lo, lo2, sf, s1, s2, e1, e2, r1, r2, r3, r4, set_nth, sn, w1, decide_true, decide_false, cond_true, cond_false, beq_self_eq_true]
            · simp only [M_comptoirref01_WriteMap, Tr.val_c, Tr.val_r, List.length_map, q1, q2, Int.toNat_natCast, il_getD, g, a1, a2, a3', c0, b1, zeros_app, bl_length, z8, l16, ll, lo, lo2, sf, s1, s2, e1, e2, r1, r2, r3, r4, set_nth, sn, w1, decide_true, decide_false, cond_true, cond_false, beq_self_eq_true]
        · rw [decide_eq_false b1, Bool.false_and, cond_false] at sn
          have r2 : (((l[i].toNat - 1) / 8 : Nat) : Int) < (B.length : Int) := by rw [rl]; cases bigL (l.take i) <;> simp <;> omega
          have r4 : (l[i].toNat - 1) / 8 < B.length := by omega
          have sl := setB_length B l[i].toNat
          by_cases c0 : (i : Int) > 0
          · have i0 : 0 < i := by omega
            have w2 := wi i0
            have t1 : (0 : Int) ≤ ((i - 1 : Nat) : Int) := by omega
            have t2 : ((i - 1 : Nat) : Int) < (l.length : Int) := by omega
            have g2 : l.getD (i - 1) 0 = l[i - 1] := getDI_lt (by omega)
            have t3 : ¬ l[i] ≤ l[i - 1] := by rw [← prev i0]; omega
            simp only [M_comptoirref01_WriteMap, Tr.val_c, Tr.val_r, List.length_map, q1, q2, Int.toNat_natCast, il_getD, g, a1, a2, a3', c0, w2, t1, t2, g2, t3, b1, bl_length, e1, e2, r1, r2, r3, r4, set_nth, sl, sn, w1, decide_true, decide_false, cond_true, cond_false, beq_self_eq_true]
          · simp only [M_comptoirref01_WriteMap, Tr.val_c, Tr.val_r, List.length_map, q1, q2, Int.toNat_natCast, il_getD, g, a1, a2, a3', c0, b1, bl_length, e1, e2, r1, r2, r3, r4, set_nth, sl, sn, w1, decide_true, decide_false, cond_true, cond_false, beq_self_eq_true]
      by_cases hn : (l.take i).getLastD 1 < l[i]
      · rw [run_inl (good hn)]
        exact ih (i + 1) (by omega) (by rw [rs, decide_eq_true hn, decide_eq_true (show l[i] ≤ 128 by omega), decide_eq_true a3]; rfl)
      · have : rises 1 (l.take (i + 1)) = false := by rw [rs, decide_eq_false hn]; rfl
        rw [bad this]
        have i0 : 0 < i := by
          rcases Nat.eq_zero_or_pos i with h | h
          · rw [fst h] at hn; omega
          · exact h
        have c0 : (i : Int) > 0 := by omega
        have w2 : IntKind.i64.wrap ((i : Int) - 1) = ((i - 1 : Nat) : Int) := by rw [i64_wrap (by omega) (by omega)]; omega
        have t1 : (0 : Int) ≤ ((i - 1 : Nat) : Int) := by omega
        have t2 : ((i - 1 : Nat) : Int) < (l.length : Int) := by omega
        have g2 : l.getD (i - 1) 0 = l[i - 1] := getDI_lt (by omega)
        have t3 : l[i] ≤ l[i - 1] := by rw [← prev i0]; omega
        exact run_inr (by simp only [M_comptoirref01_WriteMap, Tr.val_c, Tr.val_r, List.length_map, q1, q2, Int.toNat_natCast, il_getD, g, a1, a2, a3', c0, w2, t1, t2, g2, t3, decide_true, decide_false, cond_true, cond_false]; rfl)
  unfold g_comptoirref01_WriteMap
  rw [run_inl (s := (((0 : Nat) : Int), bl (rawW (l.take 0)))) rfl]
  exact key l.length 0 (by omega) rfl
theorem digits_pos (v : Nat) : 1 ≤ (Go.Lib.decDigits v).length := by
  rw [Go.Lib.decDigits]; split <;> simp
theorem rep48 (k : Nat) : Go.Lib.repeatL [48] k = List.replicate k 48 := by
  induction k with
  | zero => rfl
  | succ k ih => rw [Go.Lib.repeatL, ih, List.replicate_succ]; rfl
def textS (v : Nat) (w : Int) : List UInt8 × Int :=
  if w < 1 ∨ 20 < w then ([], 1) else if w < (Go.Lib.decDigits v).length then ([], 4) else (List.replicate (w - (Go.Lib.decDigits v).length).toNat 48 ++ Go.Lib.decDigits v, 0)
theorem Text_eq (v : Nat) (hv : v < 18446744073709551616) (w : Int) : g_digits_Text (v : Int) w = some (textS v w) := by
  unfold g_digits_Text textS
  have q0 : (0 : Int) ≤ (v : Int) := by omega
  have q1 : (v : Int) < 18446744073709551616 := by omega
  have d := digits_pos v
  have d2 := nDigits_le v hv
  by_cases h1 : w < 1
  · rw [if_pos (.inl h1)]
    simp only [T_digits_Text, Tr.val_c, Tr.val_r, h1, decide_true, cond_true]
  · by_cases h2 : w > 20
    · rw [if_pos (.inr h2)]
      simp only [T_digits_Text, Tr.val_c, Tr.val_r, h1, h2, decide_true, decide_false, cond_true, cond_false]
    · rw [if_neg (by omega)]
      by_cases h3 : ((Go.Lib.decDigits v).length : Int) > w
      · rw [if_pos (by omega)]
        simp only [T_digits_Text, Tr.val_c, Tr.val_r, h1, h2, q0, q1, Int.toNat_natCast, h3, decide_true, decide_false, cond_true, cond_false]
      · rw [if_neg (by omega)]
        have w1 : IntKind.i64.wrap (w - ((Go.Lib.decDigits v).length : Int)) = w - ((Go.Lib.decDigits v).length : Int) := i64_wrap (by omega) (by omega)
        have q2 : (0 : Int) ≤ w - ((Go.Lib.decDigits v).length : Int) := by omega
        have q3 : w - ((Go.Lib.decDigits v).length : Int) ≤ 1000000000 := by omega
        have q4 : (List.replicate (w - ((Go.Lib.decDigits v).length : Int)).toNat (48 : UInt8)).length + (Go.Lib.decDigits v).length < 70368744177664 := by rw [List.length_replicate]; omega
        simp only [T_digits_Text, Tr.val_c, Tr.val_r, h1, h2, q0, q1, Int.toNat_natCast, h3, w1, q2, q3, rep48, q4, decide_true, decide_false, cond_true, cond_false]
abbrev tens : List UInt8 := [48, 49, 50, 51, 52, 53, 54, 55, 56, 57]
abbrev sixteens : List UInt8 := [48, 49, 50, 51, 52, 53, 54, 55, 56, 57, 65, 66, 67, 68, 69, 70]
def dig (c : UInt8) : Bool := decide (48 ≤ c.toNat) && decide (c.toNat ≤ 57)
def hexd (c : UInt8) : Bool := dig c || (decide (65 ≤ c.toNat) && decide (c.toNat ≤ 70))
theorem has_tens (c : UInt8) : decide (Go.Lib.indexByte tens c ≥ 0) = dig c :=
  all_bytes (p := fun c => decide (Go.Lib.indexByte tens c ≥ 0) = dig c) (by decide +kernel) c
theorem all_tens (s : List UInt8) (hs : s.length < 9223372036854775807) : g_digits_all_0fhas_ s tens = some (s.all dig) := by
  unfold g_digits_all_0fhas_
  rw [run_inl (s := (0 : Int)) rfl]
  have := run_exit (step := M_digits_all_0fhas_ s tens) (f := fun i => (i : Int)) (p := fun i => dig (s.getD i 0)) (n := s.length) (e := false) (z := true) (fun i hi => by
    simp (disch := omega) [M_digits_all_0fhas_, Tr.val_c, Tr.val_r, hi, i64_wrap, has_tens]
    cases dig _ <;> rfl) (by
    simp [M_digits_all_0fhas_, Tr.val_c, Tr.val_r])
  exact this.trans (by rw [range_all s 0 dig]; cases s.all dig <;> rfl)
def right (s : List UInt8) (lo hi : Int) : Bool := decide (lo ≤ s.length) && decide ((s.length : Int) ≤ hi) && s.all dig
theorem Right_eq (s : List UInt8) (lo hi : Int) (hs : s.length < 9223372036854775807) : g_digits_Right s lo hi = some (right s lo hi) := by
  simp only [g_digits_Right, T_digits_Right, Tr.val_c, val_opt, all_tens s hs, Tr.val_r, right, Option.bind_some, cond_true, ge_iff_le]
  by_cases h1 : lo ≤ s.length <;> by_cases h2 : (s.length : Int) ≤ hi <;> simp [h1, h2]
theorem take_one (s : List UInt8) (i : Nat) (h : i < s.length) : s.take (i + 1) = s.take i ++ [s.getD i 0] := by
  rw [List.take_succ_eq_append_getElem h, getD_lt h]
def pairs : List UInt8 → List (UInt8 × UInt8)
  | a :: b :: r => (a, b) :: pairs r
  | _ => []
theorem pairs_take : ∀ (s : List UInt8) (i : Nat), 2 * i + 1 < s.length → (pairs s).take (i + 1) = (pairs s).take i ++ [(s.getD (2 * i) 0, s.getD (2 * i + 1) 0)]
  | a :: b :: r, 0, _ => by simp [pairs]
  | a :: b :: r, i + 1, h => by
    have := pairs_take r i (by simp at h; omega)
    rw [pairs, List.take_succ_cons, this, List.take_succ_cons]
    rw [show 2 * (i + 1) = 2 * i + 1 + 1 by omega]
    simp
  | [a], i, h => by simp at h
  | [], i, h => by simp at h
theorem pairs_len : ∀ (s : List UInt8), (pairs s).length = s.length / 2
  | a :: b :: r => by simp [pairs, pairs_len r]; omega
  | [a] => by simp [pairs]
  | [] => by simp [pairs]
def numG (v : Int) (c : UInt8) : Int := IntKind.u64.wrap (IntKind.u64.wrap (v * 10) + IntKind.u64.wrap (IntKind.u8.wrap ((c.toNat : Int) - 48)))
def numV (s : List UInt8) : Int := s.foldl numG 0
theorem numV_take (s : List UInt8) (i : Nat) (h : i < s.length) : numV (s.take (i + 1)) = numG (numV (s.take i)) (s.getD i 0) := by
  rw [take_one s i h]; simp [numV]
def numS (s : List UInt8) : Int × Int := if right s 1 18 = true then (numV s, 0) else (0, 5)
theorem Number_eq (s : List UInt8) (hs : s.length < 9223372036854775807) : g_digits_Number s = some (numS s) := by
  unfold g_digits_Number numS
  cases hr : right s 1 18 with
  | false => rw [run_inr (x := (0, 5))]; rfl; simp [T_digits_Number, Tr.val_c, Tr.val_r, val_opt, Right_eq s _ _ hs, hr]
  | true =>
    rw [run_inl (s := (0, 0)) (by simp [T_digits_Number, Tr.val_c, Tr.val_r, val_opt, Right_eq s _ _ hs, hr])]
    have := run_until (step := M_digits_Number s) (f := fun i => (numV (s.take i), (i : Int))) (n := s.length) (x := (numV s, 0)) (fun i hi => by
      simp (disch := omega) [M_digits_Number, Tr.val_c, Tr.val_r, hi, i64_wrap, numV_take s i hi, numG]) (by
      simp [M_digits_Number, Tr.val_c, Tr.val_r])
    rw [if_pos rfl]; simpa [numV] using this
theorem refRight_eq (s : List UInt8) (lo hi : Int) (hs : s.length < 9223372036854775808) : g_comptoirref01_Right s lo hi = some (right s lo hi) := by
  unfold g_comptoirref01_Right
  rw [run_inl (s := (0 : Int)) rfl]
  have := run_exit (step := M_comptoirref01_Right s lo hi) (f := fun i => (i : Int)) (p := fun i => dig (s.getD i 0)) (n := s.length) (e := false) (z := decide (lo ≤ s.length) && decide ((s.length : Int) ≤ hi)) (fun i hi' => by
    have q1 : (i : Int) < s.length := by omega
    have q2 : (0 : Int) ≤ i := by omega
    have w1 : IntKind.i64.wrap ((i : Int) + 1) = ((i + 1 : Nat) : Int) := by rw [i64_wrap (by omega) (by omega)]; rfl
    by_cases a1 : (s.getD i 0).toNat < 48
    · have a2 : ((s.getD i 0).toNat : Int) < 48 := by omega
      have d : dig (s.getD i 0) = false := by simp only [dig, Bool.and_eq_false_iff, decide_eq_false_iff_not]; omega
      simp only [M_comptoirref01_Right, Tr.val_c, Tr.val_r, q1, q2, Int.toNat_natCast, a2, decide_true, cond_true, d, Bool.false_eq_true, if_false]
    · have a2 : ¬ ((s.getD i 0).toNat : Int) < 48 := by omega
      by_cases a3 : (s.getD i 0).toNat > 57
      · have a4 : ((s.getD i 0).toNat : Int) > 57 := by omega
        have d : dig (s.getD i 0) = false := by simp only [dig, Bool.and_eq_false_iff, decide_eq_false_iff_not]; omega
        simp only [M_comptoirref01_Right, Tr.val_c, Tr.val_r, q1, q2, Int.toNat_natCast, a2, a4, decide_true, decide_false, cond_true, cond_false, d, Bool.false_eq_true, if_false]
      · have a4 : ¬ ((s.getD i 0).toNat : Int) > 57 := by omega
        have d : dig (s.getD i 0) = true := by simp only [dig, Bool.and_eq_true, decide_eq_true_eq]; omega
        simp only [M_comptoirref01_Right, Tr.val_c, Tr.val_r, q1, q2, Int.toNat_natCast, a2, a4, w1, decide_true, decide_false, cond_true, cond_false, d, if_true]) (by
    have q1 : ¬ ((s.length : Int) < s.length) := by omega
    by_cases h1 : lo ≤ s.length
    · simp only [M_comptoirref01_Right, Tr.val_c, Tr.val_r, q1, h1, ge_iff_le, decide_true, decide_false, cond_true, cond_false, Bool.true_and]
    · simp only [M_comptoirref01_Right, Tr.val_c, Tr.val_r, q1, h1, ge_iff_le, decide_true, decide_false, cond_true, cond_false, Bool.false_and])
  refine this.trans ?_
  rw [range_all s 0 dig, right]
  cases s.all dig <;> simp
theorem refNumber_eq (s : List UInt8) (hs : s.length < 9223372036854775807) : g_comptoirref01_Number s = some (numS s) := by
  rw [← Number_eq s hs]
  have hs2 : s.length < 9223372036854775808 := by omega
  show run (M_comptoirref01_Number s) (T_comptoirref01_Number s) = run (M_digits_Number s) (T_digits_Number s)
  have e : T_comptoirref01_Number s = T_digits_Number s := by unfold T_comptoirref01_Number T_digits_Number; rw [refRight_eq s _ _ (by omega), Right_eq s _ _ hs]
  rw [e]; rfl
theorem refDigits_eq (v : Nat) (hv : v < 18446744073709551616) (w : Int) : g_comptoirref01_Digits (v : Int) w = some (textS v w) := by
  unfold g_comptoirref01_Digits textS
  have q0 : (0 : Int) ≤ (v : Int) := by omega
  have q1 : (v : Int) < 18446744073709551616 := by omega
  have d := digits_pos v
  have d2 := nDigits_le v hv
  by_cases h1 : w < 1
  · rw [if_pos (.inl h1)]
    exact run_inr (by simp only [T_comptoirref01_Digits, Tr.val_c, Tr.val_r, h1, decide_true, cond_true])
  · by_cases h2 : w > 20
    · rw [if_pos (.inr h2)]
      exact run_inr (by simp only [T_comptoirref01_Digits, Tr.val_c, Tr.val_r, h1, h2, decide_true, decide_false, cond_true, cond_false])
    · rw [if_neg (by omega)]
      by_cases h3 : ((Go.Lib.decDigits v).length : Int) > w
      · rw [if_pos (by omega)]
        exact run_inr (by simp only [T_comptoirref01_Digits, Tr.val_c, Tr.val_r, h1, h2, q0, q1, Int.toNat_natCast, h3, decide_true, decide_false, cond_true, cond_false])
      · rw [if_neg (by omega)]
        rw [run_inl (s := Go.Lib.decDigits v) (by simp only [T_comptoirref01_Digits, Tr.val_c, Tr.val_r, h1, h2, q0, q1, Int.toNat_natCast, h3, decide_true, decide_false, cond_true, cond_false])]
        generalize Go.Lib.decDigits v = D at *
        have := run_until (step := M_comptoirref01_Digits (v : Int) w) (f := fun i => List.replicate i (48 : UInt8) ++ D) (n := (w - D.length).toNat) (x := (List.replicate (w - D.length).toNat 48 ++ D, 0)) (fun i hi => by
          have a : ((List.replicate i (48 : UInt8) ++ D).length : Int) < w := by rw [List.length_append, List.length_replicate]; omega
          have b : 1 + (List.replicate i (48 : UInt8) ++ D).length < 70368744177664 := by rw [List.length_append, List.length_replicate]; omega
          simp only [M_comptoirref01_Digits, Tr.val_c, Tr.val_r, a, b, decide_true, cond_true]
          rfl) (by
          have a : ¬ ((List.replicate (w - D.length).toNat (48 : UInt8) ++ D).length : Int) < w := by rw [List.length_append, List.length_replicate]; omega
          simp only [M_comptoirref01_Digits, Tr.val_c, Tr.val_r, a, decide_false, cond_false])
        exact this
def numN (s : List UInt8) : Nat := s.foldl (fun a c => a * 10 + (c.toNat - 48)) 0
theorem numN_snoc (s : List UInt8) (c : UInt8) : numN (s ++ [c]) = numN s * 10 + (c.toNat - 48) := by simp [numN]
theorem dig_range {c : UInt8} (h : dig c = true) : 48 ≤ c.toNat ∧ c.toNat ≤ 57 := by simpa [dig] using h
theorem numV_N : ∀ (n : Nat) (s : List UInt8), s.length = n → n ≤ 18 → s.all dig = true → numV s = (numN s : Int) ∧ numN s < 10 ^ n
  | 0, s, h, _, _ => by obtain rfl := List.length_eq_zero_iff.1 h; exact ⟨rfl, by decide⟩
  | n + 1, s, h, hn, hd => by
    have e : s = s.take n ++ [s.getD n 0] := by rw [← take_one s n (by omega), ← h, List.take_length]
    generalize ht : s.take n = t at e
    have lt : t.length = n := by rw [← ht, List.length_take]; omega
    generalize s.getD n 0 = c at e
    subst e
    rw [List.all_append] at hd
    have hd' := Bool.and_eq_true_iff.1 hd
    obtain ⟨i1, i2⟩ := numV_N n t lt (by omega) hd'.1
    have r := dig_range (by simpa using hd'.2)
    have p : 10 ^ n ≤ 10 ^ 17 := Nat.pow_le_pow_right (by omega) (by omega)
    have p2 : 10 ^ (n + 1) = 10 ^ n * 10 := Nat.pow_succ 10 n
    constructor
    · have : numV (t ++ [c]) = numG (numV t) c := by simp [numV]
      rw [this, numN_snoc, i1]
      unfold numG
      simp only [u8_mod, u64_mod]
      omega
    · rw [numN_snoc]; omega
theorem numN_decDigits (v : Nat) : numN (Go.Lib.decDigits v) = v ∧ (Go.Lib.decDigits v).all dig = true := by
  induction v using Nat.strongRecOn with
  | _ v ih =>
    have dg : ∀ k : Fin 10, dig (UInt8.ofNat (48 + k.val)) = true ∧ (UInt8.ofNat (48 + k.val)).toNat - 48 = k.val := by decide +kernel
    rw [Go.Lib.decDigits]
    by_cases h : v < 10
    · rw [dif_pos h]
      have := dg ⟨v, h⟩
      simp only [numN, List.foldl_cons, List.foldl_nil, List.all_cons, List.all_nil, this.1, this.2]
      exact ⟨by omega, rfl⟩
    · rw [dif_neg h]
      obtain ⟨i1, i2⟩ := ih (v / 10) (by omega)
      have := dg ⟨v % 10, by omega⟩
      have k : (UInt8.ofNat (48 + v % 10)).toNat - 48 = v % 10 := this.2
      rw [numN_snoc, i1, List.all_append, i2, k]
      exact ⟨by omega, by simpa using this.1⟩
theorem numN_zeros (k : Nat) (s : List UInt8) : numN (List.replicate k 48 ++ s) = numN s := by
  induction k with
  | zero => rfl
  | succ k ih => rw [List.replicate_succ, List.cons_append, numN, List.foldl_cons]; exact ih
theorem text_back (v : Nat) (hv : v < 1000000000000000000) (w : Int) (h1 : 1 ≤ w) (h2 : w ≤ 18) (he : (textS v w).2 = 0) : numS (textS v w).1 = ((v : Int), 0) ∧ ((textS v w).1.length : Int) = w := by
  unfold textS at *
  rw [if_neg (by omega)] at *
  by_cases h : w < (Go.Lib.decDigits v).length
  · rw [if_pos h] at he; cases he
  · rw [if_neg h]
    have l : ((List.replicate (w - ((Go.Lib.decDigits v).length : Int)).toNat (48 : UInt8) ++ Go.Lib.decDigits v).length : Int) = w := by rw [List.length_append, List.length_replicate]; omega
    refine ⟨?_, l⟩
    obtain ⟨i1, i2⟩ := numN_decDigits v
    have ad : (List.replicate (w - ((Go.Lib.decDigits v).length : Int)).toNat (48 : UInt8) ++ Go.Lib.decDigits v).all dig = true := by
      rw [List.all_append, i2, Bool.and_true, List.all_eq_true]
      intro c hc; rw [List.eq_of_mem_replicate hc]; rfl
    have rt : right (List.replicate (w - ((Go.Lib.decDigits v).length : Int)).toNat (48 : UInt8) ++ Go.Lib.decDigits v) 1 18 = true := by
      unfold right
      rw [ad, l, decide_eq_true h1, decide_eq_true h2]; rfl
    show numS (List.replicate (w - ((Go.Lib.decDigits v).length : Int)).toNat (48 : UInt8) ++ Go.Lib.decDigits v) = _
    unfold numS
    rw [if_pos rt]
    have := (numV_N _ _ rfl (by omega) ad).1
    rw [this, numN_zeros, i1]
def fmtsL : List (Int × Int × Int × Int) := [(2, 1, 2, 19), (4, 1, 0, 12), (11, 1, 0, 6), (12, 1, 0, 14), (22, 1, 0, 3), (25, 1, 0, 4), (32, 1, 2, 11), (37, 2, 0, 12), (38, 2, 0, 6), (39, 1, 0, 3), (41, 3, 0, 8), (42, 3, 0, 15), (43, 3, 2, 40), (48, 3, 3, 8), (49, 1, 0, 3), (55, 4, 3, 255), (56, 1, 0, 20), (60, 3, 3, 100), (61, 3, 3, 100), (62, 3, 3, 100), (63, 3, 3, 100), (102, 3, 2, 28), (103, 3, 2, 28), (120, 4, 4, 999)]
def fmtF (no : Int) : Int × Int × Int × Int × Bool := match fmtsL.find? (fun x => x.1 == no) with
  | some x => (x.1, x.2.1, x.2.2.1, x.2.2.2, true)
  | none => (0, 0, 0, 0, false)
abbrev numsL : List Int := [2, 4, 11, 12, 22, 25, 32, 37, 38, 39, 41, 42, 43, 48, 49, 55, 56, 60, 61, 62, 63, 102, 103, 120]
theorem fmtF_none {no : Int} (h : no ∉ numsL) : fmtF no = (0, 0, 0, 0, false) := by
  have : fmtsL.find? (fun x => x.1 == no) = none := by
    rw [List.find?_eq_none]
    intro x hx
    have : x.1 ∈ numsL := (show ∀ x ∈ fmtsL, x.1 ∈ numsL by decide) x hx
    intro e
    exact h (by rwa [← beq_iff_eq.1 e])
  rw [fmtF, this]
theorem Of_eq (no : Int) : g_element_Of no = some (fmtF no) := by
  by_cases h : no ∈ numsL
  · simp only [numsL, List.mem_cons, List.not_mem_nil, or_false] at h
    rcases h with rfl | rfl | rfl | rfl | rfl | rfl | rfl | rfl | rfl | rfl | rfl | rfl | rfl | rfl | rfl | rfl | rfl | rfl | rfl | rfl | rfl | rfl | rfl | rfl <;> rfl
  · rw [fmtF_none h]
    simp only [numsL, List.mem_cons, List.not_mem_nil, or_false, not_or] at h
    obtain ⟨h2, h4, h11, h12, h22, h25, h32, h37, h38, h39, h41, h42, h43, h48, h49, h55, h56, h60, h61, h62, h63, h102, h103, h120⟩ := h
    have e2 : (no == 2) = false := by simpa using h2
    have e4 : (no == 4) = false := by simpa using h4
    have e11 : (no == 11) = false := by simpa using h11
    have e12 : (no == 12) = false := by simpa using h12
    have e22 : (no == 22) = false := by simpa using h22
    have e25 : (no == 25) = false := by simpa using h25
    have e32 : (no == 32) = false := by simpa using h32
    have e37 : (no == 37) = false := by simpa using h37
    have e38 : (no == 38) = false := by simpa using h38
    have e39 : (no == 39) = false := by simpa using h39
    have e41 : (no == 41) = false := by simpa using h41
    have e42 : (no == 42) = false := by simpa using h42
    have e43 : (no == 43) = false := by simpa using h43
    have e48 : (no == 48) = false := by simpa using h48
    have e49 : (no == 49) = false := by simpa using h49
    have e55 : (no == 55) = false := by simpa using h55
    have e56 : (no == 56) = false := by simpa using h56
    have e60 : (no == 60) = false := by simpa using h60
    have e61 : (no == 61) = false := by simpa using h61
    have e62 : (no == 62) = false := by simpa using h62
    have e63 : (no == 63) = false := by simpa using h63
    have e102 : (no == 102) = false := by simpa using h102
    have e103 : (no == 103) = false := by simpa using h103
    have e120 : (no == 120) = false := by simpa using h120
    simp only [g_element_Of, T_element_Of, Tr.val_c, Tr.val_r, e2, e4, e11, e12, e22, e25, e32, e37, e38, e39, e41, e42, e43, e48, e49, e55, e56, e60, e61, e62, e63, e102, e103, e120, cond_false]
abbrev fmtAV : List AV := [.agg [.int .i64 2, .int .i64 1, .int .i64 2, .int .i64 19], .agg [.int .i64 4, .int .i64 1, .int .i64 0, .int .i64 12], .agg [.int .i64 11, .int .i64 1, .int .i64 0, .int .i64 6], .agg [.int .i64 12, .int .i64 1, .int .i64 0, .int .i64 14], .agg [.int .i64 22, .int .i64 1, .int .i64 0, .int .i64 3], .agg [.int .i64 25, .int .i64 1, .int .i64 0, .int .i64 4], .agg [.int .i64 32, .int .i64 1, .int .i64 2, .int .i64 11], .agg [.int .i64 37, .int .i64 2, .int .i64 0, .int .i64 12], .agg [.int .i64 38, .int .i64 2, .int .i64 0, .int .i64 6], .agg [.int .i64 39, .int .i64 1, .int .i64 0, .int .i64 3], .agg [.int .i64 41, .int .i64 3, .int .i64 0, .int .i64 8], .agg [.int .i64 42, .int .i64 3, .int .i64 0, .int .i64 15], .agg [.int .i64 43, .int .i64 3, .int .i64 2, .int .i64 40], .agg [.int .i64 48, .int .i64 3, .int .i64 3, .int .i64 8], .agg [.int .i64 49, .int .i64 1, .int .i64 0, .int .i64 3], .agg [.int .i64 55, .int .i64 4, .int .i64 3, .int .i64 255], .agg [.int .i64 56, .int .i64 1, .int .i64 0, .int .i64 20], .agg [.int .i64 60, .int .i64 3, .int .i64 3, .int .i64 100], .agg [.int .i64 61, .int .i64 3, .int .i64 3, .int .i64 100], .agg [.int .i64 62, .int .i64 3, .int .i64 3, .int .i64 100], .agg [.int .i64 63, .int .i64 3, .int .i64 3, .int .i64 100], .agg [.int .i64 102, .int .i64 3, .int .i64 2, .int .i64 28], .agg [.int .i64 103, .int .i64 3, .int .i64 2, .int .i64 28], .agg [.int .i64 120, .int .i64 4, .int .i64 4, .int .i64 999]]
theorem refFormat_eq (no : Int) : g_comptoirref16_Format no = some (fmtF no) := by
  by_cases h : no ∈ numsL
  · simp only [numsL, List.mem_cons, List.not_mem_nil, or_false] at h
    rcases h with rfl | rfl | rfl | rfl | rfl | rfl | rfl | rfl | rfl | rfl | rfl | rfl | rfl | rfl | rfl | rfl | rfl | rfl | rfl | rfl | rfl | rfl | rfl | rfl <;> exact run_some.2 ⟨30, by kernel_rfl⟩
  · rw [fmtF_none h]
    unfold g_comptoirref16_Format
    rw [run_inl (s := (0 : Int)) rfl]
    have := run_until (step := M_comptoirref16_Format no) (f := fun i => (i : Int)) (n := 24) (x := (0, 0, 0, 0, false)) (fun i hi => by
      have q1 : (i : Int) < 24 := by omega
      have q2 : (0 : Int) ≤ i := by omega
      have w1 : IntKind.i64.wrap ((i : Int) + 1) = ((i + 1 : Nat) : Int) := by rw [i64_wrap (by omega) (by omega)]; rfl
      have key : ∀ k : Fin 24, getI (getF (List.getD fmtAV k.val (AV.agg [.int .i64 0, .int .i64 0, .int .i64 0, .int .i64 0])) 0) ∈ numsL := by decide
      have e : (getI (getF (List.getD fmtAV i (AV.agg [.int .i64 0, .int .i64 0, .int .i64 0, .int .i64 0])) 0) == no) = false := by
        simp only [beq_eq_false_iff_ne]
        intro e
        exact h (by rw [← e]; exact key ⟨i, hi⟩)
      simp only [M_comptoirref16_Format, Tr.val_c, Tr.val_r, q1, q2, Int.toNat_natCast, e, w1, decide_true, cond_true, cond_false]) (by
      simp only [M_comptoirref16_Format, Tr.val_c, Tr.val_r, show ¬ (((24 : Nat) : Int) < 24) by omega, decide_false, cond_false])
    exact this
def inSpan (a b : Int) (c : UInt8) : Bool := decide ((c.toNat : Int) ≥ a) && decide ((c.toNat : Int) ≤ b)
theorem span_eq (a b : Int) (c : UInt8) : g_text_span_has a b (c.toNat : Int) = some (inSpan a b c) := by
  unfold g_text_span_has T_text_span_has inSpan
  by_cases h : (c.toNat : Int) ≥ a <;> simp only [Tr.val_c, Tr.val_r, h, decide_true, decide_false, cond_true, cond_false, Bool.true_and, Bool.false_and]
theorem drop_all {p : UInt8 → Bool} {s : List UInt8} {i : Nat} (h : i < s.length) : (s.drop i).all p = (p (s.getD i 0) && (s.drop (i + 1)).all p) := by
  rw [List.drop_eq_getElem_cons h, List.all_cons, getD_lt h]
theorem all1_eq (s : List UInt8) (hs : s.length < 9223372036854775807) (a b : Int) : g_text_all_0l1 s a b = some (s.all (inSpan a b)) := by
  unfold g_text_all_0l1
  rw [run_inl (s := (.inl ((0 : Int)))) rfl]
  have key : ∀ k i : Nat, i + k = s.length → run (M_text_all_0l1 s a b) (M_text_all_0l1 s a b (.inl ((i : Int)))) = some ((s.drop i).all (inSpan a b)) := by
    intro k
    induction k with
    | zero =>
      intro i hi
      have q : ¬ ((i : Int) < s.length) := by omega
      have e : s.drop i = [] := List.drop_eq_nil_of_le (by omega)
      rw [e]
      exact run_inr (by simp only [M_text_all_0l1, Tr.val_c, Tr.val_r, q, decide_false, cond_false]; rfl)
    | succ k ih =>
      intro i hi
      have q : (i : Int) < s.length := by omega
      have q2 : (0 : Int) ≤ i := by omega
      have w1 : IntKind.i64.wrap ((i : Int) + 1) = ((i + 1 : Nat) : Int) := by rw [i64_wrap (by omega) (by omega)]; rfl
      rw [drop_all (by omega)]
      rw [run_inl (s := (.inr (.inl ((i : Int))))) (by simp only [M_text_all_0l1, Tr.val_c, Tr.val_r, q, decide_true, cond_true])]
      rw [run_inl (s := (.inr (.inr ((inSpan a b (s.getD i 0), (i : Int)))))) (by simp only [M_text_all_0l1, Tr.val_c, Tr.val_r, val_opt, q, q2, Int.toNat_natCast, span_eq, Option.bind_some, decide_true, cond_true])]
      cases h : inSpan a b (s.getD i 0) with
      | false => exact run_inr (by simp only [M_text_all_0l1, Tr.val_c, Tr.val_r, Bool.not_false, cond_true, Bool.false_and])
      | true =>
        rw [run_inl (s := (.inl (((i + 1 : Nat) : Int)))) (by simp only [M_text_all_0l1, Tr.val_c, Tr.val_r, Bool.not_true, cond_false, w1])]
        rw [Bool.true_and]
        exact ih (i + 1) (by omega)
  exact key s.length 0 (by omega)
theorem all3_eq (s : List UInt8) (hs : s.length < 9223372036854775807) (a b a2 b2 a3 b3 : Int) : g_text_all_0l3 s a b a2 b2 a3 b3 = some (s.all fun c => inSpan a b c || inSpan a2 b2 c || inSpan a3 b3 c) := by
  unfold g_text_all_0l3
  rw [run_inl (s := (.inl ((0 : Int)))) rfl]
  have key : ∀ k i : Nat, i + k = s.length → run (M_text_all_0l3 s a b a2 b2 a3 b3) (M_text_all_0l3 s a b a2 b2 a3 b3 (.inl ((i : Int)))) = some ((s.drop i).all fun c => inSpan a b c || inSpan a2 b2 c || inSpan a3 b3 c) := by
    intro k
    induction k with
    | zero =>
      intro i hi
      have q : ¬ ((i : Int) < s.length) := by omega
      have e : s.drop i = [] := List.drop_eq_nil_of_le (by omega)
      rw [e]
      exact run_inr (by simp only [M_text_all_0l3, Tr.val_c, Tr.val_r, q, decide_false, cond_false]; rfl)
    | succ k ih =>
      intro i hi
      have q : (i : Int) < s.length := by omega
      have q2 : (0 : Int) ≤ i := by omega
      have w1 : IntKind.i64.wrap ((i : Int) + 1) = ((i + 1 : Nat) : Int) := by rw [i64_wrap (by omega) (by omega)]; rfl
      rw [drop_all (p := fun c => inSpan a b c || inSpan a2 b2 c || inSpan a3 b3 c) (by omega)]
      rw [run_inl (s := (.inr (.inl ((i : Int))))) (by simp only [M_text_all_0l3, Tr.val_c, Tr.val_r, q, decide_true, cond_true])]
      rw [run_inl (s := (.inr (.inr (.inl ((inSpan a b (s.getD i 0), (i : Int))))))) (by simp only [M_text_all_0l3, Tr.val_c, Tr.val_r, val_opt, q, q2, Int.toNat_natCast, span_eq, Option.bind_some, decide_true, cond_true])]
      rw [run_inl (s := (.inr (.inr (.inr (.inl ((inSpan a b (s.getD i 0) || inSpan a2 b2 (s.getD i 0), (i : Int)))))))) (by
        cases inSpan a b (s.getD i 0) <;> simp only [M_text_all_0l3, Tr.val_c, Tr.val_r, val_opt, q, q2, Int.toNat_natCast, span_eq, Option.bind_some, decide_true, cond_true, cond_false, Bool.true_or, Bool.false_or])]
      rw [run_inl (s := (.inr (.inr (.inr (.inr ((inSpan a b (s.getD i 0) || inSpan a2 b2 (s.getD i 0) || inSpan a3 b3 (s.getD i 0), (i : Int)))))))) (by
        cases inSpan a b (s.getD i 0) || inSpan a2 b2 (s.getD i 0) <;> simp only [M_text_all_0l3, Tr.val_c, Tr.val_r, val_opt, q, q2, Int.toNat_natCast, span_eq, Option.bind_some, decide_true, cond_true, cond_false, Bool.true_or, Bool.false_or])]
      cases h : inSpan a b (s.getD i 0) || inSpan a2 b2 (s.getD i 0) || inSpan a3 b3 (s.getD i 0) with
      | false => exact run_inr (by simp only [M_text_all_0l3, Tr.val_c, Tr.val_r, Bool.not_false, cond_true, Bool.false_and])
      | true =>
        rw [run_inl (s := (.inl (((i + 1 : Nat) : Int)))) (by simp only [M_text_all_0l3, Tr.val_c, Tr.val_r, Bool.not_true, cond_false, w1])]
        rw [Bool.true_and]
        exact ih (i + 1) (by omega)
  exact key s.length 0 (by omega)
def alnum (c : UInt8) : Bool := inSpan 48 57 c || inSpan 65 90 c || inSpan 97 122 c
def vis (c : UInt8) : Bool := inSpan 32 126 c
def alnB (s : List UInt8) (lo hi : Int) : Bool := decide (lo ≤ s.length) && decide ((s.length : Int) ≤ hi) && s.all alnum
def ansB (s : List UInt8) (hi : Int) : Bool := decide ((1 : Int) ≤ s.length) && decide ((s.length : Int) ≤ hi) && s.all vis
theorem Aln_eq (s : List UInt8) (lo hi : Int) (hs : s.length < 9223372036854775807) : g_text_Aln s lo hi = some (alnB s lo hi) := by
  simp only [g_text_Aln, T_text_Aln, Tr.val_c, val_opt, all3_eq s hs, Tr.val_r, alnB, Option.bind_some, cond_true, ge_iff_le]
  by_cases h1 : lo ≤ s.length <;> by_cases h2 : (s.length : Int) ≤ hi <;> simp [h1, h2] <;> rfl
theorem Ans_eq (s : List UInt8) (hi : Int) (hs : s.length < 9223372036854775807) : g_text_Ans s hi = some (ansB s hi) := by
  simp only [g_text_Ans, T_text_Ans, Tr.val_c, val_opt, all1_eq s hs, Tr.val_r, ansB, Option.bind_some, cond_true, ge_iff_le]
  by_cases h1 : (1 : Int) ≤ s.length <;> by_cases h2 : (s.length : Int) ≤ hi <;> simp [h1, h2] <;> rfl
theorem refAns_eq (s : List UInt8) (hi : Int) (hs : s.length < 9223372036854775807) : g_comptoirref01_Ans s hi = some (ansB s hi) := by
  unfold g_comptoirref01_Ans
  rw [run_inl (s := (0 : Int)) rfl]
  have := run_exit (step := M_comptoirref01_Ans s hi) (f := fun i => (i : Int)) (p := fun i => vis (s.getD i 0)) (n := s.length) (e := false) (z := decide ((1 : Int) ≤ s.length) && decide ((s.length : Int) ≤ hi)) (fun i hi' => by
    have q1 : (i : Int) < s.length := by omega
    have q2 : (0 : Int) ≤ i := by omega
    have w1 : IntKind.i64.wrap ((i : Int) + 1) = ((i + 1 : Nat) : Int) := by rw [i64_wrap (by omega) (by omega)]; rfl
    by_cases a1 : ((s.getD i 0).toNat : Int) < 32
    · have d : vis (s.getD i 0) = false := by simp only [vis, inSpan, Bool.and_eq_false_iff, decide_eq_false_iff_not]; omega
      simp only [M_comptoirref01_Ans, Tr.val_c, Tr.val_r, q1, q2, Int.toNat_natCast, a1, decide_true, cond_true, d, Bool.false_eq_true, if_false]
    · by_cases a3 : ((s.getD i 0).toNat : Int) > 126
      · have d : vis (s.getD i 0) = false := by simp only [vis, inSpan, Bool.and_eq_false_iff, decide_eq_false_iff_not]; omega
        simp only [M_comptoirref01_Ans, Tr.val_c, Tr.val_r, q1, q2, Int.toNat_natCast, a1, a3, decide_true, decide_false, cond_true, cond_false, d, Bool.false_eq_true, if_false]
      · have d : vis (s.getD i 0) = true := by simp only [vis, inSpan, Bool.and_eq_true, decide_eq_true_eq]; omega
        simp only [M_comptoirref01_Ans, Tr.val_c, Tr.val_r, q1, q2, Int.toNat_natCast, a1, a3, w1, decide_true, decide_false, cond_true, cond_false, d, if_true]) (by
    have q1 : ¬ ((s.length : Int) < s.length) := by omega
    by_cases h1 : (1 : Int) ≤ s.length
    · simp only [M_comptoirref01_Ans, Tr.val_c, Tr.val_r, q1, h1, ge_iff_le, decide_true, decide_false, cond_true, cond_false, Bool.true_and]
    · simp only [M_comptoirref01_Ans, Tr.val_c, Tr.val_r, q1, h1, ge_iff_le, decide_true, decide_false, cond_true, cond_false, Bool.false_and])
  refine this.trans ?_
  rw [range_all s 0 vis, ansB]
  cases s.all vis <;> simp
theorem aln_step (s : List UInt8) (lo hi : Int) (i : Nat) (hi' : i < s.length) (hs : s.length < 9223372036854775807) : (M_comptoirref01_Aln s lo hi (i : Int)).val = some (if alnum (s.getD i 0) = true then .inl ((i + 1 : Nat) : Int) else .inr false) := by
  have q1 : (i : Int) < s.length := by omega
  have q2 : (0 : Int) ≤ i := by omega
  have w1 : IntKind.i64.wrap ((i : Int) + 1) = ((i + 1 : Nat) : Int) := by rw [i64_wrap (by omega) (by omega)]; rfl
  simp only [M_comptoirref01_Aln, Tr.val_c, Tr.val_r, q1, q2, Int.toNat_natCast, decide_true, cond_true, w1, alnum, inSpan]
  by_cases a1 : ((s.getD i 0).toNat : Int) ≥ 48 <;> by_cases a2 : ((s.getD i 0).toNat : Int) ≤ 57 <;> by_cases a3 : ((s.getD i 0).toNat : Int) ≥ 65 <;> by_cases a4 : ((s.getD i 0).toNat : Int) ≤ 90 <;> by_cases a5 : ((s.getD i 0).toNat : Int) ≥ 97 <;> by_cases a6 : ((s.getD i 0).toNat : Int) ≤ 122 <;>
    simp only [a1, a2, a3, a4, a5, a6, decide_true, decide_false, cond_true, cond_false, Bool.not_true, Bool.not_false, Bool.true_and, Bool.and_true, Bool.false_and, Bool.and_false, Bool.or_true, Bool.true_or, Bool.or_false, Bool.false_or, if_true, Bool.false_eq_true, if_false]
theorem refAln_eq (s : List UInt8) (lo hi : Int) (hs : s.length < 9223372036854775807) : g_comptoirref01_Aln s lo hi = some (alnB s lo hi) := by
  unfold g_comptoirref01_Aln
  rw [run_inl (s := (0 : Int)) rfl]
  have := run_exit (step := M_comptoirref01_Aln s lo hi) (f := fun i => (i : Int)) (p := fun i => alnum (s.getD i 0)) (n := s.length) (e := false) (z := decide (lo ≤ s.length) && decide ((s.length : Int) ≤ hi)) (fun i hi' => aln_step s lo hi i hi' hs) (by
    have q1 : ¬ ((s.length : Int) < s.length) := by omega
    by_cases h1 : lo ≤ s.length
    · simp only [M_comptoirref01_Aln, Tr.val_c, Tr.val_r, q1, h1, ge_iff_le, decide_true, decide_false, cond_true, cond_false, Bool.true_and]
    · simp only [M_comptoirref01_Aln, Tr.val_c, Tr.val_r, q1, h1, ge_iff_le, decide_true, decide_false, cond_true, cond_false, Bool.false_and])
  refine this.trans ?_
  rw [range_all s 0 alnum, alnB]
  cases s.all alnum <;> simp
def okRow (x : Int × Int × Int × Int) : Bool := decide (1 ≤ x.2.1) && decide (x.2.1 ≤ 4) && decide (0 ≤ x.2.2.1) && decide (x.2.2.1 ≤ 4) && decide (1 ≤ x.2.2.2) && decide (x.2.2.2 ≤ 999) && (decide (x.2.2.1 = 0) || decide (x.2.2.2 < 10 ^ x.2.2.1.toNat)) && decide (x.2.2.1 ≠ 1)
theorem fmtF_cases (no : Int) : fmtF no = (0, 0, 0, 0, false) ∨ ∃ k d m, fmtF no = (no, k, d, m, true) ∧ 1 ≤ k ∧ k ≤ 4 ∧ 0 ≤ d ∧ d ≤ 4 ∧ 1 ≤ m ∧ m ≤ 999 ∧ (d = 0 ∨ m < 10 ^ d.toNat) ∧ d ≠ 1 := by
  cases h : fmtsL.find? (fun x => x.1 == no) with
  | none => left; rw [fmtF, h]
  | some x =>
    right
    have e := List.find?_some h
    have hm := List.mem_of_find?_eq_some h
    have e1 : x.1 = no := by simpa using e
    have ok : okRow x = true := (show ∀ x ∈ fmtsL, okRow x = true by decide) x hm
    simp only [okRow, Bool.and_eq_true, Bool.or_eq_true, decide_eq_true_eq] at ok
    refine ⟨x.2.1, x.2.2.1, x.2.2.2, by rw [fmtF, h, ← e1], ?_⟩
    omega
def kindB (k : Int) (s : List UInt8) : Bool := if k = 1 then s.all dig else if k = 2 then s.all alnum else if k = 3 then s.all vis else true
def longB (d m n : Int) : Bool := decide (n = m) || (decide (d > 0) && decide (n ≥ 1) && decide (n ≤ m))
theorem long_eq (a k d m n : Int) : g_element_long a k d m n = some (longB d m n) := by
  unfold g_element_long T_element_long longB
  by_cases h : n = m
  · simp only [Tr.val_c, Tr.val_r, h, beq_self_eq_true, decide_true, cond_true, Bool.true_or]
  · have h' : (n == m) = false := by simpa using h
    by_cases h2 : d > 0 <;> by_cases h3 : n ≥ 1 <;> simp only [Tr.val_c, Tr.val_r, h, h', h2, h3, decide_true, decide_false, cond_true, cond_false, Bool.false_or, Bool.true_and, Bool.false_and]
theorem longB_le {d m n : Int} (hm : 1 ≤ m) (h : longB d m n = true) : 1 ≤ n ∧ n ≤ m := by
  simp only [longB, Bool.or_eq_true, Bool.and_eq_true, decide_eq_true_eq] at h; omega
def rightS (k : Int) (s : List UInt8) : Int := if kindB k s = true then 0 else 14
theorem k_beq {k : Int} {n : Int} (h : k ≠ n) : (k == n) = false := by simpa using h
theorem eright_eq (a k d m : Int) (s : List UInt8) (h0 : 1 ≤ (s.length : Int)) (h : (s.length : Int) ≤ m) (hs : s.length < 9223372036854775807) : g_element_right a k d m (bl s) = some (rightS k s) := by
  unfold g_element_right rightS kindB
  have l0 : (0 : Int) ≤ s.length := by omega
  by_cases h1 : k = 1
  · subst h1
    have e : right s 0 m = s.all dig := by rw [right, decide_eq_true l0, decide_eq_true h]; rfl
    have t : (T_element_data_numbers s m).val = some (s.all dig) := by simp only [T_element_data_numbers, val_opt, Right_eq s 0 m hs, e, Option.bind_some, Tr.val_r]
    simp only [T_element_right, Tr.val_c, Tr.val_r, val_opt, bytesOf_bl', g_element_data_numbers, t, beq_self_eq_true, cond_true, Option.bind_some, if_true]
    cases s.all dig <;> rfl
  · by_cases h2 : k = 2
    · subst h2
      have e : alnB s 0 m = s.all alnum := by rw [alnB, decide_eq_true l0, decide_eq_true h]; rfl
      have t : (T_element_data_letters s m).val = some (s.all alnum) := by simp only [T_element_data_letters, val_opt, Aln_eq s 0 m hs, e, Option.bind_some, Tr.val_r]
      simp only [T_element_right, Tr.val_c, Tr.val_r, val_opt, bytesOf_bl', g_element_data_letters, t, k_beq h1, h1, beq_self_eq_true, cond_true, cond_false, Option.bind_some, if_true, if_false]
      cases s.all alnum <;> rfl
    · by_cases h3 : k = 3
      · subst h3
        have e : ansB s m = s.all vis := by rw [ansB, decide_eq_true h0, decide_eq_true h]; rfl
        have t : (T_element_data_signs s m).val = some (s.all vis) := by simp only [T_element_data_signs, val_opt, Ans_eq s m hs, e, Option.bind_some, Tr.val_r]
        simp only [T_element_right, Tr.val_c, Tr.val_r, val_opt, bytesOf_bl', g_element_data_signs, t, k_beq h1, k_beq h2, h1, h2, beq_self_eq_true, cond_true, cond_false, Option.bind_some, if_true, if_false]
        cases s.all vis <;> rfl
      · simp only [T_element_right, Tr.val_c, Tr.val_r, k_beq h1, k_beq h2, k_beq h3, h1, h2, h3, cond_false, if_false, if_true]
def checkS (no : Int) (s : List UInt8) : Int := bif !(fmtF no).2.2.2.2 then 16 else bif !longB (fmtF no).2.2.1 (fmtF no).2.2.2.1 s.length then 17 else rightS (fmtF no).2.1 s
theorem Check_eq (no : Int) (s : List UInt8) : g_element_Check no (bl s) = some (checkS no s) := by
  unfold g_element_Check checkS
  rcases fmtF_cases no with e | ⟨k, d, m, e, k1, k2, d1, d2, m1, m2, dm, dn⟩
  · simp only [T_element_Check, val_opt, Tr.val_c, Tr.val_r, Of_eq, e, Option.bind_some, Bool.not_false, cond_true]
  · simp only [T_element_Check, val_opt, Tr.val_c, Tr.val_r, Of_eq, e, Option.bind_some, Bool.not_true, cond_false, bl_length, long_eq]
    cases hl : longB d m s.length with
    | false => simp only [Bool.not_false, cond_true]
    | true =>
      have b := longB_le m1 hl
      simp only [Bool.not_true, cond_false, eright_eq no k d m s b.1 b.2 (by omega), Option.bind_some]
theorem typed_eq (a k d m : Int) (s : List UInt8) (hs : s.length < 9223372036854775807) : g_comptoirref16_typed a k d m (bl s) = some (kindB k s) := by
  unfold g_comptoirref16_typed kindB
  have l0 : (0 : Int) ≤ s.length := by omega
  have ll : (s.length : Int) ≤ s.length := Int.le_refl _
  by_cases h1 : k = 1
  · subst h1
    have e : right s 0 s.length = s.all dig := by rw [right, decide_eq_true l0, decide_eq_true ll]; rfl
    simp only [T_comptoirref16_typed, Tr.val_c, Tr.val_r, val_opt, bytesOf_bl', refRight_eq s _ _ (by omega), e, beq_self_eq_true, cond_true, Option.bind_some, if_true]
  · by_cases h2 : k = 2
    · subst h2
      have e : alnB s 0 s.length = s.all alnum := by rw [alnB, decide_eq_true l0, decide_eq_true ll]; rfl
      simp only [T_comptoirref16_typed, Tr.val_c, Tr.val_r, val_opt, bytesOf_bl', refAln_eq s _ _ hs, e, k_beq h1, h1, beq_self_eq_true, cond_true, cond_false, Option.bind_some, if_true, if_false]
    · by_cases h3 : k = 3
      · subst h3
        cases s with
        | nil => simp only [T_comptoirref16_typed, Tr.val_c, Tr.val_r, bytesOf_bl', k_beq h1, k_beq h2, h1, h2, beq_self_eq_true, cond_true, cond_false, if_true, if_false]; rfl
        | cons c r =>
          have e : ansB (c :: r) (c :: r).length = (c :: r).all vis := by rw [ansB, decide_eq_true ll, decide_eq_true (show (1 : Int) ≤ (c :: r).length by simp only [List.length_cons]; omega)]; rfl
          have ne : ((c :: r) == []) = false := rfl
          simp only [T_comptoirref16_typed, Tr.val_c, Tr.val_r, val_opt, bytesOf_bl', refAns_eq _ _ hs, e, ne, k_beq h1, k_beq h2, h1, h2, beq_self_eq_true, cond_true, cond_false, Option.bind_some, if_true, if_false]
      · simp only [T_comptoirref16_typed, Tr.val_c, Tr.val_r, k_beq h1, k_beq h2, k_beq h3, h1, h2, h3, cond_false, if_false]
theorem refCheck_eq (no : Int) (s : List UInt8) (hs : s.length < 9223372036854775807) : g_comptoirref16_CheckElement no (bl s) = some (checkS no s) := by
  unfold g_comptoirref16_CheckElement checkS
  rcases fmtF_cases no with e | ⟨k, d, m, e, k1, k2, d1, d2, m1, m2, dm, dn⟩
  · simp only [T_comptoirref16_CheckElement, val_opt, Tr.val_c, Tr.val_r, refFormat_eq, e, Option.bind_some, Bool.not_false, cond_true]
  · simp only [T_comptoirref16_CheckElement, val_opt, Tr.val_c, Tr.val_r, refFormat_eq, e, Option.bind_some, Bool.not_true, cond_false, bl_length, typed_eq no k d m s hs]
    have fin : ∀ b : Bool, (bif !b then some (14 : Int) else some 0) = some (if b = true then 0 else 14) := by decide
    by_cases h0 : d = 0
    · subst h0
      by_cases h1 : (s.length : Int) = m
      · have n1 : ((s.length : Int) != m) = false := by simp [h1]
        have n2 : ¬ (s.length : Int) < 1 := by omega
        have n3 : ¬ (s.length : Int) > m := by omega
        have l : longB 0 m s.length = true := by simp [longB, h1]
        simp only [n1, n2, n3, l, beq_self_eq_true, decide_false, cond_true, cond_false, Bool.not_true, fin, rightS]
      · have n1 : ((s.length : Int) != m) = true := by simpa using h1
        have l : longB 0 m s.length = false := by simp [longB, h1]
        simp only [n1, l, beq_self_eq_true, cond_true, Bool.not_false]
    · have z : (d == 0) = false := k_beq h0
      by_cases h2 : (s.length : Int) < 1
      · have l : longB d m s.length = false := by simp only [longB, Bool.or_eq_false_iff, Bool.and_eq_false_iff, decide_eq_false_iff_not]; omega
        simp only [z, h2, l, decide_true, cond_true, cond_false, Bool.not_false]
      · by_cases h3 : (s.length : Int) > m
        · have l : longB d m s.length = false := by simp only [longB, Bool.or_eq_false_iff, Bool.and_eq_false_iff, decide_eq_false_iff_not]; omega
          simp only [z, h2, h3, l, decide_true, decide_false, cond_true, cond_false, Bool.not_false]
        · have l : longB d m s.length = true := by simp only [longB, Bool.or_eq_true, Bool.and_eq_true, decide_eq_true_eq]; omega
          simp only [z, h2, h3, l, decide_false, cond_false, Bool.not_true, fin, rightS]
theorem numS_bounds {s : List UInt8} (h : (numS s).2 = 0) : 0 ≤ (numS s).1 ∧ (numS s).1 < 1000000000000000000 := by
  unfold numS at *
  cases hr : right s 1 18 with
  | false => rw [hr] at h; simp at h
  | true =>
    rw [if_pos rfl]
    have hlen : s.length ≤ 18 := by simp [right] at hr; omega
    have hd : s.all dig = true := by simp [right] at hr; simpa using hr.2
    obtain ⟨a, b⟩ := numV_N _ s rfl hlen hd
    have p : 10 ^ s.length ≤ 10 ^ 18 := Nat.pow_le_pow_right (by omega) hlen
    show 0 ≤ numV s ∧ numV s < _
    rw [a]; omega
def sizeS (d m : Int) (b : List UInt8) : Int × Int :=
  if d = 0 then (m, 0) else if (b.length : Int) < d then (0, 3) else if (numS (b.take d.toNat)).2 ≠ 0 then (0, (numS (b.take d.toNat)).2) else if longB d m (numS (b.take d.toNat)).1 = true then ((numS (b.take d.toNat)).1, 0) else (0, 17)
theorem size_eq (a k d m : Int) (b : List UInt8) (hb : b.length < 9223372036854775807) (d1 : 0 ≤ d) : g_element_size a k d m (bl b) = some (sizeS d m b) := by
  unfold g_element_size sizeS
  by_cases h0 : d = 0
  · subst h0
    rw [if_pos rfl]
    simp only [T_element_size, Tr.val_c, Tr.val_r, beq_self_eq_true, cond_true]
  · rw [if_neg h0]
    have z : (d == 0) = false := k_beq h0
    by_cases h1 : (b.length : Int) < d
    · rw [if_pos h1]
      simp only [T_element_size, Tr.val_c, Tr.val_r, z, bl_length, h1, decide_true, cond_true, cond_false]
    · rw [if_neg h1]
      have h2 : d ≤ b.length := by omega
      have hl : (b.take d.toNat).length < 9223372036854775807 := by rw [List.length_take]; omega
      have e := Number_eq (b.take d.toNat) hl
      by_cases h3 : (numS (b.take d.toNat)).2 = 0
      · rw [if_neg (by simpa using h3)]
        have z2 : ((numS (b.take d.toNat)).2 != 0) = false := by simp [h3]
        have bd := numS_bounds h3
        have w : IntKind.i64.wrap (numS (b.take d.toNat)).1 = (numS (b.take d.toNat)).1 := i64_wrap (by omega) (by omega)
        simp only [T_element_size, Tr.val_c, Tr.val_r, val_opt, z, bl_length, h1, d1, h2, bl_take, List.drop_zero, bytesOf_bl', e, z2, w, long_eq, Option.bind_some, decide_true, decide_false, cond_true, cond_false]
        cases longB d m (numS (b.take d.toNat)).1 <;> rfl
      · rw [if_pos h3]
        have z2 : ((numS (b.take d.toNat)).2 != 0) = true := by simpa using h3
        simp only [T_element_size, Tr.val_c, Tr.val_r, val_opt, z, bl_length, h1, d1, h2, bl_take, List.drop_zero, bytesOf_bl', e, z2, Option.bind_some, decide_true, decide_false, cond_true, cond_false]
def readS (no : Int) (b : List UInt8) : List UInt8 × Int × Int :=
  bif !(fmtF no).2.2.2.2 then ([], 0, 16) else
  if (sizeS (fmtF no).2.2.1 (fmtF no).2.2.2.1 b).2 ≠ 0 then ([], 0, (sizeS (fmtF no).2.2.1 (fmtF no).2.2.2.1 b).2) else
  if (b.length : Int) < (fmtF no).2.2.1 + (sizeS (fmtF no).2.2.1 (fmtF no).2.2.2.1 b).1 then ([], 0, 3) else
  if kindB (fmtF no).2.1 ((b.take ((fmtF no).2.2.1 + (sizeS (fmtF no).2.2.1 (fmtF no).2.2.2.1 b).1).toNat).drop (fmtF no).2.2.1.toNat) = true
  then ((b.take ((fmtF no).2.2.1 + (sizeS (fmtF no).2.2.1 (fmtF no).2.2.2.1 b).1).toNat).drop (fmtF no).2.2.1.toNat, (fmtF no).2.2.1 + (sizeS (fmtF no).2.2.1 (fmtF no).2.2.2.1 b).1, 0) else ([], 0, 14)
def blR (x : List UInt8 × Int × Int) : List AV × Int × Int := (bl x.1, x.2.1, x.2.2)
theorem sizeS_le {d m : Int} {b : List UInt8} (hm : 1 ≤ m) (h : (sizeS d m b).2 = 0) : 1 ≤ (sizeS d m b).1 ∧ (sizeS d m b).1 ≤ m ∧ (d = 0 ∨ d ≤ b.length) := by
  unfold sizeS at *
  split at h
  · rename_i h0; rw [if_pos h0]; exact ⟨hm, Int.le_refl _, .inl h0⟩
  · rename_i h0
    rw [if_neg h0]
    split at h
    · simp at h
    · rename_i h1
      rw [if_neg h1]
      split at h
      · rename_i h2; exact absurd h h2
      · rename_i h2
        rw [if_neg h2]
        split at h
        · rename_i h3
          rw [if_pos h3]
          have := longB_le hm h3
          exact ⟨this.1, this.2, .inr (by omega)⟩
        · simp at h
theorem Read_eq (no : Int) (b : List UInt8) (hb : b.length < 1000000) : g_element_Read no (bl b) = some (blR (readS no b)) := by
  unfold g_element_Read readS
  rcases fmtF_cases no with e | ⟨k, d, m, e, k1, k2, d1, d2, m1, m2, dm, dn⟩
  · simp only [T_element_Read, val_opt, Tr.val_c, Tr.val_r, Of_eq, e, Option.bind_some, Bool.not_false, cond_true]; rfl
  · simp only [T_element_Read, val_opt, Tr.val_c, Tr.val_r, Of_eq, e, size_eq no k d m b (by omega) d1, Option.bind_some, Bool.not_true, cond_false, bl_length]
    generalize hs : sizeS d m b = sz
    by_cases h0 : sz.2 = 0
    · rw [if_neg (by simpa using h0)]
      have z : (sz.2 != 0) = false := by simp [h0]
      have le := sizeS_le m1 (by rw [hs]; exact h0)
      rw [hs] at le
      have w : IntKind.i64.wrap (d + sz.1) = d + sz.1 := i64_wrap (by omega) (by omega)
      simp only [z, w, cond_false]
      by_cases h1 : (b.length : Int) < d + sz.1
      · rw [if_pos h1]; simp only [h1, decide_true, cond_true]; rfl
      · rw [if_neg h1]
        have q1 : (0 : Int) ≤ d + sz.1 := by omega
        have q2 : d + sz.1 ≤ b.length := by omega
        have q3 : d ≤ d + sz.1 := by omega
        generalize hx : (b.take (d + sz.1).toNat).drop d.toNat = x
        have lx : (x.length : Int) = sz.1 := by rw [← hx, List.length_drop, List.length_take]; omega
        have ll : x.length * 2 < 70368744177664 := by omega
        simp only [h1, q1, q2, d1, q3, bl_take, bl_drop, hx, bl_length, ll, eright_eq no k d m x (by omega) (by omega) (by omega), rightS, beq_self_eq_true, Option.bind_some, decide_true, decide_false, cond_true, cond_false]
        cases kindB k x <;> rfl
    · rw [if_pos h0]
      have z : (sz.2 != 0) = true := by simpa using h0
      simp only [z, cond_true]; rfl
def writeS (no : Int) (s : List UInt8) : List UInt8 × Int :=
  if checkS no s ≠ 0 then ([], checkS no s) else if (fmtF no).2.2.1 > 0 then ((textS s.length (fmtF no).2.2.1).1 ++ s, 0) else (s, 0)
theorem map_byte (s : List UInt8) : List.map byte s = bl s := rfl
theorem Write_eq (no : Int) (s : List UInt8) (hs : s.length < 1000000) : g_element_Write no (bl s) = some (bl (writeS no s).1, (writeS no s).2) := by
  unfold g_element_Write writeS
  by_cases h0 : checkS no s = 0
  · rw [if_neg (by simpa using h0)]
    have z : (checkS no s != 0) = false := by simp [h0]
    have w : IntKind.u64.wrap (s.length : Int) = (s.length : Int) := u64_wrap (by omega) (by omega)
    by_cases hd : (fmtF no).2.2.1 > 0
    · rw [if_pos hd]
      have lt : (textS s.length (fmtF no).2.2.1).1.length ≤ 20 := by
        unfold textS
        split
        · simp
        · split
          · simp
          · rw [List.length_append, List.length_replicate]; omega
      have l1 : (bl (textS s.length (fmtF no).2.2.1).1 ++ bl s).length * 2 < 70368744177664 := by rw [List.length_append, bl_length, bl_length]; omega
      simp only [T_element_Write, Tr.val_c, Tr.val_r, val_opt, Check_eq, Of_eq, z, w, hd, bl_length, Text_eq s.length (by omega), map_byte, l1, beq_self_eq_true, Option.bind_some, decide_true, cond_true, cond_false, bl_append]
    · rw [if_neg hd]
      have l1 : s.length * 2 < 70368744177664 := by omega
      simp only [T_element_Write, Tr.val_c, Tr.val_r, val_opt, Check_eq, Of_eq, z, hd, bl_length, l1, beq_self_eq_true, Option.bind_some, decide_true, decide_false, cond_true, cond_false]
  · rw [if_pos h0]
    have z : (checkS no s != 0) = true := by simpa using h0
    simp only [T_element_Write, Tr.val_c, Tr.val_r, val_opt, Check_eq, z, Option.bind_some, cond_true]; rfl
theorem refWrite_eq (no : Int) (s : List UInt8) (hs : s.length < 1000000) : g_comptoirref16_WriteElement no (bl s) = some (bl (writeS no s).1, (writeS no s).2) := by
  unfold g_comptoirref16_WriteElement writeS
  by_cases h0 : checkS no s = 0
  · rw [if_neg (by simpa using h0)]
    have z : (checkS no s != 0) = false := by simp [h0]
    have w : IntKind.u64.wrap (s.length : Int) = (s.length : Int) := u64_wrap (by omega) (by omega)
    by_cases hd : (fmtF no).2.2.1 > 0
    · rw [if_pos hd]
      have lt : (textS s.length (fmtF no).2.2.1).1.length ≤ 20 := by
        unfold textS
        split
        · simp
        · split
          · simp
          · rw [List.length_append, List.length_replicate]; omega
      have l1 : (bl (textS s.length (fmtF no).2.2.1).1 ++ bl s).length * 2 < 70368744177664 := by rw [List.length_append, bl_length, bl_length]; omega
      simp only [T_comptoirref16_WriteElement, Tr.val_c, Tr.val_r, val_opt, refCheck_eq no s (by omega), refFormat_eq, z, w, hd, bl_length, refDigits_eq s.length (by omega), map_byte, l1, h0, beq_self_eq_true, Option.bind_some, decide_true, cond_true, cond_false, bl_append]
      rfl
    · rw [if_neg hd]
      have l1 : s.length * 2 < 70368744177664 := by omega
      simp only [T_comptoirref16_WriteElement, Tr.val_c, Tr.val_r, val_opt, refCheck_eq no s (by omega), refFormat_eq, z, hd, bl_length, l1, h0, beq_self_eq_true, Option.bind_some, decide_true, decide_false, cond_true, cond_false]
      rfl
  · rw [if_pos h0]
    have z : (checkS no s != 0) = true := by simpa using h0
    simp only [T_comptoirref16_WriteElement, Tr.val_c, Tr.val_r, val_opt, refCheck_eq no s (by omega), z, Option.bind_some, cond_true]; rfl
theorem refRead_eq (no : Int) (b : List UInt8) (hb : b.length < 1000000) : g_comptoirref16_ReadElement no (bl b) = some (blR (readS no b)) := by
  unfold g_comptoirref16_ReadElement readS
  rcases fmtF_cases no with e | ⟨k, d, m, e, k1, k2, d1, d2, m1, m2, dm, dn⟩
  · simp only [T_comptoirref16_ReadElement, val_opt, Tr.val_c, Tr.val_r, refFormat_eq, e, Option.bind_some, Bool.not_false, cond_true]; rfl
  · simp only [T_comptoirref16_ReadElement, val_opt, Tr.val_c, Tr.val_r, refFormat_eq, e, Option.bind_some, Bool.not_true, cond_false, bl_length]
    have fin : ∀ (n : Int), 1 ≤ n → n ≤ m → ¬ (b.length : Int) < d + n → ∀ x, (b.take (d + n).toNat).drop d.toNat = x →
        (x.length * 2 < 70368744177664 ∧ x.length < 9223372036854775807) := by
      intro n a1 a2 a3 x hx
      have lx : (x.length : Int) = n := by rw [← hx, List.length_drop, List.length_take]; omega
      omega
    have fin2 : ∀ (c : Bool) (x : List AV) (n : Int) (y : List UInt8), x = bl y → (bif !c then some (([], 0, 14) : List AV × Int × Int) else some (x, n, 0)) = some (blR (if c = true then (y, n, 0) else ([], 0, 14))) := by
      intro c x n y e; subst e; cases c <;> rfl
    unfold sizeS
    by_cases h0 : d = 0
    · subst h0
      have hd : ¬ (0 : Int) > 0 := by decide
      have w : IntKind.i64.wrap (0 + m) = 0 + m := i64_wrap (by omega) (by omega)
      simp only [hd, w, decide_false, cond_false, if_true]
      rw [if_neg (show ¬ ((0 : Int) ≠ 0) by decide)]
      by_cases h1 : (b.length : Int) < 0 + m
      · rw [if_pos h1]; simp only [h1, decide_true, cond_true]; rfl
      · rw [if_neg h1]
        have q1 : (0 : Int) ≤ 0 + m := by omega
        have q2 : 0 + m ≤ b.length := by omega
        have q3 : (0 : Int) ≤ 0 := Int.le_refl _
        obtain ⟨ll, lb⟩ := fin m m1 (Int.le_refl _) h1 _ rfl
        simp only [h1, q1, q2, q3, bl_take, bl_drop, bl_length, ll, typed_eq no k 0 m _ lb, beq_self_eq_true, Option.bind_some, decide_true, decide_false, cond_true, cond_false]
        exact fin2 _ _ _ _ rfl
    · have hd : d > 0 := by omega
      rw [if_neg h0]
      by_cases h1 : (b.length : Int) < d
      · rw [if_pos h1]
        simp only [hd, h1, decide_true, cond_true]; rfl
      · rw [if_neg h1]
        have h2 : d ≤ b.length := by omega
        have hl : (b.take d.toNat).length < 9223372036854775807 := by rw [List.length_take]; omega
        have en := refNumber_eq (b.take d.toNat) hl
        by_cases h3 : (numS (b.take d.toNat)).2 = 0
        · rw [if_neg (show ¬ ((numS (b.take d.toNat)).2 ≠ 0) by simpa using h3)]
          have z2 : ((numS (b.take d.toNat)).2 != 0) = false := by simp [h3]
          have bd := numS_bounds h3
          have w : IntKind.i64.wrap (numS (b.take d.toNat)).1 = (numS (b.take d.toNat)).1 := i64_wrap (by omega) (by omega)
          have wm : IntKind.u64.wrap m = m := u64_wrap (by omega) (by omega)
          simp only [hd, h1, d1, h2, bl_take, List.drop_zero, bytesOf_bl', en, z2, w, wm, Option.bind_some, decide_true, decide_false, cond_true, cond_false]
          generalize (numS (b.take d.toNat)).1 = n at *
          by_cases h4 : n < 1
          · have l : longB d m n = false := by simp only [longB, Bool.or_eq_false_iff, Bool.and_eq_false_iff, decide_eq_false_iff_not]; omega
            rw [l]
            simp only [h4, decide_true, cond_true]; rfl
          · by_cases h5 : n > m
            · have l : longB d m n = false := by simp only [longB, Bool.or_eq_false_iff, Bool.and_eq_false_iff, decide_eq_false_iff_not]; omega
              rw [l]
              simp only [h4, h5, decide_true, decide_false, cond_true, cond_false]; rfl
            · have l : longB d m n = true := by simp only [longB, Bool.or_eq_true, Bool.and_eq_true, decide_eq_true_eq]; omega
              rw [l, if_pos rfl]
              rw [if_neg (show ¬ (((n, (0 : Int)) : Int × Int).2 ≠ 0) by simp)]
              have w2 : IntKind.i64.wrap (d + n) = d + n := i64_wrap (by omega) (by omega)
              simp only [h4, h5, w2, decide_false, cond_false]
              by_cases h6 : (b.length : Int) < d + n
              · rw [if_pos h6]; simp only [h6, decide_true, cond_true]; rfl
              · rw [if_neg h6]
                have q1 : (0 : Int) ≤ d + n := by omega
                have q2 : d + n ≤ b.length := by omega
                have q3 : d ≤ d + n := by omega
                obtain ⟨ll, lb⟩ := fin n (by omega) (by omega) h6 _ rfl
                simp only [h6, q1, q2, q3, bl_drop, bl_length, ll, typed_eq no k d m _ lb, beq_self_eq_true, Option.bind_some, decide_true, decide_false, cond_true, cond_false]
                exact fin2 _ _ _ _ rfl
        · rw [if_pos h3]
          have z2 : ((numS (b.take d.toNat)).2 != 0) = true := by simpa using h3
          simp only [hd, h1, d1, h2, bl_take, List.drop_zero, bytesOf_bl', en, z2, Option.bind_some, decide_true, decide_false, cond_true, cond_false]
          rw [if_pos h3]; rfl
theorem decDigits_le : ∀ (d v : Nat), v < 10 ^ (d + 1) → (Go.Lib.decDigits v).length ≤ d + 1
  | 0, v, h => by rw [Go.Lib.decDigits, dif_pos (by omega)]; simp
  | d + 1, v, h => by
    rw [Go.Lib.decDigits]
    split
    · simp
    · rw [List.length_append, List.length_singleton]
      have := decDigits_le d (v / 10) (by rw [Nat.pow_succ] at h; omega)
      omega
theorem write_parts {no : Int} {s : List UInt8} (hc : checkS no s = 0) : ∃ k d m, fmtF no = (no, k, d, m, true) ∧ kindB k s = true ∧ longB d m s.length = true ∧ 1 ≤ s.length ∧ (s.length : Int) ≤ m ∧ m ≤ 999 ∧
    ((d = 0 ∧ (s.length : Int) = m ∧ writeS no s = (s, 0)) ∨ (2 ≤ d ∧ d ≤ 4 ∧ ∃ h : List UInt8, (h.length : Int) = d ∧ numS h = ((s.length : Int), 0) ∧ writeS no s = (h ++ s, 0) ∧ h = (textS s.length d).1)) := by
  rcases fmtF_cases no with e | ⟨k, d, m, e, k1, k2, d1, d2, m1, m2, dm, dn⟩
  · unfold checkS at hc; rw [e] at hc; cases hc
  · have hc0 := hc
    unfold checkS at hc
    rw [e] at hc
    cases hl : longB d m s.length with
    | false => simp only [Bool.not_true, cond_false, hl, Bool.not_false, cond_true] at hc; cases hc
    | true =>
      simp only [Bool.not_true, cond_false, hl, rightS] at hc
      have hk : kindB k s = true := by
        cases hk : kindB k s with
        | true => rfl
        | false => rw [hk] at hc; simp at hc
      have b := longB_le m1 hl
      refine ⟨k, d, m, e, hk, hl, by omega, b.2, m2, ?_⟩
      by_cases h0 : d = 0
      · subst h0
        left
        have l : (s.length : Int) = m := by simp only [longB, Bool.or_eq_true, Bool.and_eq_true, decide_eq_true_eq] at hl; omega
        refine ⟨rfl, l, ?_⟩
        unfold writeS
        rw [if_neg (by simpa using hc0), e, if_neg (by simp)]
      · right
        have hm : m < 10 ^ d.toNat := dm.resolve_left h0
        obtain ⟨j, hj⟩ : ∃ j : Nat, d = ((j + 1 : Nat) : Int) := ⟨d.toNat - 1, by omega⟩
        have hp : s.length < 10 ^ (j + 1) := by
          have e1 : d.toNat = j + 1 := by omega
          rw [e1] at hm
          have e2 : ((10 : Int) ^ (j + 1)) = ((10 ^ (j + 1) : Nat) : Int) := by rw [Int.natCast_pow]; rfl
          rw [e2] at hm
          omega
        have dl := decDigits_le j s.length hp
        have t2 : (textS s.length d).2 = 0 := by
          unfold textS
          rw [if_neg (by omega), if_neg (by omega)]
        obtain ⟨n1, n2⟩ := text_back s.length (by omega) d (by omega) (by omega) t2
        refine ⟨by omega, d2, (textS s.length d).1, n2, n1, ?_, rfl⟩
        unfold writeS
        rw [if_neg (by simpa using hc0), e, if_pos (show d > 0 by omega)]
theorem read_written {no : Int} {s : List UInt8} (hc : checkS no s = 0) (more : List UInt8) : readS no ((writeS no s).1 ++ more) = (s, ((writeS no s).1.length : Int), 0) ∧ 0 < (writeS no s).1.length := by
  obtain ⟨k, d, m, e, hk, hl, l1, l2, m2, c⟩ := write_parts hc
  unfold readS
  rw [e]
  rcases c with ⟨rfl, lm, w⟩ | ⟨d2, d4, h, h1, h2, w, -⟩
  · rw [w]
    have t : sizeS 0 m (s ++ more) = (m, 0) := by unfold sizeS; rw [if_pos rfl]
    have q : ¬ ((s ++ more).length : Int) < 0 + m := by rw [List.length_append]; omega
    have x : ((s ++ more).take (0 + m).toNat).drop (0 : Int).toNat = s := by
      have : (0 + m).toNat = s.length := by omega
      rw [this, List.take_left]; rfl
    simp only [t, Bool.not_true, cond_false]
    rw [if_neg (by simp), if_neg q, x, if_pos hk]
    exact ⟨by simp; omega, by omega⟩
  · rw [w]
    have hd : d.toNat = h.length := by omega
    have t : sizeS d m (h ++ s ++ more) = ((s.length : Int), 0) := by
      unfold sizeS
      rw [if_neg (by omega), if_neg (by rw [List.length_append, List.length_append]; omega), List.append_assoc, hd, List.take_left, h2, if_neg (by simp), if_pos hl]
    have q : ¬ ((h ++ s ++ more).length : Int) < d + (s.length : Int) := by rw [List.length_append, List.length_append]; omega
    have x : ((h ++ s ++ more).take (d + (s.length : Int)).toNat).drop d.toNat = s := by
      have : (d + (s.length : Int)).toNat = (h ++ s).length := by rw [List.length_append]; omega
      rw [this, List.take_left, hd, List.drop_left]
    simp only [t, Bool.not_true, cond_false]
    rw [if_neg (by simp), if_neg q, x, if_pos hk]
    refine ⟨?_, by rw [List.length_append]; omega⟩
    rw [List.length_append]
    have : d + (s.length : Int) = ((h.length + s.length : Nat) : Int) := by omega
    rw [this]
theorem read_cut {no : Int} {s : List UInt8} (hc : checkS no s = 0) (n : Nat) (hn : n < (writeS no s).1.length) : (readS no ((writeS no s).1.take n)).2.2 = 3 := by
  obtain ⟨k, d, m, e, hk, hl, l1, l2, m2, c⟩ := write_parts hc
  unfold readS
  rw [e]
  rcases c with ⟨rfl, lm, w⟩ | ⟨d2, d4, h, h1, h2, w, -⟩
  · rw [w] at hn ⊢
    have t : sizeS 0 m (s.take n) = (m, 0) := by unfold sizeS; rw [if_pos rfl]
    have hn' : n < s.length := hn
    have q : ((s.take n).length : Int) < 0 + m := by rw [List.length_take]; omega
    simp only [t, Bool.not_true, cond_false]
    rw [if_neg (by simp), if_pos q]
  · rw [w] at hn ⊢
    have hn' : n < h.length + s.length := by simpa using hn
    have hd : d.toNat = h.length := by omega
    have ln : ((h ++ s).take n).length = n := by rw [List.length_take, List.length_append]; omega
    by_cases c : n < h.length
    · have t : sizeS d m ((h ++ s).take n) = (0, 3) := by
        unfold sizeS
        rw [if_neg (by omega), if_pos (by rw [ln]; omega)]
      simp only [t, Bool.not_true, cond_false]
      rw [if_pos (by simp)]
    · have t : sizeS d m ((h ++ s).take n) = ((s.length : Int), 0) := by
        unfold sizeS
        have tt : ((h ++ s).take n).take d.toNat = h := by
          rw [List.take_take, hd, Nat.min_eq_left (by omega), List.take_left]
        rw [if_neg (by omega), if_neg (by rw [ln]; omega), tt, h2, if_neg (by simp), if_pos hl]
      have q : (((h ++ s).take n).length : Int) < d + (s.length : Int) := by rw [ln]; omega
      simp only [t, Bool.not_true, cond_false]
      rw [if_neg (by simp), if_pos q]
theorem check_len {no : Int} {s : List UInt8} (hc : checkS no s = 0) : s.length ≤ 999 ∧ 1 ≤ s.length := by
  obtain ⟨k, d, m, e, hk, hl, l1, l2, m2, c⟩ := write_parts hc
  omega
theorem writeS_len (no : Int) (s : List UInt8) : (writeS no s).1.length ≤ 1100 := by
  by_cases hc : checkS no s = 0
  · obtain ⟨k, d, m, e, hk, hl, l1, l2, m2, c⟩ := write_parts hc
    rcases c with ⟨_, _, w⟩ | ⟨d2, d4, h, h1, h2, w, -⟩
    · rw [w]; show s.length ≤ 1100; omega
    · rw [w]; show (h ++ s).length ≤ 1100; rw [List.length_append]; omega
  · unfold writeS; rw [if_pos hc]; simp
theorem writeS_err (no : Int) (s : List UInt8) : (writeS no s).2 = checkS no s := by
  unfold writeS
  by_cases hc : checkS no s = 0
  · rw [if_neg (by simpa using hc), hc]; split <;> rfl
  · rw [if_pos hc]
theorem Write_any (no : Int) (s : List UInt8) : g_element_Write no (bl s) = some (bl (writeS no s).1, (writeS no s).2) := by
  by_cases h0 : checkS no s = 0
  · exact Write_eq no s (by have := check_len h0; omega)
  · unfold g_element_Write writeS
    rw [if_pos h0]
    have z : (checkS no s != 0) = true := by simpa using h0
    simp only [T_element_Write, Tr.val_c, Tr.val_r, val_opt, Check_eq, z, Option.bind_some, cond_true]; rfl
theorem numN_inj : ∀ (k : Nat) (s t : List UInt8), s.length = k → t.length = k → s.all dig = true → t.all dig = true → numN s = numN t → s = t
  | 0, s, t, h1, h2, _, _, _ => by rw [List.length_eq_zero_iff.1 h1, List.length_eq_zero_iff.1 h2]
  | k + 1, s, t, h1, h2, d1, d2, e => by
    have es : s = s.take k ++ [s.getD k 0] := by rw [← take_one s k (by omega), ← h1, List.take_length]
    have et : t = t.take k ++ [t.getD k 0] := by rw [← take_one t k (by omega), ← h2, List.take_length]
    have ls : (s.take k).length = k := by rw [List.length_take]; omega
    have lt : (t.take k).length = k := by rw [List.length_take]; omega
    generalize s.take k = s0 at es ls
    generalize t.take k = t0 at et lt
    generalize s.getD k 0 = c at es
    generalize t.getD k 0 = c2 at et
    subst es et
    rw [List.all_append] at d1 d2
    obtain ⟨a1, a2⟩ := Bool.and_eq_true_iff.1 d1
    obtain ⟨b1, b2⟩ := Bool.and_eq_true_iff.1 d2
    have r1 := dig_range (c := c) (by simpa using a2)
    have r2 := dig_range (c := c2) (by simpa using b2)
    rw [numN_snoc, numN_snoc] at e
    have := numN_inj k s0 t0 ls lt a1 b1 (by omega)
    have ec : c = c2 := UInt8.toNat_inj.1 (by omega)
    rw [this, ec]
theorem text_num {s : List UInt8} {n : Nat} (hn : numS s = ((n : Int), 0)) (w : Nat) (hw : s.length = w) (h1 : 1 ≤ w) (h2 : w ≤ 18) : textS n w = (s, 0) := by
  have hr : right s 1 18 = true := by
    unfold numS at hn
    cases h : right s 1 18 with
    | true => rfl
    | false => rw [h] at hn; simp at hn
  have hd : s.all dig = true := by simp [right] at hr; simpa using hr.2
  have hv : numV s = (n : Int) := by unfold numS at hn; rw [if_pos hr] at hn; exact (Prod.mk.inj hn).1
  obtain ⟨v1, v2⟩ := numV_N _ s rfl (by omega) hd
  have en : numN s = n := by omega
  rw [en] at v2
  obtain ⟨j, hj⟩ : ∃ j, w = j + 1 := ⟨w - 1, by omega⟩
  have dl := decDigits_le j n (by rw [← hj, ← hw]; exact v2)
  have p : 10 ^ s.length ≤ 10 ^ 18 := Nat.pow_le_pow_right (by omega) (by omega)
  have t2 : (textS n w).2 = 0 := by
    unfold textS
    rw [if_neg (by omega), if_neg (by omega)]
  have n18 : n < 1000000000000000000 := by
    rcases Nat.lt_or_ge w 18 with h | h
    · have : 10 ^ s.length ≤ 10 ^ 17 := Nat.pow_le_pow_right (by omega) (by omega)
      omega
    · have : s.length = 18 := by omega
      rw [this] at v2; omega
  obtain ⟨q1, q2⟩ := text_back n n18 w (by omega) (by omega) t2
  generalize ht : textS n w = t at *
  obtain ⟨t, e⟩ := t
  simp only at t2 q1 q2
  subst t2
  congr 1
  have hr2 : right t 1 18 = true := by
    unfold numS at q1
    cases h : right t 1 18 with
    | true => rfl
    | false => rw [h] at q1; simp at q1
  have hd2 : t.all dig = true := by simp [right] at hr2; simpa using hr2.2
  have hv2 : numV t = (n : Int) := by unfold numS at q1; rw [if_pos hr2] at q1; exact (Prod.mk.inj q1).1
  obtain ⟨u1, u2⟩ := numV_N _ t rfl (by omega) hd2
  exact numN_inj w t s (by omega) hw hd2 hd (by omega)
theorem read_back {no : Int} {b : List UInt8} (h : (readS no b).2.2 = 0) : checkS no (readS no b).1 = 0 ∧ (writeS no (readS no b).1).1 = b.take (readS no b).2.1.toNat ∧ 0 ≤ (readS no b).2.1 ∧ (readS no b).2.1 ≤ (b.length : Int) := by
  rcases fmtF_cases no with e | ⟨k, d, m, e, k1, k2, d1, d2, m1, m2, dm, dn⟩
  · unfold readS at h; rw [e] at h; cases h
  · have hR : readS no b = if (sizeS d m b).2 ≠ 0 then ([], 0, (sizeS d m b).2) else if (b.length : Int) < d + (sizeS d m b).1 then ([], 0, 3) else
        if kindB k ((b.take (d + (sizeS d m b).1).toNat).drop d.toNat) = true then ((b.take (d + (sizeS d m b).1).toNat).drop d.toNat, d + (sizeS d m b).1, 0) else ([], 0, 14) := by
      unfold readS; rw [e]; rfl
    rw [hR] at h ⊢
    clear hR
    by_cases h0 : (sizeS d m b).2 = 0
    · have hz : ¬ (sizeS d m b).2 ≠ 0 := by simpa using h0
      rw [if_neg hz] at h ⊢
      have le := sizeS_le m1 h0
      by_cases h1 : (b.length : Int) < d + (sizeS d m b).1
      · rw [if_pos h1] at h; simp at h
      · rw [if_neg h1] at h ⊢
        generalize hx : (b.take (d + (sizeS d m b).1).toNat).drop d.toNat = x at h ⊢
        have lx : (x.length : Int) = (sizeS d m b).1 := by rw [← hx, List.length_drop, List.length_take]; omega
        by_cases hk : kindB k x = true
        · rw [if_pos hk] at h ⊢
          have r0 : rightS k x = 0 := by unfold rightS; rw [if_pos hk]
          have pre : d = 0 ∨ (¬ d = 0 ∧ longB d m (sizeS d m b).1 = true ∧ numS (b.take d.toNat) = ((sizeS d m b).1, 0)) := by
            by_cases z : d = 0
            · exact .inl z
            · right
              refine ⟨z, ?_⟩
              unfold sizeS at h0 ⊢
              rw [if_neg z] at *
              split at h0
              · simp at h0
              · rename_i q1
                rw [if_neg q1]
                split at h0
                · rename_i q2; exact absurd h0 q2
                · rename_i q2
                  rw [if_neg q2]
                  split at h0
                  · rename_i q3
                    rw [if_pos q3]
                    exact ⟨q3, Prod.ext rfl (by simpa using q2)⟩
                  · simp at h0
          have hl : longB d m x.length = true := by
            rcases pre with z | ⟨_, hl, _⟩
            · have : (sizeS d m b).1 = m := by unfold sizeS; rw [if_pos z]
              simp only [longB, Bool.or_eq_true, decide_eq_true_eq]; left; omega
            · rw [lx]; exact hl
          have hc : checkS no x = 0 := by
            unfold checkS; rw [e]; simp only [Bool.not_true, cond_false, hl, r0]
          refine ⟨hc, ?_, by show (0 : Int) ≤ d + (sizeS d m b).1; omega, by show d + (sizeS d m b).1 ≤ (b.length : Int); omega⟩
          show (writeS no x).1 = b.take (d + (sizeS d m b).1).toNat
          unfold writeS
          rw [if_neg (by simpa using hc), e]
          rcases pre with z | ⟨z, _, hn⟩
          · rw [if_neg (by simp [z]), ← hx, z]; simp
          · rw [if_pos (by show d > 0; omega)]
            have tn := text_num (s := b.take d.toNat) (n := x.length) (by rw [hn, lx]) d.toNat (by rw [List.length_take]; omega) (by omega) (by omega)
            have ed : ((d.toNat : Nat) : Int) = d := by omega
            rw [ed] at tn
            show (textS x.length d).1 ++ x = _
            rw [tn, ← hx]
            show b.take d.toNat ++ _ = _
            have e3 : b.take d.toNat = (b.take (d + (sizeS d m b).1).toNat).take d.toNat := by rw [List.take_take, Nat.min_eq_left (by omega)]
            rw [e3, List.take_append_drop]
        · rw [if_neg hk] at h; simp at h
    · rw [if_pos h0] at h; exact absurd h h0
abbrev El := Int × List UInt8
def elA (x : El) : AV := .agg [.int .i64 x.1, .slice 1 (.int .u8) (bl x.2) .ro]
abbrev ea (l : List El) : List AV := l.map elA
theorem ea_get {l : List El} {i : Nat} (h : i < l.length) (d : AV) : (ea l).getD i d = elA l[i] := by
  rw [List.getD_eq_getElem?_getD, List.getElem?_map, List.getElem?_eq_getElem h]; rfl
theorem ea_no {l : List El} {i : Nat} (h : i < l.length) (d : AV) : getI (getF ((ea l).getD i d) 0) = (l[i]).1 := by rw [ea_get h]; rfl
theorem ea_da {l : List El} {i : Nat} (h : i < l.length) (d : AV) : getXs (getF ((ea l).getD i d) 1) = bl (l[i]).2 := by rw [ea_get h]; rfl
abbrev nos (l : List El) : List Int := l.map (·.1)
def writeAll : List El → List UInt8 × Int
  | [] => ([], 0)
  | x :: l => bif (writeS x.1 x.2).2 != 0 then ([], (writeS x.1 x.2).2) else bif (writeAll l).2 != 0 then ([], (writeAll l).2) else ((writeS x.1 x.2).1 ++ (writeAll l).1, 0)
def isoW (m : List UInt8) (l : List El) : List UInt8 × Int :=
  bif !right m 4 4 then ([], 5) else bif !rises 1 (nos l) then ([], 1) else bif (writeAll l).2 != 0 then ([], (writeAll l).2) else
  bif decide (((m ++ rawW (nos l) ++ (writeAll l).1).length : Int) > 4096) then ([], 4) else (m ++ rawW (nos l) ++ (writeAll l).1, 0)
theorem nos_take {l : List El} {i : Nat} (h : i < l.length) : il ((nos l).take i) ++ [.int .i64 (l[i]).1] = il ((nos l).take (i + 1)) := by
  have : (nos l).take (i + 1) = (nos l).take i ++ [(l[i]).1] := by
    rw [List.take_succ_eq_append_getElem (show i < (nos l).length by rw [List.length_map]; exact h), List.getElem_map]
  rw [this, il, il, List.map_append]; rfl
theorem byteL (s : List UInt8) : List.map byte s = bl s := rfl
theorem mapW_ok {l : List Int} (h : rises 1 l = true) : mapW l = (rawW l, 0) := by unfold mapW; rw [h]; rfl
theorem mapW_no {l : List Int} (h : rises 1 l = false) : mapW l = ([], 1) := by unfold mapW; rw [h]; rfl
theorem Right_any (s : List UInt8) (lo hi : Int) (hh : hi < 1000000) : g_digits_Right s lo hi = some (right s lo hi) := by
  by_cases h2 : (s.length : Int) ≤ hi
  · exact Right_eq s lo hi (by omega)
  · unfold g_digits_Right right
    rw [decide_eq_false h2, Bool.and_false, Bool.false_and]
    by_cases h1 : (s.length : Int) ≥ lo <;> simp only [T_digits_Right, Tr.val_c, Tr.val_r, h1, h2, decide_true, decide_false, cond_true, cond_false]
theorem Pack_eq (m : List UInt8) (l : List El) (hl : l.length < 1000) : g_iso_Pack m (ea l) = some (bl (isoW m l).1, (isoW m l).2) := by
  unfold g_iso_Pack isoW
  cases hr : right m 4 4 with
  | false =>
    exact run_inr (x := (bl ([] : List UInt8), 5)) (by simp only [T_iso_Pack, Tr.val_c, Tr.val_r, val_opt, Right_any m 4 4 (by decide), hr, Option.bind_some, Bool.not_false, cond_true]; rfl)
  | true =>
    rw [Bool.not_true, cond_false]
    have m4 : m.length = 4 := by simp [right] at hr; omega
    have loop1 := run_count (step := M_iso_Pack m (ea l)) (f := fun i => (.inl ((i : Int), il ((nos l).take i)))) (n := l.length) (fun i hi => by
      have q1 : (i : Int) < l.length := by omega
      have q2 : (0 : Int) ≤ (i : Int) := by omega
      have w1 : IntKind.i64.wrap ((i : Int) + 1) = ((i + 1 : Nat) : Int) := by rw [i64_wrap (by omega) (by omega)]; omega
      have ll : (il ((nos l).take (i + 1))).length * 9 < 70368744177664 := by rw [List.length_map, List.length_take]; omega
      simp only [M_iso_Pack, Tr.val_c, Tr.val_r, List.length_map, q1, q2, Int.toNat_natCast, ea_no hi, nos_take hi, w1, decide_true, cond_true, beq_self_eq_true]
      rw [List.length_map] at ll
      simp only [ll, decide_true, cond_true])
    rw [run_inl (s := (.inl (((0 : Nat) : Int), il ((nos l).take 0)))) (by simp only [T_iso_Pack, Tr.val_c, Tr.val_r, val_opt, Right_any m 4 4 (by decide), hr, Option.bind_some, Bool.not_true, cond_false]; rfl)]
    refine loop1.trans ?_
    have et : (nos l).take l.length = nos l := List.take_of_length_le (by rw [List.length_map]; omega)
    rw [et]
    have q1 : ¬ ((l.length : Int) < l.length) := by omega
    have W := Write_map (nos l) (by rw [List.length_map]; omega)
    cases hs : rises 1 (nos l) with
    | false =>
      rw [mapW_no hs] at W
      exact run_inr (x := (bl ([] : List UInt8), 1)) (by simp only [M_iso_Pack, Tr.val_c, Tr.val_r, val_opt, List.length_map, q1, W, Option.bind_some, Bool.true_and, beq_self_eq_true, decide_false, cond_true, cond_false]; rfl)
    | true =>
      rw [mapW_ok hs] at W
      rw [Bool.not_true, cond_false]
      have rl := rawW_length (nos l)
      have rl2 : (rawW (nos l)).length ≤ 16 := by rw [rl]; cases bigL (nos l) <;> decide
      have C := Concat_eq (bl m) (bl (rawW (nos l))) (by rw [bl_length, bl_length]; omega)
      have z0 : ((0 : Int) != 0) = false := rfl
      rw [run_inl (s := (.inr (bl (m ++ rawW (nos l)), ((0 : Nat) : Int)))) (by simp only [M_iso_Pack, Tr.val_c, Tr.val_r, val_opt, List.length_map, q1, W, z0, byteL, C, bl_append, Option.bind_some, Bool.true_and, beq_self_eq_true, decide_false, cond_true, cond_false]; rfl)]
      have key : ∀ (k i : Nat) (B : List UInt8), i + k = l.length → B.length ≤ 20 + 1100 * i → run (M_iso_Pack m (ea l)) (M_iso_Pack m (ea l) (.inr (bl B, (i : Int)))) =
          some (bl (bif (writeAll (l.drop i)).2 != 0 then ([], (writeAll (l.drop i)).2) else bif decide (((B ++ (writeAll (l.drop i)).1).length : Int) > 4096) then ([], 4) else (B ++ (writeAll (l.drop i)).1, 0)).1,
            (bif (writeAll (l.drop i)).2 != 0 then ([], (writeAll (l.drop i)).2) else bif decide (((B ++ (writeAll (l.drop i)).1).length : Int) > 4096) then ([], 4) else (B ++ (writeAll (l.drop i)).1, 0)).2) := by
        intro k
        induction k with
        | zero =>
          intro i B hi hB
          have : i = l.length := by omega
          subst this
          rw [List.drop_length, writeAll]
          have z0 : (((([] : List UInt8), (0 : Int)) : List UInt8 × Int).2 != 0) = false := rfl
          rw [z0, cond_false]
          dsimp only
          rw [List.append_nil]
          by_cases hb : (B.length : Int) > 4096
          · rw [decide_eq_true hb]
            exact run_inr (x := (bl ([] : List UInt8), 4)) (by simp only [M_iso_Pack, Tr.val_c, Tr.val_r, List.length_map, bl_length, q1, hb, decide_true, decide_false, cond_true, cond_false]; rfl)
          · rw [decide_eq_false hb]
            exact run_inr (x := (bl B, 0)) (by simp only [M_iso_Pack, Tr.val_c, Tr.val_r, List.length_map, bl_length, q1, hb, decide_false, cond_false, beq_self_eq_true, cond_true])
        | succ k ih =>
          intro i B hi hB
          have hlt : i < l.length := by omega
          have q1 : (i : Int) < l.length := by omega
          have q2 : (0 : Int) ≤ (i : Int) := by omega
          have w1 : IntKind.i64.wrap ((i : Int) + 1) = ((i + 1 : Nat) : Int) := by rw [i64_wrap (by omega) (by omega)]; omega
          have w := Write_any (l[i]).1 (l[i]).2
          have wl := writeS_len (l[i]).1 (l[i]).2
          rw [List.drop_eq_getElem_cons hlt, writeAll]
          cases he : ((writeS (l[i]).1 (l[i]).2).2 != 0) with
          | true =>
            rw [cond_true]
            rw [show (((([] : List UInt8), (writeS (l[i]).1 (l[i]).2).2) : List UInt8 × Int).2 != 0) = true from he]
            exact run_inr (x := (bl ([] : List UInt8), (writeS (l[i]).1 (l[i]).2).2)) (by simp only [M_iso_Pack, Tr.val_c, Tr.val_r, val_opt, List.length_map, q1, q2, Int.toNat_natCast, ea_no hlt, ea_da hlt, w, he, Option.bind_some, decide_true, cond_true]; rfl)
          | false =>
            have ll : (bl B ++ bl (writeS (l[i]).1 (l[i]).2).1).length * 2 < 70368744177664 := by rw [List.length_append, bl_length, bl_length]; omega
            rw [run_inl (s := (.inr (bl (B ++ (writeS (l[i]).1 (l[i]).2).1), ((i + 1 : Nat) : Int)))) (by simp only [M_iso_Pack, Tr.val_c, Tr.val_r, val_opt, List.length_map, q1, q2, Int.toNat_natCast, ea_no hlt, ea_da hlt, w, he, ll, w1, bl_append, Option.bind_some, beq_self_eq_true, decide_true, cond_true, cond_false])]
            rw [ih (i + 1) _ (by omega) (by rw [List.length_append]; omega), cond_false]
            cases hx : ((writeAll (l.drop (i + 1))).2 != 0) with
            | true =>
              rw [cond_true, cond_true]
              rw [show (((([] : List UInt8), (writeAll (l.drop (i + 1))).2) : List UInt8 × Int).2 != 0) = true from hx]; rfl
            | false =>
              rw [cond_false, cond_false]
              show _ = some (bl (bif decide (((B ++ ((writeS (l[i]).1 (l[i]).2).1 ++ (writeAll (l.drop (i + 1))).1)).length : Int) > 4096) then ([], 4) else (B ++ ((writeS (l[i]).1 (l[i]).2).1 ++ (writeAll (l.drop (i + 1))).1), 0)).1, (bif decide (((B ++ ((writeS (l[i]).1 (l[i]).2).1 ++ (writeAll (l.drop (i + 1))).1)).length : Int) > 4096) then ([], 4) else (B ++ ((writeS (l[i]).1 (l[i]).2).1 ++ (writeAll (l.drop (i + 1))).1), 0)).2)
              rw [List.append_assoc]
      exact key l.length 0 _ (by omega) (by rw [List.length_append]; omega)
def readAll : List Int → List UInt8 → List El × List UInt8 × Int
  | [], b => ([], b, 0)
  | no :: l, b => bif (readS no b).2.2 != 0 then ([], b, (readS no b).2.2) else
      bif (readAll l (b.drop (readS no b).2.1.toNat)).2.2 != 0 then ([], b, (readAll l (b.drop (readS no b).2.1.toNat)).2.2) else
      ((no, (readS no b).1) :: (readAll l (b.drop (readS no b).2.1.toNat)).1, (readAll l (b.drop (readS no b).2.1.toNat)).2.1, 0)
def isoP (b : List UInt8) : (List UInt8 × List El) × Int :=
  bif decide ((b.length : Int) > 4096) then (([], []), 4) else bif decide ((b.length : Int) < 4) then (([], []), 3) else
  bif !right (b.take 4) 4 4 then (([], []), 5) else
  bif (mapP (b.drop 4)).2.2 != 0 then (([], []), (mapP (b.drop 4)).2.2) else
  bif (readAll (mapP (b.drop 4)).1 (b.drop (4 + (mapP (b.drop 4)).2.1.toNat))).2.2 != 0 then (([], []), (readAll (mapP (b.drop 4)).1 (b.drop (4 + (mapP (b.drop 4)).2.1.toNat))).2.2) else
  bif decide (((readAll (mapP (b.drop 4)).1 (b.drop (4 + (mapP (b.drop 4)).2.1.toNat))).2.1.length : Int) > 0) then (([], []), 17) else
  ((b.take 4, (readAll (mapP (b.drop 4)).1 (b.drop (4 + (mapP (b.drop 4)).2.1.toNat))).1), 0)
theorem readAll_ok : ∀ (L : List Int) (b : List UInt8), (readAll L b).2.2 = 0 → (readAll L b).1.length = L.length
  | [], _, _ => rfl
  | no :: l, b, h => by
    rw [readAll] at *
    cases h1 : ((readS no b).2.2 != 0) with
    | true => rw [h1] at h; simp only [cond_true] at h; rw [h] at h1; cases h1
    | false =>
      rw [h1] at h
      simp only [cond_false] at h ⊢
      cases h2 : ((readAll l (b.drop (readS no b).2.1.toNat)).2.2 != 0) with
      | true => rw [h2] at h; simp only [cond_true] at h; rw [h] at h2; cases h2
      | false =>
        have : (readAll l (b.drop (readS no b).2.1.toNat)).2.2 = 0 := by simpa using h2
        simp only [cond_false, List.length_cons, readAll_ok l _ this]
theorem walk_eq (no : Int) (b : List UInt8) (acc : List El) (hb : b.length < 1000000) (ha : acc.length < 1000) : g_iso_walk_read_p0500 no (bl b) (ea acc) =
    some (bif (readS no b).2.2 != 0 then ((readS no b).2.2, bl b, ea acc) else (0, bl (b.drop (readS no b).2.1.toNat), ea (acc ++ [(no, (readS no b).1)]))) := by
  have r := Read_eq no b hb
  unfold g_iso_walk_read_p0500
  cases h : ((readS no b).2.2 != 0) with
  | true =>
    have h' : ((readS no b).2.2 == 0) = false := by simpa using h
    simp only [T_iso_walk_read_p0500, Tr.val_c, Tr.val_r, val_opt, r, blR, h', Option.bind_some, cond_true, cond_false, beq_self_eq_true]
  | false =>
    have h0 : (readS no b).2.2 = 0 := by simpa using h
    have h' : ((readS no b).2.2 == 0) = true := by simpa using h
    obtain ⟨-, -, n1, n2⟩ := read_back h0
    have e : ea acc ++ [AV.agg [.int .i64 no, .slice 1 (.int .u8) (bl (readS no b).1) .ro]] = ea (acc ++ [(no, (readS no b).1)]) := by rw [ea, ea, List.map_append]; rfl
    have ll : (ea (acc ++ [(no, (readS no b).1)])).length * 33 < 70368744177664 := by rw [List.length_map, List.length_append, List.length_singleton]; omega
    have lb : (b.length : Int) ≤ b.length := Int.le_refl _
    have et : ((bl b).take b.length).drop (readS no b).2.1.toNat = bl (b.drop (readS no b).2.1.toNat) := by rw [bl_take, bl_drop, List.take_length]
    simp only [T_iso_walk_read_p0500, Tr.val_c, Tr.val_r, val_opt, r, blR, h', h0, e, ll, lb, et, n1, n2, bl_length, Option.bind_some, decide_true, cond_true, cond_false, beq_self_eq_true]
theorem each_eq (z0 z1 : List AV) (L : List Int) (hL : L.length < 500) : ∀ (k i : Nat) (b : List UInt8) (acc : List El), i + k = L.length → b.length < 1000000 → acc.length ≤ i →
    ∃ x y, run (M_iso_each_0fread_p500 (il L) z0 z1) (M_iso_each_0fread_p500 (il L) z0 z1 ((i : Int), bl b, ea acc)) = some ((readAll (L.drop i) b).2.2, x, y) ∧ ((readAll (L.drop i) b).2.2 = 0 → x = bl (readAll (L.drop i) b).2.1 ∧ y = ea (acc ++ (readAll (L.drop i) b).1))
  | 0, i, b, acc, hi, hb, ha => by
    have : i = L.length := by omega
    subst this
    have q1 : ¬ ((L.length : Int) < L.length) := by omega
    rw [List.drop_length]
    exact ⟨bl b, ea acc, run_inr (by simp only [M_iso_each_0fread_p500, Tr.val_c, Tr.val_r, List.length_map, q1, decide_false, cond_false, beq_self_eq_true, cond_true]; rfl), fun _ => ⟨rfl, by rw [readAll, List.append_nil]⟩⟩
  | k + 1, i, b, acc, hi, hb, ha => by
    have hlt : i < L.length := by omega
    have q1 : (i : Int) < L.length := by omega
    have q2 : (0 : Int) ≤ (i : Int) := by omega
    have w1 : IntKind.i64.wrap ((i : Int) + 1) = ((i + 1 : Nat) : Int) := by rw [i64_wrap (by omega) (by omega)]; omega
    have g : L.getD i 0 = L[i] := getDI_lt hlt
    have w := walk_eq L[i] b acc hb (by omega)
    rw [List.drop_eq_getElem_cons hlt, readAll]
    cases h : ((readS L[i] b).2.2 != 0) with
    | true =>
      rw [h, cond_true] at w
      refine ⟨bl b, ea acc, run_inr (by simp only [M_iso_each_0fread_p500, Tr.val_c, Tr.val_r, val_opt, List.length_map, q1, q2, Int.toNat_natCast, il_getD, g, w, h, Option.bind_some, decide_true, cond_true, beq_self_eq_true]), ?_⟩
      intro e
      simp only [cond_true] at e
      rw [e] at h; cases h
    | false =>
      rw [h, cond_false] at w
      have z : ((0 : Int) != 0) = false := rfl
      rw [run_inl (s := (((i + 1 : Nat) : Int), bl (b.drop (readS L[i] b).2.1.toNat), ea (acc ++ [(L[i], (readS L[i] b).1)]))) (by simp only [M_iso_each_0fread_p500, Tr.val_c, Tr.val_r, val_opt, List.length_map, q1, q2, Int.toNat_natCast, il_getD, g, w, z, w1, Option.bind_some, decide_true, cond_true, cond_false, beq_self_eq_true])]
      obtain ⟨x, y, e1, e2⟩ := each_eq z0 z1 L hL k (i + 1) (b.drop (readS L[i] b).2.1.toNat) (acc ++ [(L[i], (readS L[i] b).1)]) (by omega) (by rw [List.length_drop]; omega) (by rw [List.length_append, List.length_singleton]; omega)
      refine ⟨x, y, ?_, ?_⟩
      · rw [e1, cond_false]
        cases h2 : ((readAll (L.drop (i + 1)) (b.drop (readS L[i] b).2.1.toNat)).2.2 != 0) with
        | true => rfl
        | false => have : (readAll (L.drop (i + 1)) (b.drop (readS L[i] b).2.1.toNat)).2.2 = 0 := by simpa using h2
                   rw [this]; rfl
      · rw [cond_false]
        cases h2 : ((readAll (L.drop (i + 1)) (b.drop (readS L[i] b).2.1.toNat)).2.2 != 0) with
        | true => intro e; simp only [cond_true] at e; rw [e] at h2; cases h2
        | false =>
          intro _
          obtain ⟨a1, a2⟩ := e2 (by simpa using h2)
          exact ⟨a1, by rw [a2, cond_false, List.append_assoc]; rfl⟩
theorem mapP_len (b : List UInt8) : (mapP b).1.length ≤ 127 := by
  unfold mapP
  have w : ∀ lo k, (whichL b lo k).length ≤ k := fun lo k => by
    rw [whichL, List.length_map]
    have := List.length_filter_le (hasB b) (List.range' lo k)
    rwa [List.length_range'] at this
  cases decide (b.length < 8) with
  | true => simp
  | false =>
    cases hasB b 1 with
    | false => have := w 2 63; show (whichL b 2 63).length ≤ 127; omega
    | true =>
      cases decide (b.length < 16) with
      | true => simp
      | false =>
        cases hasB b 65 || (whichL b 66 63).isEmpty with
        | true => simp
        | false => exact w 2 127
theorem IParse_eq (b : List UInt8) (hb : b.length < 1000000) : g_iso_Parse (bl b) = some ((isoP b).1.1, ea (isoP b).1.2, (isoP b).2) := by
  unfold g_iso_Parse isoP
  by_cases h1 : (b.length : Int) > 4096
  · rw [decide_eq_true h1]
    simp only [T_iso_Parse, Tr.val_c, Tr.val_r, bl_length, h1, decide_true, cond_true]; rfl
  · rw [decide_eq_false h1, cond_false]
    have N := New_eq (bl b) (by rw [bl_length]; omega)
    have t := CText_eq 4 (bl b) 0 (by omega) (by rw [bl_length]; omega)
    have n0 : ¬ ((4 : Int) < 0) := by decide
    rw [if_neg n0, bl_length] at t
    by_cases h2 : (b.length : Int) < 4
    · rw [decide_eq_true h2, cond_true]
      rw [if_pos (by omega)] at t
      have z3 : ((3 : Int) != 0) = true := rfl
      have e0 : (((0 : Nat) : Int)) = (0 : Int) := rfl
      rw [e0] at t
      simp only [T_iso_Parse, Tr.val_c, Tr.val_r, val_opt, bl_length, h1, N, t, z3, Option.bind_some, decide_false, cond_true, cond_false]; rfl
    · rw [decide_eq_false h2, cond_false]
      rw [if_neg (by omega)] at t
      have e4 : bytesOf (((bl b).drop 0).take (4 : Int).toNat) = b.take 4 := by rw [List.drop_zero, show (4 : Int).toNat = 4 from rfl, bl_take, bytesOf_bl']
      rw [e4] at t
      have e0 : (((0 : Nat) : Int)) = (0 : Int) := rfl
      rw [e0] at t
      have z0 : ((0 : Int) != 0) = false := rfl
      have R := Right_eq (b.take 4) 4 4 (by rw [List.length_take]; omega)
      cases hr : right (b.take 4) 4 4 with
      | false =>
        rw [hr] at R
        simp only [T_iso_Parse, Tr.val_c, Tr.val_r, val_opt, bl_length, h1, N, t, z0, R, Option.bind_some, decide_false, cond_true, cond_false, Bool.not_false]; rfl
      | true =>
        rw [hr] at R
        have q4 : (4 : Int) ≤ b.length := by omega
        have qq : (b.length : Int) ≤ b.length := Int.le_refl _
        have ed : ((bl b).take b.length).drop 4 = bl (b.drop 4) := by rw [bl_take, List.take_length, bl_drop]
        have P := Parse_map (b.drop 4) (by rw [List.length_drop]; omega)
        cases hm : ((mapP (b.drop 4)).2.2 != 0) with
        | true =>
          simp only [T_iso_Parse, Tr.val_c, Tr.val_r, val_opt, bl_length, h1, N, t, z0, R, q4, qq, ed, P, hm, Option.bind_some, decide_true, decide_false, cond_true, cond_false, Bool.not_true]; rfl
        | false =>
          have hm0 : (mapP (b.drop 4)).2.2 = 0 := by simpa using hm
          obtain ⟨-, m1, m2, -⟩ := mapW_parsed hm0
          rw [List.length_drop] at m2
          have w : IntKind.i64.wrap (4 + (mapP (b.drop 4)).2.1) = ((4 + (mapP (b.drop 4)).2.1.toNat : Nat) : Int) := by rw [i64_wrap (by omega) (by omega)]; omega
          have q5 : (0 : Int) ≤ ((4 + (mapP (b.drop 4)).2.1.toNat : Nat) : Int) := by omega
          have q6 : ((4 + (mapP (b.drop 4)).2.1.toNat : Nat) : Int) ≤ (b.length : Int) := by omega
          have ee : ((bl b).take b.length).drop (4 + (mapP (b.drop 4)).2.1.toNat) = bl (b.drop (4 + (mapP (b.drop 4)).2.1.toNat)) := by rw [bl_take, List.take_length, bl_drop]
          have ml := mapP_len (b.drop 4)
          obtain ⟨x, y, e1, e2⟩ := each_eq (bl (b.drop (4 + (mapP (b.drop 4)).2.1.toNat))) [] (mapP (b.drop 4)).1 (by omega) (mapP (b.drop 4)).1.length 0 (b.drop (4 + (mapP (b.drop 4)).2.1.toNat)) [] (by omega) (by rw [List.length_drop]; omega) (by simp)
          have E : g_iso_each_0fread_p500 (il (mapP (b.drop 4)).1) (bl (b.drop (4 + (mapP (b.drop 4)).2.1.toNat))) [] = some ((readAll (mapP (b.drop 4)).1 (b.drop (4 + (mapP (b.drop 4)).2.1.toNat))).2.2, x, y) := by
            unfold g_iso_each_0fread_p500
            rw [run_inl (s := (((0 : Nat) : Int), bl (b.drop (4 + (mapP (b.drop 4)).2.1.toNat)), ea [])) rfl, e1, List.drop_zero]
          rw [List.drop_zero] at e2
          generalize readAll (mapP (b.drop 4)).1 (b.drop (4 + (mapP (b.drop 4)).2.1.toNat)) = r at *
          cases hx : (r.2.2 != 0) with
          | true =>
            simp only [T_iso_Parse, Tr.val_c, Tr.val_r, val_opt, bl_length, h1, N, t, z0, R, q4, qq, ed, P, hm, w, q5, q6, Int.toNat_natCast, ee, E, hx, Option.bind_some, decide_true, decide_false, cond_true, cond_false, Bool.not_true]; rfl
          | false =>
            obtain ⟨rfl, rfl⟩ := e2 (by simpa using hx)
            by_cases h3 : (r.2.1.length : Int) > 0
            · simp only [T_iso_Parse, Tr.val_c, Tr.val_r, val_opt, bl_length, h1, N, t, z0, R, q4, qq, ed, P, hm, w, q5, q6, Int.toNat_natCast, ee, E, hx, h3, Option.bind_some, decide_true, decide_false, cond_true, cond_false, Bool.not_true]; rfl
            · simp only [T_iso_Parse, Tr.val_c, Tr.val_r, val_opt, bl_length, h1, N, t, z0, R, q4, qq, ed, P, hm, w, q5, q6, Int.toNat_natCast, ee, E, hx, h3, Option.bind_some, decide_true, decide_false, cond_true, cond_false, Bool.not_true, beq_self_eq_true, List.nil_append]
theorem readAll_written : ∀ (l : List El) (t : List UInt8), (writeAll l).2 = 0 → readAll (nos l) ((writeAll l).1 ++ t) = (l, t, 0)
  | [], t, _ => rfl
  | x :: l, t, h => by
    rw [writeAll] at h ⊢
    cases h1 : ((writeS x.1 x.2).2 != 0) with
    | true => rw [h1] at h; simp only [cond_true] at h; rw [h] at h1; cases h1
    | false =>
      rw [h1] at h
      rw [cond_false] at h ⊢
      cases h2 : ((writeAll l).2 != 0) with
      | true => rw [h2] at h; simp only [cond_true] at h; rw [h] at h2; cases h2
      | false =>
        have w0 : (writeS x.1 x.2).2 = 0 := by simpa using h1
        rw [writeS_err] at w0
        have h0 : (writeAll l).2 = 0 := by simpa using h2
        obtain ⟨r1, -⟩ := read_written w0 ((writeAll l).1 ++ t)
        rw [cond_false]
        show readAll (x.1 :: nos l) ((writeS x.1 x.2).1 ++ (writeAll l).1 ++ t) = _
        rw [List.append_assoc, readAll, r1]
        have z : ((0 : Int) != 0) = false := rfl
        have d : ((writeS x.1 x.2).1 ++ ((writeAll l).1 ++ t)).drop (((writeS x.1 x.2).1.length : Nat) : Int).toNat = (writeAll l).1 ++ t := by
          rw [Int.toNat_natCast, List.drop_left]
        dsimp only
        rw [d, readAll_written l t h0, z]
        simp only [cond_false, z]
theorem isoW_parts {m : List UInt8} {l : List El} (h : (isoW m l).2 = 0) : right m 4 4 = true ∧ rises 1 (nos l) = true ∧ (writeAll l).2 = 0 ∧ (isoW m l).1 = m ++ rawW (nos l) ++ (writeAll l).1 ∧ ((isoW m l).1.length : Int) ≤ 4096 ∧ m.length = 4 := by
  unfold isoW at *
  cases h1 : right m 4 4 with
  | false => rw [h1] at h; simp at h
  | true =>
    rw [h1] at h
    cases h2 : rises 1 (nos l) with
    | false => rw [h2] at h; simp at h
    | true =>
      rw [h2] at h
      simp only [Bool.not_true, cond_false] at h ⊢
      cases h3 : ((writeAll l).2 != 0) with
      | true => rw [h3] at h; simp only [cond_true] at h; rw [h] at h3; cases h3
      | false =>
        rw [h3] at h
        simp only [cond_false] at h ⊢
        by_cases h4 : ((m ++ rawW (nos l) ++ (writeAll l).1).length : Int) > 4096
        · rw [decide_eq_true h4] at h; simp at h
        · rw [decide_eq_false h4]
          simp only [cond_false]
          exact ⟨trivial, trivial, by simpa using h3, trivial, by omega, by simp [right] at h1; omega⟩
theorem isoP_written {m : List UInt8} {l : List El} (h : (isoW m l).2 = 0) (t : List UInt8) : isoP ((isoW m l).1 ++ t) = if 4096 < ((isoW m l).1 ++ t).length then (([], []), 4) else if t = [] then ((m, l), 0) else (([], []), 17) := by
  obtain ⟨h1, h2, h3, h4, h5, h6⟩ := isoW_parts h
  unfold isoP
  by_cases hb : 4096 < ((isoW m l).1 ++ t).length
  · rw [if_pos hb, decide_eq_true (by omega)]; rfl
  · rw [if_neg hb, decide_eq_false (by omega), cond_false, h4]
    have e1 : m ++ rawW (nos l) ++ (writeAll l).1 ++ t = m ++ (rawW (nos l) ++ ((writeAll l).1 ++ t)) := by simp only [List.append_assoc]
    rw [e1]
    have t4 : (m ++ (rawW (nos l) ++ ((writeAll l).1 ++ t))).take 4 = m := by rw [← h6]; exact List.take_left
    have d4 : (m ++ (rawW (nos l) ++ ((writeAll l).1 ++ t))).drop 4 = rawW (nos l) ++ ((writeAll l).1 ++ t) := by rw [← h6]; exact List.drop_left
    rw [t4, d4, h1, mapP_raw h2, decide_eq_false (by rw [List.length_append]; omega)]
    have z : ((0 : Int) != 0) = false := rfl
    simp only [Bool.not_true, cond_false, z, Int.toNat_natCast]
    have d5 : (m ++ (rawW (nos l) ++ ((writeAll l).1 ++ t))).drop (4 + (rawW (nos l)).length) = (writeAll l).1 ++ t := by
      rw [← List.drop_drop, d4, List.drop_left]
    simp only [d5, readAll_written l t h3]
    cases t with
    | nil => rfl
    | cons c t =>
      have : decide (((c :: t).length : Int) > 0) = true := by simp
      simp only [z, cond_false, this, cond_true]
      rfl
theorem readAll_parsed : ∀ (L : List Int) (b : List UInt8), (readAll L b).2.2 = 0 → nos (readAll L b).1 = L ∧ (writeAll (readAll L b).1).2 = 0 ∧ (writeAll (readAll L b).1).1 ++ (readAll L b).2.1 = b
  | [], b, _ => ⟨rfl, rfl, rfl⟩
  | no :: l, b, h => by
    rw [readAll] at h ⊢
    cases h1 : ((readS no b).2.2 != 0) with
    | true => rw [h1] at h; simp only [cond_true] at h; rw [h] at h1; cases h1
    | false =>
      rw [h1] at h
      rw [cond_false] at h ⊢
      cases h2 : ((readAll l (b.drop (readS no b).2.1.toNat)).2.2 != 0) with
      | true => rw [h2] at h; simp only [cond_true] at h; rw [h] at h2; cases h2
      | false =>
        obtain ⟨i1, i2, i3⟩ := readAll_parsed l (b.drop (readS no b).2.1.toNat) (by simpa using h2)
        obtain ⟨c1, c2, c3, c4⟩ := read_back (show (readS no b).2.2 = 0 by simpa using h1)
        have z : ((0 : Int) != 0) = false := rfl
        rw [cond_false]
        generalize readAll l (b.drop (readS no b).2.1.toNat) = r at i1 i2 i3 ⊢
        dsimp only
        refine ⟨by rw [nos, List.map_cons]; exact congrArg _ i1, ?_, ?_⟩
        · rw [writeAll, writeS_err, c1, i2]; rfl
        · rw [writeAll, writeS_err, c1, i2]
          simp only [z, cond_false]
          rw [c2, List.append_assoc, i3, List.take_append_drop]
theorem isoW_parsed {b : List UInt8} (h : (isoP b).2 = 0) : isoW (isoP b).1.1 (isoP b).1.2 = (b, 0) := by
  unfold isoP at *
  by_cases h1 : (b.length : Int) > 4096
  · rw [decide_eq_true h1] at h; simp at h
  · rw [decide_eq_false h1] at h ⊢
    by_cases h2 : (b.length : Int) < 4
    · rw [decide_eq_true h2] at h; simp at h
    · rw [decide_eq_false h2] at h ⊢
      simp only [cond_false] at h ⊢
      cases hr : right (b.take 4) 4 4 with
      | false => rw [hr] at h; simp at h
      | true =>
        rw [hr] at h
        simp only [Bool.not_true, cond_false] at h ⊢
        cases hm : ((mapP (b.drop 4)).2.2 != 0) with
        | true => rw [hm] at h; simp only [cond_true] at h; rw [h] at hm; cases hm
        | false =>
          rw [hm] at h
          simp only [cond_false] at h ⊢
          obtain ⟨m0, m1, m2, m3⟩ := mapW_parsed (show (mapP (b.drop 4)).2.2 = 0 by simpa using hm)
          rw [List.length_drop] at m2
          generalize mapP (b.drop 4) = q at *
          cases hx : ((readAll q.1 (b.drop (4 + q.2.1.toNat))).2.2 != 0) with
          | true => rw [hx] at h; simp only [cond_true] at h; rw [h] at hx; cases hx
          | false =>
            rw [hx] at h
            simp only [cond_false] at h ⊢
            obtain ⟨i1, i2, i3⟩ := readAll_parsed q.1 (b.drop (4 + q.2.1.toNat)) (by simpa using hx)
            generalize readAll q.1 (b.drop (4 + q.2.1.toNat)) = r at *
            by_cases h3 : (r.2.1.length : Int) > 0
            · rw [decide_eq_true h3] at h; simp at h
            · rw [decide_eq_false h3]
              have e0 : r.2.1 = [] := List.length_eq_zero_iff.1 (by omega)
              rw [e0, List.append_nil] at i3
              simp only [cond_false]
              have eb : b.take 4 ++ rawW q.1 ++ (writeAll r.1).1 = b := by
                rw [m3, i3, List.append_assoc]
                have : (b.drop 4).take q.2.1.toNat ++ b.drop (4 + q.2.1.toNat) = b.drop 4 := by rw [← List.drop_drop, List.take_append_drop]
                rw [this, List.take_append_drop]
              unfold isoW
              have z : ((0 : Int) != 0) = false := rfl
              rw [hr, i1, m0, i2, eb, decide_eq_false h1]
              rfl
theorem isoP_cut {m : List UInt8} {l : List El} (h : (isoW m l).2 = 0) (n : Nat) (hn : n < (isoW m l).1.length) : (isoP ((isoW m l).1.take n)).2 ≠ 0 := by
  intro e
  have w := isoW_parsed e
  obtain ⟨-, -, -, -, h5, -⟩ := isoW_parts h
  have p := isoP_written (m := (isoP ((isoW m l).1.take n)).1.1) (l := (isoP ((isoW m l).1.take n)).1.2) (by rw [w]) ((isoW m l).1.drop n)
  rw [w] at p
  simp only at p
  rw [List.take_append_drop, if_neg (by omega), if_neg (by intro e; have := congrArg List.length e; rw [List.length_drop, List.length_nil] at this; omega)] at p
  have p2 := isoP_written h []
  rw [List.append_nil, if_neg (by omega), if_pos rfl] at p2
  rw [p2] at p
  cases p
def wErr : List El → Int
  | [] => 0
  | x :: l => bif checkS x.1 x.2 != 0 then checkS x.1 x.2 else wErr l
def isoE (m : List UInt8) (l : List El) : Int := bif !right m 4 4 then 5 else bif !rises 1 (nos l) then 1 else wErr l
theorem writeAll_err : ∀ l : List El, (writeAll l).2 = wErr l ∧ (writeAll l).1.length ≤ 1100 * l.length
  | [] => ⟨rfl, by simp [writeAll]⟩
  | x :: l => by
    obtain ⟨i1, i2⟩ := writeAll_err l
    have wl := writeS_len x.1 x.2
    rw [writeAll, wErr, writeS_err]
    cases h1 : (checkS x.1 x.2 != 0) with
    | true => simp
    | false =>
      simp only [cond_false, i1]
      cases h2 : (wErr l != 0) with
      | true => simp
      | false => 
        have : wErr l = 0 := by simpa using h2
        simp only [cond_false, this, List.length_append, List.length_cons]
        exact ⟨trivial, by omega⟩
theorem isoW_err {m : List UInt8} {l : List El} (hl : l.length ≤ 3) : (isoW m l).2 = isoE m l := by
  obtain ⟨i1, i2⟩ := writeAll_err l
  unfold isoW isoE
  cases hr : right m 4 4 with
  | false => rfl
  | true =>
    have m4 : m.length = 4 := by simp [right] at hr; omega
    have rl := rawW_length (nos l)
    have rl2 : (rawW (nos l)).length ≤ 16 := by rw [rl]; cases bigL (nos l) <;> decide
    cases hs : rises 1 (nos l) with
    | false => rfl
    | true =>
      rw [decide_eq_false (show ¬ (((m ++ rawW (nos l) ++ (writeAll l).1).length : Int) > 4096) by rw [List.length_append, List.length_append]; omega), i1]
      simp only [Bool.not_true, cond_false]
      cases h2 : (wErr l != 0) with
      | true => rfl
      | false => 
        have : wErr l = 0 := by simpa using h2
        rw [this]; rfl
theorem isoW_none {m : List UInt8} {l : List El} (h : (isoW m l).2 ≠ 0) : (isoW m l).1 = [] := by
  unfold isoW at *
  cases h1 : right m 4 4 with
  | false => rfl
  | true =>
    rw [h1] at h
    cases h2 : rises 1 (nos l) with
    | false => rfl
    | true =>
      rw [h2] at h
      simp only [Bool.not_true, cond_false] at h ⊢
      cases h3 : ((writeAll l).2 != 0) with
      | true => rfl
      | false =>
        rw [h3] at h
        simp only [cond_false] at h ⊢
        by_cases h4 : ((m ++ rawW (nos l) ++ (writeAll l).1).length : Int) > 4096
        · rw [decide_eq_true h4]; rfl
        · rw [decide_eq_false h4] at h; simp at h
theorem isoW_pos {m : List UInt8} {l : List El} (h : (isoW m l).2 = 0) : 4 ≤ (isoW m l).1.length := by
  obtain ⟨-, -, -, h4, -, h6⟩ := isoW_parts h
  rw [h4, List.length_append, List.length_append]; omega
theorem awake17 : g_comptoirlaw17_awake = some true := by
  have e : (isoW [50, 49, 48, 48] [(2, [49, 50])]).2 = 0 := by rw [isoW_err (by decide)]; decide +kernel
  have a := Pack_eq [50, 49, 48, 48] [(2, [49, 50])] (by decide)
  have l := (isoW_parts e).2.2.2.2.1
  have p := isoP_written e []
  rw [List.append_nil, if_neg (by omega), if_pos rfl] at p
  have b := IParse_eq (isoW [50, 49, 48, 48] [(2, [49, 50])]).1 (by omega)
  rw [p] at b
  rw [e] at a
  generalize (isoW [50, 49, 48, 48] [(2, [49, 50])]).1 = x at *
  have a' : g_iso_Pack [50, 49, 48, 48] [.agg [.int .i64 2, .slice 1 (.int .u8) [.int .u8 49, .int .u8 50] .ro]] = some (bl x, 0) := a
  unfold g_comptoirlaw17_awake
  simp only [T_comptoirlaw17_awake, Tr.val_c, Tr.val_r, val_opt, a', b, Option.bind_some, beq_self_eq_true, cond_true]
  rfl
theorem SameEl_self (L : List AV) (hL : L.length < 8796093022208) : g_comptoirhelp_Same_api_Element_00fElement_ L L = some true := by
  unfold g_comptoirhelp_Same_api_Element_00fElement_
  rw [run_inl (s := (0 : Int)) (by simp only [T_comptoirhelp_Same_api_Element_00fElement_, Tr.val_c, Tr.val_r, bne_self_eq_false, cond_false])]
  have tq : ∀ a b, g_comptoirhelp_Element a b a b = some true := fun a b => by
    unfold g_comptoirhelp_Element
    simp only [T_comptoirhelp_Element, Tr.val_c, Tr.val_r, beq_self_eq_true, cond_true]
  exact run_until (f := fun i => (i : Int)) (n := L.length) (fun i hi => by
    have q1 : (i : Int) < L.length := by omega
    have q2 : (0 : Int) ≤ i := by omega
    have w : IntKind.i64.wrap ((i : Int) + 1) = ((i + 1 : Nat) : Int) := by rw [i64_wrap (by omega) (by omega)]; omega
    simp only [M_comptoirhelp_Same_api_Element_00fElement_, Tr.val_c, Tr.val_r, val_opt, q1, q2, w, tq, Option.bind_some, decide_true, cond_true, Bool.not_true, cond_false]) (by
    have q1 : ¬ ((L.length : Int) < L.length) := by omega
    simp only [M_comptoirhelp_Same_api_Element_00fElement_, Tr.val_c, Tr.val_r, q1, decide_false, cond_false])
theorem Iso_self (s : List UInt8) (L : List AV) (hL : L.length < 8796093022208) : g_comptoirhelp_Iso s L s L = some true := by
  unfold g_comptoirhelp_Iso
  simp only [T_comptoirhelp_Iso, Tr.val_c, Tr.val_r, val_opt, SameEl_self L hL, Option.bind_some, beq_self_eq_true, cond_true]
theorem isoP_few (b : List UInt8) : (isoP b).1.2.length ≤ 127 ∧ (isoP b).1.1.length ≤ 4 := by
  unfold isoP
  cases decide ((b.length : Int) > 4096) with
  | true => simp
  | false =>
    cases decide ((b.length : Int) < 4) with
    | true => simp
    | false =>
      cases !right (b.take 4) 4 4 with
      | true => simp
      | false =>
        cases (mapP (b.drop 4)).2.2 != 0 with
        | true => simp
        | false =>
          have ml := mapP_len (b.drop 4)
          generalize mapP (b.drop 4) = q at ml ⊢
          cases hx : (readAll q.1 (b.drop (4 + q.2.1.toNat))).2.2 != 0 with
          | true => simp
          | false =>
            have := readAll_ok q.1 (b.drop (4 + q.2.1.toNat)) (by simpa using hx)
            generalize readAll q.1 (b.drop (4 + q.2.1.toNat)) = r at this ⊢
            cases decide ((r.2.1.length : Int) > 0) with
            | true => simp
            | false => simp only [cond_false, List.length_take]; omega
theorem els_of : ∀ {L : List AV}, (∀ y ∈ L, Wf (.agg [.int .i64, .slice 1 (.int .u8)]) y) → ∃ l : List El, L = ea l ∧ ∀ x ∈ l, x.2.length < TOP
  | [], _ => ⟨[], rfl, by simp⟩
  | y :: L, h => by
    obtain ⟨l, e, hl⟩ := els_of (L := L) fun z hz => h z (List.mem_cons_of_mem _ hz)
    obtain ⟨cs, rfl, hw⟩ : ∃ cs, y = .agg cs ∧ WfL [.int .i64, .slice 1 (.int .u8)] cs := h y (by simp)
    have hlen : cs.length = 2 := WfL.length hw
    match cs, hlen with
    | [a, d], _ =>
      obtain ⟨n, rfl, -⟩ : Wf (.int .i64) a := wfL_get hw 0 _ rfl
      obtain ⟨c, rfl, hc⟩ := wf_bytes (wfL_get hw 1 _ rfl : Wf (.slice 1 (.int .u8)) d)
      refine ⟨(n, c) :: l, by rw [e]; rfl, ?_⟩
      intro x hx
      rcases List.mem_cons.1 hx with rfl | hx
      · exact hc
      · exact hl x hx
theorem refCheck_any (no : Int) (s : List UInt8) : g_comptoirref16_CheckElement no (bl s) = some (checkS no s) := by
  by_cases h : s.length < 1000000
  · exact refCheck_eq no s (by omega)
  · unfold g_comptoirref16_CheckElement checkS
    rcases fmtF_cases no with e | ⟨k, d, m, e, k1, k2, d1, d2, m1, m2, dm, dn⟩
    · simp only [T_comptoirref16_CheckElement, val_opt, Tr.val_c, Tr.val_r, refFormat_eq, e, Option.bind_some, Bool.not_false, cond_true]
    · have l : longB d m s.length = false := by simp only [longB, Bool.or_eq_false_iff, Bool.and_eq_false_iff, decide_eq_false_iff_not]; omega
      have n1 : ((s.length : Int) != m) = true := by rw [bne_iff_ne]; omega
      have n2 : ¬ (s.length : Int) < 1 := by omega
      have n3 : (s.length : Int) > m := by omega
      simp only [T_comptoirref16_CheckElement, val_opt, Tr.val_c, Tr.val_r, refFormat_eq, e, Option.bind_some, Bool.not_true, cond_false, bl_length, n1, n2, n3, l, decide_true, decide_false, cond_true, Bool.not_false]
      cases d == 0 <;> rfl
theorem refWrite_any (no : Int) (s : List UInt8) : g_comptoirref16_WriteElement no (bl s) = some (bl (writeS no s).1, (writeS no s).2) := by
  by_cases h0 : checkS no s = 0
  · exact refWrite_eq no s (by have := check_len h0; omega)
  · unfold g_comptoirref16_WriteElement writeS
    rw [if_pos h0]
    have z : (checkS no s != 0) = true := by simpa using h0
    simp only [T_comptoirref16_WriteElement, Tr.val_c, Tr.val_r, val_opt, refCheck_any no s, z, Option.bind_some, cond_true]; rfl
theorem refPack_eq (m : List UInt8) (l : List El) (hl : l.length < 1000) (hm : m.length < 9223372036854775808) : g_comptoirref16_PackIso m (ea l) = some (bl (isoW m l).1, (isoW m l).2) := by
  unfold g_comptoirref16_PackIso isoW
  cases hr : right m 4 4 with
  | false =>
    exact run_inr (x := (bl ([] : List UInt8), 5)) (by simp only [T_comptoirref16_PackIso, Tr.val_c, Tr.val_r, val_opt, refRight_eq m 4 4 hm, hr, Option.bind_some, Bool.not_false, cond_true]; rfl)
  | true =>
    rw [Bool.not_true, cond_false]
    have m4 : m.length = 4 := by simp [right] at hr; omega
    have loop1 := run_count (step := M_comptoirref16_PackIso m (ea l)) (f := fun i => (.inl ((i : Int), il ((nos l).take i)))) (n := l.length) (fun i hi => by
      have q1 : (i : Int) < l.length := by omega
      have q2 : (0 : Int) ≤ (i : Int) := by omega
      have w1 : IntKind.i64.wrap ((i : Int) + 1) = ((i + 1 : Nat) : Int) := by rw [i64_wrap (by omega) (by omega)]; omega
      have ll : (il ((nos l).take (i + 1))).length * 9 < 70368744177664 := by rw [List.length_map, List.length_take]; omega
      simp only [M_comptoirref16_PackIso, Tr.val_c, Tr.val_r, List.length_map, q1, q2, Int.toNat_natCast, ea_no hi, nos_take hi, w1, decide_true, cond_true, beq_self_eq_true]
      rw [List.length_map] at ll
      simp only [ll, decide_true, cond_true])
    rw [run_inl (s := (.inl (((0 : Nat) : Int), il ((nos l).take 0)))) (by simp only [T_comptoirref16_PackIso, Tr.val_c, Tr.val_r, val_opt, refRight_eq m 4 4 hm, hr, Option.bind_some, Bool.not_true, cond_false]; rfl)]
    refine loop1.trans ?_
    have et : (nos l).take l.length = nos l := List.take_of_length_le (by rw [List.length_map]; omega)
    rw [et]
    have q1 : ¬ ((l.length : Int) < l.length) := by omega
    have W := refWriteMap_eq (nos l) (by rw [List.length_map]; omega)
    cases hs : rises 1 (nos l) with
    | false =>
      rw [mapW_no hs] at W
      exact run_inr (x := (bl ([] : List UInt8), 1)) (by simp only [M_comptoirref16_PackIso, Tr.val_c, Tr.val_r, val_opt, List.length_map, q1, W, Option.bind_some, Bool.true_and, beq_self_eq_true, decide_false, cond_true, cond_false]; rfl)
    | true =>
      rw [mapW_ok hs] at W
      rw [Bool.not_true, cond_false]
      have rl := rawW_length (nos l)
      have rl2 : (rawW (nos l)).length ≤ 16 := by rw [rl]; cases bigL (nos l) <;> decide
      have l0 : (bl m ++ bl (rawW (nos l))).length * 2 < 70368744177664 := by rw [List.length_append, bl_length, bl_length]; omega
      have z0 : ((0 : Int) != 0) = false := rfl
      rw [run_inl (s := (.inr (bl (m ++ rawW (nos l)), (0 : Int), ((0 : Nat) : Int)))) (by simp only [M_comptoirref16_PackIso, Tr.val_c, Tr.val_r, val_opt, List.length_map, q1, W, z0, byteL, l0, bl_append, Option.bind_some, Bool.true_and, beq_self_eq_true, decide_true, decide_false, cond_true, cond_false]; rfl)]
      have key : ∀ (k i : Nat) (B : List UInt8), i + k = l.length → B.length ≤ 20 + 1100 * i → run (M_comptoirref16_PackIso m (ea l)) (M_comptoirref16_PackIso m (ea l) (.inr (bl B, (0 : Int), (i : Int)))) =
          some (bl (bif (writeAll (l.drop i)).2 != 0 then ([], (writeAll (l.drop i)).2) else bif decide (((B ++ (writeAll (l.drop i)).1).length : Int) > 4096) then ([], 4) else (B ++ (writeAll (l.drop i)).1, 0)).1,
            (bif (writeAll (l.drop i)).2 != 0 then ([], (writeAll (l.drop i)).2) else bif decide (((B ++ (writeAll (l.drop i)).1).length : Int) > 4096) then ([], 4) else (B ++ (writeAll (l.drop i)).1, 0)).2) := by
        intro k
        induction k with
        | zero =>
          intro i B hi hB
          have : i = l.length := by omega
          subst this
          rw [List.drop_length, writeAll]
          have z0 : (((([] : List UInt8), (0 : Int)) : List UInt8 × Int).2 != 0) = false := rfl
          rw [z0, cond_false]
          dsimp only
          rw [List.append_nil]
          by_cases hb : (B.length : Int) > 4096
          · rw [decide_eq_true hb]
            exact run_inr (x := (bl ([] : List UInt8), 4)) (by simp only [M_comptoirref16_PackIso, Tr.val_c, Tr.val_r, List.length_map, bl_length, q1, hb, decide_true, decide_false, cond_true, cond_false]; rfl)
          · rw [decide_eq_false hb]
            exact run_inr (x := (bl B, 0)) (by simp only [M_comptoirref16_PackIso, Tr.val_c, Tr.val_r, List.length_map, bl_length, q1, hb, decide_false, cond_false, beq_self_eq_true, cond_true])
        | succ k ih =>
          intro i B hi hB
          have hlt : i < l.length := by omega
          have q1 : (i : Int) < l.length := by omega
          have q2 : (0 : Int) ≤ (i : Int) := by omega
          have w1 : IntKind.i64.wrap ((i : Int) + 1) = ((i + 1 : Nat) : Int) := by rw [i64_wrap (by omega) (by omega)]; omega
          have w := refWrite_any (l[i]).1 (l[i]).2
          have wl := writeS_len (l[i]).1 (l[i]).2
          rw [List.drop_eq_getElem_cons hlt, writeAll]
          cases he : ((writeS (l[i]).1 (l[i]).2).2 != 0) with
          | true =>
            rw [cond_true]
            rw [show (((([] : List UInt8), (writeS (l[i]).1 (l[i]).2).2) : List UInt8 × Int).2 != 0) = true from he]
            exact run_inr (x := (bl ([] : List UInt8), (writeS (l[i]).1 (l[i]).2).2)) (by simp only [M_comptoirref16_PackIso, Tr.val_c, Tr.val_r, val_opt, List.length_map, q1, q2, Int.toNat_natCast, ea_no hlt, ea_da hlt, w, he, Option.bind_some, decide_true, cond_true]; rfl)
          | false =>
            have ll : (bl B ++ bl (writeS (l[i]).1 (l[i]).2).1).length * 2 < 70368744177664 := by rw [List.length_append, bl_length, bl_length]; omega
            rw [run_inl (s := (.inr (bl (B ++ (writeS (l[i]).1 (l[i]).2).1), (0 : Int), ((i + 1 : Nat) : Int)))) (by simp only [M_comptoirref16_PackIso, Tr.val_c, Tr.val_r, val_opt, List.length_map, q1, q2, Int.toNat_natCast, ea_no hlt, ea_da hlt, w, he, ll, w1, bl_append, Option.bind_some, beq_self_eq_true, decide_true, cond_true, cond_false])]
            rw [ih (i + 1) _ (by omega) (by rw [List.length_append]; omega), cond_false]
            cases hx : ((writeAll (l.drop (i + 1))).2 != 0) with
            | true =>
              rw [cond_true, cond_true]
              rw [show (((([] : List UInt8), (writeAll (l.drop (i + 1))).2) : List UInt8 × Int).2 != 0) = true from hx]; rfl
            | false =>
              rw [cond_false, cond_false]
              show _ = some (bl (bif decide (((B ++ ((writeS (l[i]).1 (l[i]).2).1 ++ (writeAll (l.drop (i + 1))).1)).length : Int) > 4096) then ([], 4) else (B ++ ((writeS (l[i]).1 (l[i]).2).1 ++ (writeAll (l.drop (i + 1))).1), 0)).1, (bif decide (((B ++ ((writeS (l[i]).1 (l[i]).2).1 ++ (writeAll (l.drop (i + 1))).1)).length : Int) > 4096) then ([], 4) else (B ++ ((writeS (l[i]).1 (l[i]).2).1 ++ (writeAll (l.drop (i + 1))).1), 0)).2)
              rw [List.append_assoc]
      exact key l.length 0 _ (by omega) (by rw [List.length_append]; omega)
def finP (s : List UInt8) (acc : List El) (r : List El × List UInt8 × Int) : List UInt8 × List AV × Int :=
  bif r.2.2 != 0 then ([], [], r.2.2) else bif decide ((r.2.1.length : Int) > 0) then ([], [], 17) else (s, ea (acc ++ r.1), 0)
theorem rp_err (b : List UInt8) (L : List Int) (e p i : Int) (s : List UInt8) (A : List AV) (he : e ≠ 0) : run (M_comptoirref16_ParseIso (bl b)) (M_comptoirref16_ParseIso (bl b) (.inr (il L, e, p, s, i, A))) = some ([], [], e) := by
  have h1 : (e == 0) = false := by simpa using he
  have h2 : (e != 0) = true := by simpa using he
  by_cases q : i < (L.length : Int)
  · exact run_inr (by simp only [M_comptoirref16_ParseIso, Tr.val_c, Tr.val_r, List.length_map, q, h1, h2, decide_true, cond_true, cond_false])
  · exact run_inr (by simp only [M_comptoirref16_ParseIso, Tr.val_c, Tr.val_r, List.length_map, q, h1, h2, decide_false, cond_true, cond_false])
theorem readS_bound {no : Int} {b : List UInt8} (h : ((readS no b).2.2 != 0) = true) : (readS no b).2.1 = 0 := by
  have h' : (readS no b).2.2 ≠ 0 := by simpa using h
  clear h
  unfold readS at *
  rcases fmtF_cases no with e | ⟨k, d, m, e, -⟩
  · rw [e]; rfl
  · rw [e] at h' ⊢
    simp only [Bool.not_true, cond_false] at h' ⊢
    split
    · rfl
    · rename_i h1
      rw [if_neg h1] at h'
      split
      · rfl
      · rename_i h2
        rw [if_neg h2] at h'
        split
        · rename_i h3; rw [if_pos h3] at h'; exact absurd rfl h'
        · rfl
theorem rp_loop (b : List UInt8) (hb : b.length < 1000000) (s : List UInt8) (L : List Int) (hL : L.length < 500) : ∀ (k i p : Nat) (acc : List El), i + k = L.length → p ≤ b.length → acc.length ≤ i →
    run (M_comptoirref16_ParseIso (bl b)) (M_comptoirref16_ParseIso (bl b) (.inr (il L, (0 : Int), (p : Int), s, (i : Int), ea acc))) = some (finP s acc (readAll (L.drop i) (b.drop p)))
  | 0, i, p, acc, hi, hp, ha => by
    have : i = L.length := by omega
    subst this
    have q1 : ¬ ((L.length : Int) < L.length) := by omega
    have z0 : ((0 : Int) != 0) = false := rfl
    have z1 : ((0 : Int) == 0) = true := rfl
    rw [List.drop_length, readAll]
    unfold finP
    rw [z0, cond_false]
    by_cases h : (p : Int) < b.length
    · rw [decide_eq_true (show ((b.drop p).length : Int) > 0 by rw [List.length_drop]; omega)]
      exact run_inr (by simp only [M_comptoirref16_ParseIso, Tr.val_c, Tr.val_r, List.length_map, bl_length, q1, z1, h, decide_true, decide_false, cond_true, cond_false])
    · rw [decide_eq_false (show ¬ ((b.drop p).length : Int) > 0 by rw [List.length_drop]; omega)]
      exact run_inr (by simp only [M_comptoirref16_ParseIso, Tr.val_c, Tr.val_r, List.length_map, bl_length, q1, z0, z1, h, decide_false, cond_true, cond_false, beq_self_eq_true, List.append_nil])
  | k + 1, i, p, acc, hi, hp, ha => by
    have hlt : i < L.length := by omega
    have q1 : (i : Int) < L.length := by omega
    have q2 : (0 : Int) ≤ (i : Int) := by omega
    have w1 : IntKind.i64.wrap ((i : Int) + 1) = ((i + 1 : Nat) : Int) := by rw [i64_wrap (by omega) (by omega)]; omega
    have g : L.getD i 0 = L[i] := getDI_lt hlt
    have z1 : ((0 : Int) == 0) = true := rfl
    have p1 : (0 : Int) ≤ (p : Int) := by omega
    have p2 : (p : Int) ≤ b.length := by omega
    have pp : (b.length : Int) ≤ b.length := Int.le_refl _
    have ed : ((bl b).take b.length).drop p = bl (b.drop p) := by rw [bl_take, List.take_length, bl_drop]
    have r := refRead_eq L[i] (b.drop p) (by rw [List.length_drop]; omega)
    have e : ea acc ++ [AV.agg [.int .i64 L[i], .slice 1 (.int .u8) (bl (readS L[i] (b.drop p)).1) .ro]] = ea (acc ++ [(L[i], (readS L[i] (b.drop p)).1)]) := by rw [ea, ea, List.map_append]; rfl
    have ll : (ea (acc ++ [(L[i], (readS L[i] (b.drop p)).1)])).length * 33 < 70368744177664 := by rw [List.length_map, List.length_append, List.length_singleton]; omega
    have st : ∀ p' : Nat, IntKind.i64.wrap ((p : Int) + (readS L[i] (b.drop p)).2.1) = (p' : Int) → (M_comptoirref16_ParseIso (bl b) (.inr (il L, (0 : Int), (p : Int), s, (i : Int), ea acc))).val =
        some (.inl (.inr (il L, (readS L[i] (b.drop p)).2.2, (p' : Int), s, ((i + 1 : Nat) : Int), ea (acc ++ [(L[i], (readS L[i] (b.drop p)).1)])))) := fun p' hw => by
      simp only [M_comptoirref16_ParseIso, Tr.val_c, Tr.val_r, val_opt, List.length_map, bl_length, q1, q2, z1, p1, p2, pp, Int.toNat_natCast, ed, il_getD, g, r, blR, hw, e, w1, Option.bind_some, decide_true, cond_true, beq_self_eq_true]
      rw [List.length_map] at ll
      simp only [ll, decide_true, cond_true]
    rw [List.drop_eq_getElem_cons hlt, readAll]
    cases h : ((readS L[i] (b.drop p)).2.2 != 0) with
    | true =>
      have n0 := readS_bound h
      rw [run_inl (st p (by rw [n0, i64_wrap (by omega) (by omega)]; omega)), rp_err _ _ _ _ _ _ _ (by simpa using h)]
      unfold finP
      simp only [h, cond_true]
    | false =>
      have h0 : (readS L[i] (b.drop p)).2.2 = 0 := by simpa using h
      obtain ⟨-, -, n1, n2⟩ := read_back h0
      rw [List.length_drop] at n2
      rw [run_inl (st (p + (readS L[i] (b.drop p)).2.1.toNat) (by rw [i64_wrap (by omega) (by omega)]; omega)), h0]
      rw [rp_loop b hb s L hL k (i + 1) _ _ (by omega) (by omega) (by rw [List.length_append, List.length_singleton]; omega), List.drop_drop]
      unfold finP
      simp only [cond_false]
      cases h2 : ((readAll (L.drop (i + 1)) (b.drop (p + (readS L[i] (b.drop p)).2.1.toNat))).2.2 != 0) with
      | true => simp only [cond_true, h2]
      | false =>
        have z0 : ((0 : Int) != 0) = false := rfl
        simp only [cond_false, z0, List.append_assoc]; rfl
theorem refIParse_eq (b : List UInt8) (hb : b.length < 1000000) : g_comptoirref16_ParseIso (bl b) = some ((isoP b).1.1, ea (isoP b).1.2, (isoP b).2) := by
  unfold g_comptoirref16_ParseIso isoP
  by_cases h1 : (b.length : Int) > 4096
  · rw [decide_eq_true h1]
    exact run_inr (by simp only [T_comptoirref16_ParseIso, Tr.val_c, Tr.val_r, bl_length, h1, decide_true, cond_true]; rfl)
  rw [decide_eq_false h1, cond_false]
  by_cases h2 : (b.length : Int) < 4
  · rw [decide_eq_true h2]
    exact run_inr (by simp only [T_comptoirref16_ParseIso, Tr.val_c, Tr.val_r, bl_length, h1, h2, decide_true, decide_false, cond_true, cond_false]; rfl)
  rw [decide_eq_false h2, cond_false]
  have q4 : (4 : Int) ≤ b.length := by omega
  have qq : (b.length : Int) ≤ b.length := Int.le_refl _
  have e4 : bytesOf (((bl b).take (4 : Int).toNat).drop 0) = b.take 4 := by rw [List.drop_zero, show (4 : Int).toNat = 4 from rfl, bl_take, bytesOf_bl']
  have R := refRight_eq (b.take 4) 4 4 (by rw [List.length_take]; omega)
  have ed : ((bl b).take b.length).drop 4 = bl (b.drop 4) := by rw [bl_take, List.take_length, bl_drop]
  have P := refParseMap_eq (b.drop 4) (by rw [List.length_drop]; omega)
  cases hr : right (b.take 4) 4 4 with
  | false =>
    rw [hr] at R
    exact run_inr (by simp only [T_comptoirref16_ParseIso, Tr.val_c, Tr.val_r, val_opt, bl_length, h1, h2, q4, e4, R, Option.bind_some, decide_true, decide_false, cond_true, cond_false, Bool.not_false]; rfl)
  | true =>
    rw [hr] at R
    rw [Bool.not_true, cond_false]
    have z0 : ((0 : Int) != 0) = false := rfl
    have z1 : ((0 : Int) == 0) = true := rfl
    cases hm : ((mapP (b.drop 4)).2.2 != 0) with
    | true =>
      have hm' : ((mapP (b.drop 4)).2.2 == 0) = false := by simpa using hm
      generalize mapP (b.drop 4) = q at P hm hm'
      obtain ⟨L, n, e⟩ := q
      rw [run_inl (s := (.inl (il L, e, IntKind.i64.wrap (4 + n), b.take 4))) (by simp only [T_comptoirref16_ParseIso, Tr.val_c, Tr.val_r, val_opt, bl_length, h1, h2, q4, qq, e4, ed, R, P, Option.bind_some, decide_true, decide_false, cond_true, cond_false, Bool.not_true])]
      dsimp only at hm hm'
      by_cases hl : (0 : Int) < L.length
      · exact run_inr (by simp only [M_comptoirref16_ParseIso, Tr.val_c, Tr.val_r, List.length_map, hl, hm, hm', decide_true, cond_true, cond_false]; rfl)
      · exact run_inr (by simp only [M_comptoirref16_ParseIso, Tr.val_c, Tr.val_r, List.length_map, hl, hm, hm', decide_false, cond_true, cond_false]; rfl)
    | false =>
      have hm0 : (mapP (b.drop 4)).2.2 = 0 := by simpa using hm
      obtain ⟨-, m1, m2, -⟩ := mapW_parsed hm0
      rw [List.length_drop] at m2
      have ml := mapP_len (b.drop 4)
      have w : IntKind.i64.wrap (4 + (mapP (b.drop 4)).2.1) = ((4 + (mapP (b.drop 4)).2.1.toNat : Nat) : Int) := by rw [i64_wrap (by omega) (by omega)]; omega
      generalize mapP (b.drop 4) = q at *
      obtain ⟨L, n, e⟩ := q
      dsimp only at *
      subst hm0
      rw [run_inl (s := (.inl (il L, (0 : Int), ((4 + n.toNat : Nat) : Int), b.take 4))) (by simp only [T_comptoirref16_ParseIso, Tr.val_c, Tr.val_r, val_opt, bl_length, h1, h2, q4, qq, e4, ed, R, P, w, Option.bind_some, decide_true, decide_false, cond_true, cond_false, Bool.not_true])]
      rw [cond_false]
      have p2 : 4 + n.toNat ≤ b.length := by omega
      generalize 4 + n.toNat = p at p2 ⊢
      have fin : ∀ r : List El × List UInt8 × Int, finP (b.take 4) [] r = ((bif r.2.2 != 0 then (([], []), r.2.2) else bif decide ((r.2.1.length : Int) > 0) then (([], []), 17) else ((b.take 4, r.1), 0) : (List UInt8 × List El) × Int).1.1,
          ea (bif r.2.2 != 0 then (([], []), r.2.2) else bif decide ((r.2.1.length : Int) > 0) then (([], []), 17) else ((b.take 4, r.1), 0) : (List UInt8 × List El) × Int).1.2,
          (bif r.2.2 != 0 then (([], []), r.2.2) else bif decide ((r.2.1.length : Int) > 0) then (([], []), 17) else ((b.take 4, r.1), 0) : (List UInt8 × List El) × Int).2) := fun r => by
        unfold finP
        cases r.2.2 != 0
        · cases decide ((r.2.1.length : Int) > 0) <;> rfl
        · rfl
      rw [← fin]
      cases L with
      | nil =>
        have hl : ¬ (0 : Int) < (([] : List Int).length : Int) := by decide
        rw [readAll]
        unfold finP
        rw [z0, cond_false]
        by_cases h : (p : Int) < b.length
        · rw [decide_eq_true (show ((b.drop p).length : Int) > 0 by rw [List.length_drop]; omega)]
          exact run_inr (by simp only [M_comptoirref16_ParseIso, Tr.val_c, Tr.val_r, List.length_map, bl_length, hl, z1, h, decide_true, decide_false, cond_true, cond_false])
        · rw [decide_eq_false (show ¬ ((b.drop p).length : Int) > 0 by rw [List.length_drop]; omega)]
          exact run_inr (by simp only [M_comptoirref16_ParseIso, Tr.val_c, Tr.val_r, List.length_map, bl_length, hl, z0, z1, h, decide_false, cond_true, cond_false, List.append_nil]; rfl)
      | cons no L =>
        have hl : (0 : Int) < ((no :: L).length : Int) := by simp only [List.length_cons]; omega
        have p1 : (0 : Int) ≤ (p : Int) := by omega
        have p3 : (p : Int) ≤ b.length := by omega
        have ed2 : ((bl b).take b.length).drop p = bl (b.drop p) := by rw [bl_take, List.take_length, bl_drop]
        have r := refRead_eq no (b.drop p) (by rw [List.length_drop]; omega)
        have g0 : getI ((il (no :: L)).getD 0 (.int .i64 0)) = no := rfl
        have st : ∀ p' : Nat, IntKind.i64.wrap ((p : Int) + (readS no (b.drop p)).2.1) = (p' : Int) → (M_comptoirref16_ParseIso (bl b) (.inl (il (no :: L), (0 : Int), (p : Int), b.take 4))).val =
            some (.inl (.inr (il (no :: L), (readS no (b.drop p)).2.2, (p' : Int), b.take 4, ((1 : Nat) : Int), ea [(no, (readS no (b.drop p)).1)]))) := fun p' hw => by
          have hl2 : (0 : Int) < ((il (no :: L)).length : Int) := by rw [List.length_map]; exact hl
          simp only [M_comptoirref16_ParseIso, Tr.val_c, Tr.val_r, val_opt, bl_length, hl2, z1, p1, p3, qq, Int.toNat_natCast, ed2, g0, r, blR, hw, Option.bind_some, decide_true, cond_true]
          rfl
        rw [readAll]
        cases h : ((readS no (b.drop p)).2.2 != 0) with
        | true =>
          have n0 := readS_bound h
          rw [run_inl (st p (by rw [n0, i64_wrap (by omega) (by omega)]; omega)), rp_err _ _ _ _ _ _ _ (by simpa using h)]
          unfold finP
          simp only [h, cond_true]
        | false =>
          have h0 : (readS no (b.drop p)).2.2 = 0 := by simpa using h
          obtain ⟨-, -, n1, n2⟩ := read_back h0
          rw [List.length_drop] at n2
          rw [run_inl (st (p + (readS no (b.drop p)).2.1.toNat) (by rw [i64_wrap (by omega) (by omega)]; omega)), h0]
          rw [rp_loop b hb (b.take 4) (no :: L) (by omega) L.length 1 _ [(no, (readS no (b.drop p)).1)] (by rw [List.length_cons]; omega) (by omega) (by simp), List.drop_drop]
          rw [show (no :: L).drop 1 = L from rfl]
          unfold finP
          simp only [cond_false]
          cases h2 : ((readAll L (b.drop (p + (readS no (b.drop p)).2.1.toNat))).2.2 != 0) with
          | true => simp only [cond_true, h2]
          | false => simp only [cond_false, z0]; rfl
theorem itells_eq (b s : List UInt8) (l : List El) (hs : s.length < 9223372036854775808) : g_comptoirlaw17_IsoTells (bl b) s (ea l) = some true := by
  unfold g_comptoirlaw17_IsoTells
  by_cases q1 : (b.length : Int) > 5000
  · simp only [T_comptoirlaw17_IsoTells, Tr.val_c, Tr.val_r, val_opt, bl_length, q1, awake17, Option.bind_some, decide_true, cond_true]
  by_cases q2 : (l.length : Int) > 60
  · simp only [T_comptoirlaw17_IsoTells, Tr.val_c, Tr.val_r, val_opt, bl_length, List.length_map, q1, q2, awake17, Option.bind_some, decide_true, decide_false, cond_true, cond_false]
  have lo : b.length * 4 < 70368744177600 := by omega
  obtain ⟨f1, f2⟩ := isoP_few b
  have S := Iso_self (isoP b).1.1 (ea (isoP b).1.2) (by rw [List.length_map]; omega)
  have K := Kept_self (bl b) 71 (by rw [bl_length]; omega)
  simp only [T_comptoirlaw17_IsoTells, Tr.val_c, Tr.val_r, val_opt, bl_length, List.length_map, q1, q2, lo, IParse_eq b (by omega), refIParse_eq b (by omega), Pack_eq s l (by omega), refPack_eq s l (by omega) hs, awake17, S, K, Option.bind_some, beq_self_eq_true, decide_true, decide_false, cond_true, cond_false]
end Go.Proofs.YtajknlhbfhemlaaDoor
