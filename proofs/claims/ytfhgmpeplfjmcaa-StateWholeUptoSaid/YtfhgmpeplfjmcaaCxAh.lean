/- A slice of which it is not known whether it is nil: both ways. -/
import Derived.Test.YtfhgmpeplfjmcaaCxAg
namespace Go.Cx
set_option linter.unusedVariables false
open Go.RowKit (Below)
set_option linter.unusedSimpArgs false
def Told : AV → AV → Prop
  | .slice sz sh xs .ro, b => b = .slice sz sh xs .nn ∨ (xs = [] ∧ b = .nilsl)
  | a, b => b = a
def ToldL : List AV → List AV → Prop
  | [], [] => True
  | a :: l, b :: m => Told a b ∧ ToldL l m
  | _, _ => False
theorem Told.V {g : Gh} {a : AV} {v : Value} (h : V g a v) : ∃ b, Told a b ∧ V g b v := by
  cases h with
  | slice sz sh xs k vs b o c h1 h2 h3 h4 h5 h6 =>
    cases k with
    | ro => exact ⟨_, .inl rfl, .slice sz sh xs .nn vs b o c h1 h2 h3 h4 h5 h6⟩
    | nn => exact ⟨_, rfl, .slice sz sh xs .nn vs b o c h1 h2 h3 h4 h5 h6⟩
  | slice0 sz sh => exact ⟨_, .inr ⟨rfl, rfl⟩, .nilsl⟩
  | slice1 sz sh k a c =>
    cases k with
    | ro => exact ⟨_, .inl rfl, .slice1 sz sh .nn a c⟩
    | nn => exact ⟨_, rfl, .slice1 sz sh .nn a c⟩
  | int k n => exact ⟨_, rfl, .int k n⟩
  | bool b => exact ⟨_, rfl, .bool b⟩
  | str s hs => exact ⟨_, rfl, .str s hs⟩
  | ptr id off b hb => exact ⟨_, rfl, .ptr id off b hb⟩
  | nilptr => exact ⟨_, rfl, .nilptr⟩
  | rptr cs vs b o h1 h2 h3 => exact ⟨_, rfl, .rptr cs vs b o h1 h2 h3⟩
  | nilsl => exact ⟨_, rfl, .nilsl⟩
  | fslice sz sh xs ys vs b o h1 h2 h3 h4 h5 => exact ⟨_, rfl, .fslice sz sh xs ys vs b o h1 h2 h3 h4 h5⟩
  | oslice id ver len b c x hx hh => exact ⟨_, rfl, .oslice id ver len b c x hx hh⟩
  | oslice0 id ver x hx hh => exact ⟨_, rfl, .oslice0 id ver x hx hh⟩
  | optr id ver len sz i j b c x hx hh => exact ⟨_, rfl, .optr id ver len sz i j b c x hx hh⟩
  | func f pre post vs ws h1 h2 h3 h4 => exact ⟨_, rfl, .func f pre post vs ws h1 h2 h3 h4⟩
  | nilfunc => exact ⟨_, rfl, .nilfunc⟩
  | agg cs vs h1 h2 => exact ⟨_, rfl, .agg cs vs h1 h2⟩
  | tuple cs vs h1 h2 => exact ⟨_, rfl, .tuple cs vs h1 h2⟩
  | nilIface => exact ⟨_, rfl, .nilIface⟩
  | junk v => exact ⟨_, rfl, .junk v⟩
theorem ToldL.VL {g : Gh} : ∀ {l : List AV} {vs : List Value}, VL g l vs → ∃ m, ToldL l m ∧ VL g m vs
  | [], vs, h => ⟨[], trivial, h⟩
  | a :: l, vs, h => by
    obtain ⟨v, vs, rfl, h1, h2⟩ := h.cons_inv
    obtain ⟨b, k1, k2⟩ := Told.V h1
    obtain ⟨m, k3, k4⟩ := ToldL.VL h2
    exact ⟨b :: m, ⟨k1, k3⟩, VL.cons k2 k4⟩
theorem sound_pure_g {E : En} (hE : EnOK E) (hm : E.P.follows .mixedOrders = true) (h0 : E.keep = 0) {f : FuncId} {fn : Func} {c : Code} (hf : E.P.funcs[f]? = some fn) (hb : fn.body = some c)
    (hn : (fn.name == "runtime.NumGoroutine") = false) {F : List AV → Tr AV} (h : ∀ args r, (F args).val = some r → ∀ g vs, VL g args vs → ∃ as, VL g as vs ∧ callA E fn as [] (fun r' _ => Lo r' r)) : Sound E.P f (pureS F) := by
  refine ⟨⟨fn, c, hf, hb, hn⟩, ?_, ?_, fun args hp r hp' hs => by
    obtain ⟨_, ⟨_, _, e⟩ | ⟨_, _, _, _, _, e⟩⟩ := pureS_inv hs <;> simp at e, ?_⟩
  · intro args hp r hp' hs
    obtain ⟨rfl, ⟨h1, h2, -⟩ | ⟨_, _, _, _, _, e⟩⟩ := pureS_inv hs
    · refine ⟨rfl, fun h3 => ?_⟩
      unfold pureS
      rw [h1]
      simp only [cond_true, Tr.val_map, h2, Option.map_some]
    · simp at e
  · intro args hp r hp' hs
    exact (pureS_inv hs).1
  · intro args hp r hp' cl hs g w vs hR hv
    obtain ⟨rfl, ⟨hr, hF, rfl⟩ | ⟨_, hvw, hlk, hF, hpl, rfl⟩⟩ := pureS_inv hs
    · have hsub : (g.trim 0).sub (.still w g.imm) := ⟨fun _ _ _ e => e, fun _ _ e => by simp [Gh.trim] at e, fun _ _ _ _ _ e => by simp [Gh.trim] at e⟩
      have hv0 : VL (.still w g.imm) args vs := (hv.trim hr).sub hsub
      obtain ⟨args', t2, t1⟩ := h args _ hF _ _ hv0
      refine Calls.mono (calls_small hE hm h0 hf hb t1 (R.still hR.imm) t2) ?_
      rintro e w' ⟨v, g3, r, rfl, hle, hR3, hV, hrf, hlo⟩
      obtain ⟨g', hg, hR', hi⟩ := hR.back hle hR3
      refine ⟨v, g', rfl, hg, hR', ?_⟩
      have hi := hi (fun _ _ _ => rfl)
      have hsub : (g3.trim 0).sub g' := ⟨fun b o v e => by rw [hi]; exact e, fun _ _ e => by simp [Gh.trim] at e, fun _ _ _ _ _ e => by simp [Gh.trim] at e⟩
      exact hlo _ _ ((hV.trim (.inr hrf)).sub hsub)
    · have hv0 := viewPL_V hR args hv hlk hvw
      obtain ⟨args', t2, t1⟩ := h _ _ hF _ _ hv0
      refine Calls.mono (calls_small hE hm h0 hf hb t1 (R.still fun _ _ _ e => e) t2) ?_
      rintro e w' ⟨v, g3, r, rfl, hle, hR3, hV, hrf, hlo⟩
      obtain ⟨g', hg, hR', -⟩ := hR.back hle hR3
      exact ⟨v, g', rfl, hg, hR', plain_V _ hpl (hlo _ _ hV)⟩
theorem sound_pure_ro {E : En} (hE : EnOK E) (hm : E.P.follows .mixedOrders = true) (h0 : E.keep = 0) {f : FuncId} {fn : Func} {c : Code} (hf : E.P.funcs[f]? = some fn) (hb : fn.body = some c)
    (hn : (fn.name == "runtime.NumGoroutine") = false) {F : List AV → Tr AV} (h : ∀ args r, (F args).val = some r → ∀ args', ToldL args args' → callA E fn args' [] (fun r' _ => Lo r' r)) : Sound E.P f (pureS F) :=
  sound_pure_g hE hm h0 hf hb hn fun args r hF g vs hv => by
    obtain ⟨m, h1, h2⟩ := ToldL.VL hv
    exact ⟨m, h2, h args r hF m h1⟩
theorem sound_pure {E : En} (hE : EnOK E) (hm : E.P.follows .mixedOrders = true) (h0 : E.keep = 0) {f : FuncId} {fn : Func} {c : Code} (hf : E.P.funcs[f]? = some fn) (hb : fn.body = some c)
    (hn : (fn.name == "runtime.NumGoroutine") = false) {F : List AV → Tr AV} (h : ∀ args r, (F args).val = some r → callA E fn args [] (fun r' _ => Lo r' r)) : Sound E.P f (pureS F) :=
  sound_pure_g hE hm h0 hf hb hn fun args r hF g vs hv => ⟨args, hv, h args r hF⟩
theorem Lo.nn {sz : Nat} {sh : Sh} {xs : List AV} {k : SK} : Lo (.slice sz sh xs k) (.slice sz sh xs .ro) := fun _ _ h => slice_weak h
theorem Lo.nil {sz : Nat} {sh : Sh} : Lo .nilsl (.slice sz sh [] .ro) := fun _ _ h => by cases h; exact .slice0 sz sh
end Go.Cx
