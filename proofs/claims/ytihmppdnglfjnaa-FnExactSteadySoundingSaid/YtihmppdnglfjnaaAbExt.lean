/- Own work: a part of the library under the claims of this seat. -/
/-
Functions of Go's library that have no body in the model.
-/
import Derived.Test.YtihmppdnglfjnaaAbGen
import Derived.Laws.Externs
namespace Go.Ab
open Go.RowKit

section
variable {P : Program} {f : FuncId} {fn : Func}

theorem calOk_ext {m : List A → Tr A} {e : Array Value → Sem Value} (hf : P.funcs[f]? = some fn) (hname : (fn.name == "runtime.NumGoroutine") = false) (hb : fn.body.isNone = true) (hn : Extern.findNext fn = none)
    (he : Extern.find fn = some e)
    (hm : ∀ args av, (m args).get = some av → ∀ (γ : Gam) (vargs : Array Value) (w : World), L2 (VRel γ) args vargs.toList → ∃ v, (e vargs).run P w = .ok v w ∧ VRel [] av v) : CalOk P f (.pure m) := by
  intro args av hg γ vargs w ha
  obtain ⟨v, h1, h2⟩ := hm args av hg γ vargs w ha
  refine .inr ⟨v, w, ?_, h2, Below.refl _ w⟩
  rw [run_callFunc_extern hf hname hb hn he, h1]
  rfl

def eBitsS (o : FO) : List (AV o) → Tr (AV o)
  | [.f32 x] => .br (o.seq x x) (.leaf (.int .u32 (o.sbits x))) .fail
  | _ => .fail
def eOfbS (o : FO) : List (AV o) → Tr (AV o)
  | [.int .u32 n] => .br (decide (n < 4294967296)) (.leaf (.f32 (o.sofb n))) .fail
  | _ => .fail
def eBitsD (o : FO) : List (AV o) → Tr (AV o)
  | [.f64 x] => .br (o.deq x x) (.leaf (.int .u64 (o.dbits x))) .fail
  | _ => .fail
def eOfbD (o : FO) : List (AV o) → Tr (AV o)
  | [.int .u64 n] => .br (decide (n < 18446744073709551616)) (.leaf (.f64 (o.dofb n))) .fail
  | _ => .fail

theorem one_arg {γ : Gam} {a : A} {vargs : Array Value} (h : L2 (VRel γ) [a] vargs.toList) : ∃ v, vargs = #[v] ∧ VRel γ a v := by
  obtain ⟨v, m, e, h1, h2⟩ := h.uncons
  have := h2.nil_iff
  subst this
  exact ⟨v, by apply Array.ext'; simpa using e, h1⟩

theorem not_nan_of_eq {k : FloatKind} {x b : Nat} (hc : can k b = x) (h : (k.format.order x x == some .eq) = true) : b = x := by
  rcases read_can k b with ⟨h1, _⟩ | ⟨_, h1⟩
  · rw [← hc, h1]
  · exfalso
    rw [h1] at hc
    subst hc
    obtain ⟨s, f, h2⟩ := read_nanOf k
    simp [Ieee.Format.order, h2, order_nan_l] at h

theorem calOk_bitsS (hf : P.funcs[f]? = some fn) (hname : (fn.name == "runtime.NumGoroutine") = false) (hb : fn.body.isNone = true) (hn : Extern.findNext fn = none) (he : Extern.find fn = some Extern.MathFloatBits.float32bits) : CalOk P f (.pure (eBitsS ieee)) := by
  refine calOk_ext hf hname hb hn he ?_
  intro args av hg γ vargs w ha
  unfold eBitsS at hg
  split at hg
  · obtain ⟨h1, hg⟩ := br_get hg
    cases hg
    obtain ⟨v, rfl, b, rfl, hb⟩ := one_arg ha
    have := not_nan_of_eq (k := .f32) hb h1
    subst this
    exact ⟨.int .u32 _, rfl, rfl⟩
  · cases hg
theorem calOk_ofbS (hf : P.funcs[f]? = some fn) (hname : (fn.name == "runtime.NumGoroutine") = false) (hb : fn.body.isNone = true) (hn : Extern.findNext fn = none) (he : Extern.find fn = some Extern.MathFloatBits.float32frombits) : CalOk P f (.pure (eOfbS ieee)) := by
  refine calOk_ext hf hname hb hn he ?_
  intro args av hg γ vargs w ha
  unfold eOfbS at hg
  split at hg
  · obtain ⟨h0, hg⟩ := br_get hg
    cases hg
    obtain ⟨v, rfl, h1⟩ := one_arg ha
    cases h1
    have h0 := of_decide_eq_true h0
    exact ⟨_, rfl, _, rfl, (toW_val (can_lt (by show _ < _; simp only [lim]; omega))).symm⟩
  · cases hg
theorem calOk_bitsD (hf : P.funcs[f]? = some fn) (hname : (fn.name == "runtime.NumGoroutine") = false) (hb : fn.body.isNone = true) (hn : Extern.findNext fn = none) (he : Extern.find fn = some Extern.MathFloatBits.float64bits) : CalOk P f (.pure (eBitsD ieee)) := by
  refine calOk_ext hf hname hb hn he ?_
  intro args av hg γ vargs w ha
  unfold eBitsD at hg
  split at hg
  · obtain ⟨h1, hg⟩ := br_get hg
    cases hg
    obtain ⟨v, rfl, b, rfl, hb⟩ := one_arg ha
    have := not_nan_of_eq (k := .f64) hb h1
    subst this
    exact ⟨.int .u64 _, rfl, rfl⟩
  · cases hg
theorem calOk_ofbD (hf : P.funcs[f]? = some fn) (hname : (fn.name == "runtime.NumGoroutine") = false) (hb : fn.body.isNone = true) (hn : Extern.findNext fn = none) (he : Extern.find fn = some Extern.MathFloatBits.float64frombits) : CalOk P f (.pure (eOfbD ieee)) := by
  refine calOk_ext hf hname hb hn he ?_
  intro args av hg γ vargs w ha
  unfold eOfbD at hg
  split at hg
  · obtain ⟨h0, hg⟩ := br_get hg
    cases hg
    obtain ⟨v, rfl, h1⟩ := one_arg ha
    cases h1
    have h0 := of_decide_eq_true h0
    exact ⟨_, rfl, _, rfl, (toW_val (can_lt (by show _ < _; simp only [lim]; omega))).symm⟩
  · cases hg
end
end Go.Ab
