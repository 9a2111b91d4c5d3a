/- FnExactSameParcel returns true for all parcels. Conditions: none. -/
import Derived.Test.YtimbfpcjnbnpmaaRows
import Derived.Test.YtimbfpcjnbnpmaaAbLaw
import Derived.Test.YtimbfpcjnbnpmaaG1
set_option linter.unusedVariables false
set_option maxRecDepth 100000
namespace Go.Proofs.Ytimbfpcjnbnpmaa.fnExactSameParcel
open Go.Ab Go.RowKit Go.ChangeShapes Go.WideShapes Go.ChangeAt
theorem twin (o : FO) (a b c d e f : o.S) : m14_0 o a b c d e f = m12_0 o a b c d e f := rfl
theorem law (o : FO) (a0 a1 a2 a3 a4 a5 : o.S) : f3 o a0 a1 a2 a3 a4 a5 = some (.bool true, []) := by
  unfold f3
  rw [twin, beq_self_eq_true]
  rfl
theorem law_true (a0 a1 a2 a3 a4 a5 : Nat) (_ : Word .f32 a0) (_ : Word .f32 a1) (_ : Word .f32 a2) (_ : Word .f32 a3) (_ : Word .f32 a4) (_ : Word .f32 a5) : f3 ieee a0 a1 a2 a3 a4 a5 = some (.bool true, []) := law ieee a0 a1 a2 a3 a4 a5

theorem own : ownKnob Try.prog.godebug = none := by kernel_rfl
theorem laidOut : laidOutB Try.prog = true := by kernel_rfl
set_option maxRecDepth 100000 in
theorem lifted (os : Os) (started : os.Started) (H : Type) (enc : TypeId × Value → H) :
    ReturnsInHanded {} Try.checked os 3 .any (Rows.fnExactSameParcelSpec.pre6 enc Try.prog Try.f3 Rows.fnExactSameParcelRow.domain false) (Rows.fnExactSameParcelSpec.post enc Try.prog Try.f3 false true false false) := by
  refine returnsInHanded_of_change (C := Try.checked) own started (by kernel_rfl) Try.func3
    (ChangeSpec.witness6 (enc := enc) (C := Try.checked) false ⟨#[], #[.agg #[.float .f32 0, .float .f32 0, .float .f32 0], .agg #[.float .f32 0, .float .f32 0, .float .f32 0]], []⟩ 8 (by kernel_rfl) (by kernel_rfl) (by kernel_rfl) (by kernel_rfl)) ?_
  intro W base args ds gs before hval0 hW hcnd _
  have hval : ∀ (j : Nat) t v, Try.f3.params[j]? = some t → args[j]? = some v → Value.okWide Try.prog W .any base t v := hval0
  have hW' := hW
  obtain ⟨p, q, hA0, hV, rfl, hfz, hnd⟩ := hW
  have hA : DataW.TrodAll enc Try.prog W 0 (fun _ => true) true Try.f3.params.toList args.toList ds p := hA0
  have hA1 := hA
  rw [Try.params3] at hA hval
  obtain ⟨v0, vs0, d0, ds0, p0, q0, hargs, rfl, rfl, h0, r0'⟩ := trodAll_cons hA
  obtain ⟨v1, vs1, d1, ds1, p1, q1, rfl, rfl, rfl, h1, r1'⟩ := trodAll_cons r0'
  obtain ⟨rfl, rfl, rfl⟩ := trodAll_nil r1'
  obtain rfl : args = #[v0, v1] := by cases args; simp_all
  obtain ⟨rfl, rfl⟩ := trodVars_none hV
  obtain ⟨xs0, hl0, hw0, r0⟩ := okW_f32s (e := 22) 3 (by kernel_rfl) (by kernel_rfl) (by kernel_rfl) (by kernel_rfl) (hval 0 26 v0 rfl rfl)
  obtain ⟨x0_0, x0_1, x0_2, rfl⟩ := len3 hl0
  have hx0_0 := hw0 x0_0 (by simp)
  have hx0_1 := hw0 x0_1 (by simp)
  have hx0_2 := hw0 x0_2 (by simp)
  obtain ⟨xs1, hl1, hw1, r1⟩ := okW_f32s (e := 22) 3 (by kernel_rfl) (by kernel_rfl) (by kernel_rfl) (by kernel_rfl) (hval 1 26 v1 rfl rfl)
  obtain ⟨x1_0, x1_1, x1_2, rfl⟩ := len3 hl1
  have hx1_0 := hw1 x1_0 (by simp)
  have hx1_1 := hw1 x1_1 (by simp)
  have hx1_2 := hw1 x1_2 (by simp)
  clear hA0 hval0
  have hx := (eq3 ieee 4096 x0_0 x0_1 x0_2 x1_0 x1_1 x1_2).trans (law_true x0_0 x0_1 x0_2 x1_0 x1_1 x1_2 hx0_0 hx0_1 hx0_2 hx1_0 hx1_1 hx1_2)
  refine (law_calls0 (cok3 4096 (Nat.le_refl _)) (is3 4096) hx (L2.cons (r0 _) (L2.cons (r1 _) (L2.nil _)))).mono fun e W' ⟨he, bel⟩ => ?_
  subst he
  exact ⟨_, rfl, _, _, _, [], _, [], hW', trodAll_mk1 (shut_bool (by kernel_rfl) _), trodAll_stays laidOut bel (by kernel_rfl) hA1, rfl, bel.frame _, fun h => by cases h⟩

/-- The statement. -/
theorem proved : Rows.FnExactSameParcelSaid :=
  OpenClaim.holds_of_wide 3 Try.f3 rfl rfl rfl rfl rfl rfl rfl ⟨rfl, rfl, rfl, rfl, rfl⟩ rfl rfl rfl rfl rfl (by kernel_rfl) Try.func3 (by kernel_rfl)
    (of_decide_eq_true (by kernel_rfl)) (by unfold Func.isWrapper; first | (rw [if_pos (by decide +kernel)]; kernel_rfl) | (rw [if_neg (by decide +kernel)]; exact ⟨rfl, rfl⟩))
    (fun os started H enc _ => lifted os started H enc)
end Go.Proofs.Ytimbfpcjnbnpmaa.fnExactSameParcel
