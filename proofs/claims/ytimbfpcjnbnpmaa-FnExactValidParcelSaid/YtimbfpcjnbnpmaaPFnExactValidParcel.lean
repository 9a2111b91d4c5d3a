/- FnExactValidParcel returns true for all parcels. Conditions: none. -/
import Derived.Test.YtimbfpcjnbnpmaaRows
import Derived.Test.YtimbfpcjnbnpmaaAbLaw
import Derived.Test.YtimbfpcjnbnpmaaG1
set_option linter.unusedVariables false
set_option maxRecDepth 100000
namespace Go.Proofs.Ytimbfpcjnbnpmaa.fnExactValidParcel
open Go.Ab Go.RowKit Go.ChangeShapes Go.WideShapes Go.ChangeAt
theorem twin (o : FO) (a0 a1 a2 : o.S) : m16_0 o a0 a1 a2 = m15_0 o a0 a1 a2 := rfl
theorem law_true (a0 a1 a2 : ieee.S) : f4 ieee a0 a1 a2 = some (.bool true, []) := by
  unfold f4
  rw [twin, beq_self_eq_true]
  rfl

theorem own : ownKnob Try.prog.godebug = none := by kernel_rfl
theorem laidOut : laidOutB Try.prog = true := by kernel_rfl
set_option maxRecDepth 100000 in
theorem lifted (os : Os) (started : os.Started) (H : Type) (enc : TypeId × Value → H) :
    ReturnsInHanded {} Try.checked os 4 .any (Rows.fnExactValidParcelSpec.pre6 enc Try.prog Try.f4 Rows.fnExactValidParcelRow.domain false) (Rows.fnExactValidParcelSpec.post enc Try.prog Try.f4 false true false false) := by
  refine returnsInHanded_of_change (C := Try.checked) own started (by kernel_rfl) Try.func4
    (ChangeSpec.witness6 (enc := enc) (C := Try.checked) false ⟨#[], #[.agg #[.float .f32 0, .float .f32 0, .float .f32 0]], []⟩ 8 (by kernel_rfl) (by kernel_rfl) (by kernel_rfl) (by kernel_rfl)) ?_
  intro W base args ds gs before hval0 hW hcnd _
  have hval : ∀ (j : Nat) t v, Try.f4.params[j]? = some t → args[j]? = some v → Value.okWide Try.prog W .any base t v := hval0
  have hW' := hW
  obtain ⟨p, q, hA0, hV, rfl, hfz, hnd⟩ := hW
  have hA : DataW.TrodAll enc Try.prog W 0 (fun _ => true) true Try.f4.params.toList args.toList ds p := hA0
  have hA1 := hA
  rw [Try.params4] at hA hval
  obtain ⟨v0, vs0, d0, ds0, p0, q0, hargs, rfl, rfl, h0, r0'⟩ := trodAll_cons hA
  obtain ⟨rfl, rfl, rfl⟩ := trodAll_nil r0'
  obtain rfl : args = #[v0] := by cases args; simp_all
  obtain ⟨rfl, rfl⟩ := trodVars_none hV
  obtain ⟨cs0, hl0, r0⟩ := okW_agg ([.f32, .f32, .f32]) (by kernel_rfl) (by kernel_rfl) (by kernel_rfl) (hval 0 26 v0 rfl rfl)
  obtain ⟨_, cs0_0, rfl, ⟨x0_0, rfl⟩, hl0_0⟩ := ck_cons hl0
  obtain ⟨_, cs0_1, rfl, ⟨x0_1, rfl⟩, hl0_1⟩ := ck_cons hl0_0
  obtain ⟨_, cs0_2, rfl, ⟨x0_2, rfl⟩, hl0_2⟩ := ck_cons hl0_1
  obtain rfl := ck_nil hl0_2
  clear hA0 hval0
  have hx := (eq4 ieee 4096 x0_0 x0_1 x0_2).trans (law_true x0_0 x0_1 x0_2)
  refine (law_calls0 (cok4 4096 (Nat.le_refl _)) (is4 4096) hx (L2.cons (r0 _) (L2.nil _))).mono fun e W' ⟨he, bel⟩ => ?_
  subst he
  exact ⟨_, rfl, _, _, _, [], _, [], hW', trodAll_mk1 (shut_bool (by kernel_rfl) _), trodAll_stays laidOut bel (by kernel_rfl) hA1, rfl, bel.frame _, fun h => by cases h⟩

/-- The statement. -/
theorem proved : Rows.FnExactValidParcelSaid :=
  OpenClaim.holds_of_wide 4 Try.f4 rfl rfl rfl rfl rfl rfl rfl ⟨rfl, rfl, rfl, rfl, rfl⟩ rfl rfl rfl rfl rfl (by kernel_rfl) Try.func4 (by kernel_rfl)
    (of_decide_eq_true (by kernel_rfl)) (by unfold Func.isWrapper; first | (rw [if_pos (by decide +kernel)]; kernel_rfl) | (rw [if_neg (by decide +kernel)]; exact ⟨rfl, rfl⟩))
    (fun os started H enc _ => lifted os started H enc)
end Go.Proofs.Ytimbfpcjnbnpmaa.fnExactValidParcel
