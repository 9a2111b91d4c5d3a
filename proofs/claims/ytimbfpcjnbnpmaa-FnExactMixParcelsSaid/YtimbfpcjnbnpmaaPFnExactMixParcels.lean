/- FnExactMixParcels returns true for all arguments. Conditions: none. -/
import Derived.Test.YtimbfpcjnbnpmaaRows
import Derived.Test.YtimbfpcjnbnpmaaAbLaw
import Derived.Test.YtimbfpcjnbnpmaaG1
set_option linter.unusedVariables false
set_option maxRecDepth 100000
namespace Go.Proofs.Ytimbfpcjnbnpmaa.fnExactMixParcels
open Go.Ab Go.RowKit Go.ChangeShapes Go.WideShapes Go.ChangeAt
theorem twin0 (o : FO) (a0 a1 a2 a3 a4 a5 a6 : o.S) : m21_0 o a0 a1 a2 a3 a4 a5 a6 = m20_0 o a0 a1 a2 a3 a4 a5 a6 := by
  rfl
theorem twin1 (o : FO) (a0 a1 a2 a3 a4 a5 a6 : o.S) : m21_1 o a0 a1 a2 a3 a4 a5 a6 = m20_1 o a0 a1 a2 a3 a4 a5 a6 := by
  rfl
theorem twin2 (o : FO) (a0 a1 a2 a3 a4 a5 a6 : o.S) : m21_2 o a0 a1 a2 a3 a4 a5 a6 = m20_2 o a0 a1 a2 a3 a4 a5 a6 := by
  rfl
theorem twin3 (o : FO) (a0 a1 a2 a3 a4 a5 a6 : o.S) : m21_3 o a0 a1 a2 a3 a4 a5 a6 = m20_3 o a0 a1 a2 a3 a4 a5 a6 := by
  rfl
theorem same26 (o : FO) (x : o.D) : m26_0 o x x = true := by
  unfold m26_0
  cases h : o.deq x x
  · rfl
  · cases h0 : o.deq x (o.dlit 0)
    · rfl
    · simp
theorem sameP (o : FO) (a b c : o.S) : m19_0 o a b c a b c = true := by
  unfold m19_0 m25_0
  simp only [same26]
  rfl
theorem law_true (a0 a1 a2 a3 a4 a5 a6 : ieee.S) : f6 ieee a0 a1 a2 a3 a4 a5 a6 = some (.bool true, []) := by
  rw [val6]
  unfold m6_0
  simp only [twin0, twin1, twin2, twin3, sameP, bne_self_eq_false]
  rfl

theorem own : ownKnob Try.prog.godebug = none := by kernel_rfl
theorem laidOut : laidOutB Try.prog = true := by kernel_rfl
set_option maxRecDepth 100000 in
theorem lifted (os : Os) (started : os.Started) (H : Type) (enc : TypeId × Value → H) :
    ReturnsInHanded {} Try.checked os 6 .any (Rows.fnExactMixParcelsSpec.pre6 enc Try.prog Try.f6 Rows.fnExactMixParcelsRow.domain false) (Rows.fnExactMixParcelsSpec.post enc Try.prog Try.f6 false true false false) := by
  refine returnsInHanded_of_change (C := Try.checked) own started (by kernel_rfl) Try.func6
    (ChangeSpec.witness6 (enc := enc) (C := Try.checked) false ⟨#[], #[.agg #[.float .f32 0, .float .f32 0, .float .f32 0], .agg #[.float .f32 0, .float .f32 0, .float .f32 0], .float .f32 0], []⟩ 8 (by kernel_rfl) (by kernel_rfl) (by kernel_rfl) (by kernel_rfl)) ?_
  intro W base args ds gs before hval0 hW hcnd _
  have hval : ∀ (j : Nat) t v, Try.f6.params[j]? = some t → args[j]? = some v → Value.okWide Try.prog W .any base t v := hval0
  have hW' := hW
  obtain ⟨p, q, hA0, hV, rfl, hfz, hnd⟩ := hW
  have hA : DataW.TrodAll enc Try.prog W 0 (fun _ => true) true Try.f6.params.toList args.toList ds p := hA0
  have hA1 := hA
  rw [Try.params6] at hA hval
  obtain ⟨v0, vs0, d0, ds0, p0, q0, hargs, rfl, rfl, h0, r0'⟩ := trodAll_cons hA
  obtain ⟨v1, vs1, d1, ds1, p1, q1, rfl, rfl, rfl, h1, r1'⟩ := trodAll_cons r0'
  obtain ⟨v2, vs2, d2, ds2, p2, q2, rfl, rfl, rfl, h2, r2'⟩ := trodAll_cons r1'
  obtain ⟨rfl, rfl, rfl⟩ := trodAll_nil r2'
  obtain rfl : args = #[v0, v1, v2] := by cases args; simp_all
  obtain ⟨rfl, rfl⟩ := trodVars_none hV
  obtain ⟨cs0, hl0, r0⟩ := okW_agg ([.f32, .f32, .f32]) (by kernel_rfl) (by kernel_rfl) (by kernel_rfl) (hval 0 26 v0 rfl rfl)
  obtain ⟨_, cs0_0, rfl, ⟨x0_0, rfl⟩, hl0_0⟩ := ck_cons hl0
  obtain ⟨_, cs0_1, rfl, ⟨x0_1, rfl⟩, hl0_1⟩ := ck_cons hl0_0
  obtain ⟨_, cs0_2, rfl, ⟨x0_2, rfl⟩, hl0_2⟩ := ck_cons hl0_1
  obtain rfl := ck_nil hl0_2
  obtain ⟨cs1, hl1, r1⟩ := okW_agg ([.f32, .f32, .f32]) (by kernel_rfl) (by kernel_rfl) (by kernel_rfl) (hval 1 26 v1 rfl rfl)
  obtain ⟨_, cs1_0, rfl, ⟨x1_0, rfl⟩, hl1_0⟩ := ck_cons hl1
  obtain ⟨_, cs1_1, rfl, ⟨x1_1, rfl⟩, hl1_1⟩ := ck_cons hl1_0
  obtain ⟨_, cs1_2, rfl, ⟨x1_2, rfl⟩, hl1_2⟩ := ck_cons hl1_1
  obtain rfl := ck_nil hl1_2
  obtain ⟨x2, r2⟩ := okW_f32 (by kernel_rfl) (hval 2 22 v2 rfl rfl)
  clear hA0 hval0
  have hx := (eq6 ieee 4096 x0_0 x0_1 x0_2 x1_0 x1_1 x1_2 x2).trans (law_true x0_0 x0_1 x0_2 x1_0 x1_1 x1_2 x2)
  refine (law_calls0 (cok6 4096 (Nat.le_refl _)) (is6 4096) hx (L2.cons (r0 _) (L2.cons (r1 _) (L2.cons (r2 _) (L2.nil _))))).mono fun e W' ⟨he, bel⟩ => ?_
  subst he
  exact ⟨_, rfl, _, _, _, [], _, [], hW', trodAll_mk1 (shut_bool (by kernel_rfl) _), trodAll_stays laidOut bel (by kernel_rfl) hA1, rfl, bel.frame _, fun h => by cases h⟩

/-- The statement. -/
theorem proved : Rows.FnExactMixParcelsSaid :=
  OpenClaim.holds_of_wide 6 Try.f6 rfl rfl rfl rfl rfl rfl rfl ⟨rfl, rfl, rfl, rfl, rfl⟩ rfl rfl rfl rfl rfl (by kernel_rfl) Try.func6 (by kernel_rfl)
    (of_decide_eq_true (by kernel_rfl)) (by unfold Func.isWrapper; first | (rw [if_pos (by decide +kernel)]; kernel_rfl) | (rw [if_neg (by decide +kernel)]; exact ⟨rfl, rfl⟩))
    (fun os started H enc _ => lifted os started H enc)
end Go.Proofs.Ytimbfpcjnbnpmaa.fnExactMixParcels
