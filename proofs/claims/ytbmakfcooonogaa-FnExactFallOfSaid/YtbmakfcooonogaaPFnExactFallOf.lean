/- FnExactFallOf returns true for all arguments. Conditions: none. -/
import Derived.Test.YtbmakfcooonogaaRows
import Derived.Test.YtbmakfcooonogaaAbTyped
import Derived.Test.YtbmakfcooonogaaG1
set_option linter.unusedVariables false
set_option maxRecDepth 100000
namespace Go.Proofs.Ytbmakfcooonogaa.fnExactFallOf
open Go.Ab Go.RowKit Go.ChangeShapes Go.WideShapes Go.ChangeAt
theorem within82 (o : FO) (p a b : Int) : m82_0 o p a b = decide (a ≤ p ∧ p ≤ b) := by
  unfold m82_0
  by_cases h : p ≥ a
  · simp [h]
  · simp [h]
theorem within84 (o : FO) (p a b : Int) : m84_0 o p a b = decide (a ≤ p ∧ p ≤ b) := by
  unfold m84_0
  by_cases h : p ≥ a
  · simp [h]
  · simp [h]
theorem same20 (o : FO) (x : o.D) : m20_0 o x x = true := by
  unfold m20_0
  cases h : o.deq x x
  · rfl
  · cases h0 : o.deq x (o.dlit 0)
    · rfl
    · simp
theorem at0 : f4 ieee (0 : Int) = some (.bool true, []) := by kernel_rfl
theorem at1 : f4 ieee (1 : Int) = some (.bool true, []) := by kernel_rfl
theorem at2 : f4 ieee (2 : Int) = some (.bool true, []) := by kernel_rfl
theorem at3 : f4 ieee (3 : Int) = some (.bool true, []) := by kernel_rfl
theorem at4 : f4 ieee (4 : Int) = some (.bool true, []) := by kernel_rfl
theorem at5 : f4 ieee (5 : Int) = some (.bool true, []) := by kernel_rfl
theorem at6 : f4 ieee (6 : Int) = some (.bool true, []) := by kernel_rfl
theorem at7 : f4 ieee (7 : Int) = some (.bool true, []) := by kernel_rfl
theorem at8 : f4 ieee (8 : Int) = some (.bool true, []) := by kernel_rfl
theorem at9 : f4 ieee (9 : Int) = some (.bool true, []) := by kernel_rfl
theorem at10 : f4 ieee (10 : Int) = some (.bool true, []) := by kernel_rfl
theorem at11 : f4 ieee (11 : Int) = some (.bool true, []) := by kernel_rfl
theorem at12 : f4 ieee (12 : Int) = some (.bool true, []) := by kernel_rfl
theorem at13 : f4 ieee (13 : Int) = some (.bool true, []) := by kernel_rfl
theorem at14 : f4 ieee (14 : Int) = some (.bool true, []) := by kernel_rfl
theorem at15 : f4 ieee (15 : Int) = some (.bool true, []) := by kernel_rfl
theorem at16 : f4 ieee (16 : Int) = some (.bool true, []) := by kernel_rfl
theorem at17 : f4 ieee (17 : Int) = some (.bool true, []) := by kernel_rfl
theorem at18 : f4 ieee (18 : Int) = some (.bool true, []) := by kernel_rfl
theorem at19 : f4 ieee (19 : Int) = some (.bool true, []) := by kernel_rfl
theorem law_true (a : Int) (_ : IntKind.i64.has a) : f4 ieee a = some (.bool true, []) := by
  by_cases h : 0 ≤ a ∧ a ≤ 19
  · have h' : a = 0 ∨ a = 1 ∨ a = 2 ∨ a = 3 ∨ a = 4 ∨ a = 5 ∨ a = 6 ∨ a = 7 ∨ a = 8 ∨ a = 9 ∨ a = 10 ∨ a = 11 ∨ a = 12 ∨ a = 13 ∨ a = 14 ∨ a = 15 ∨ a = 16 ∨ a = 17 ∨ a = 18 ∨ a = 19 := by omega
    rcases h' with rfl | rfl | rfl | rfl | rfl | rfl | rfl | rfl | rfl | rfl | rfl | rfl | rfl | rfl | rfl | rfl | rfl | rfl | rfl | rfl
    · exact at0
    · exact at1
    · exact at2
    · exact at3
    · exact at4
    · exact at5
    · exact at6
    · exact at7
    · exact at8
    · exact at9
    · exact at10
    · exact at11
    · exact at12
    · exact at13
    · exact at14
    · exact at15
    · exact at16
    · exact at17
    · exact at18
    · exact at19
  · have h1 : m53_0 ieee a = false := by
      unfold m53_0
      rw [within82]
      exact decide_eq_false h
    have h2 : m55_0 ieee a = false := by
      unfold m55_0
      rw [within84]
      exact decide_eq_false h
    unfold f4 m18_ok m18_0 m18_1 m19_ok m19_0 m19_1
    rw [h1, h2]
    simp only [cond_false, cond_true, gd_true, same20, bne_self_eq_false]

theorem own : ownKnob Try.prog.godebug = none := by kernel_rfl
theorem laidOut : laidOutB Try.prog = true := by kernel_rfl
set_option maxRecDepth 100000 in
theorem lifted (os : Os) (started : os.Started) (H : Type) (enc : TypeId × Value → H) :
    ReturnsInHanded {} Try.checked os 4 .any (Rows.fnExactFallOfSpec.pre6 enc Try.prog Try.f4 Rows.fnExactFallOfRow.domain false) (Rows.fnExactFallOfSpec.post enc Try.prog Try.f4 false true false false) := by
  refine returnsInHanded_of_change (C := Try.checked) own started (by kernel_rfl) Try.func4
    (ChangeSpec.witness6 (enc := enc) (C := Try.checked) false ⟨#[], #[.int .i64 0], []⟩ 8 (by kernel_rfl) (by kernel_rfl) (by kernel_rfl) (by kernel_rfl)) ?_
  intro W base args ds gs before hval0 hW hcnd _
  have hval : ∀ (j : Nat) t v, Try.f4.params[j]? = some t → args[j]? = some v → Value.okWide Try.prog W .any base t v := hval0
  have hW' := hW
  obtain ⟨p, q, hA0, hV, rfl, hfz, hnd⟩ := hW
  have hA : DataW.TrodAll enc Try.prog W 0 (fun _ => true) true Try.f4.params.toList args.toList ds p := hA0
  have hA1 := hA
  rw [Try.params4] at hA hval
  obtain ⟨v0, vs0, d0, ds0, p0, q0, hargs, rfl, rfl, h0, r0'⟩ := trodAll_cons hA
  obtain ⟨rfl, rfl, rfl⟩ := trodAll_nil r0'
  obtain rfl : args = #[v0] := by cases args; simp_all
  obtain ⟨rfl, rfl⟩ := trodVars_none hV
  obtain ⟨x0, hx0, r0⟩ := okW_int (k := .i64) (by kernel_rfl) (hval 0 2 v0 rfl rfl)
  clear hA0 hval0
  have hx := (eq4 ieee 4096 x0).trans (law_true x0 hx0)
  refine (law_calls0 (cok4 4096 (Nat.le_refl _)) (is4 4096) hx (L2.cons (r0 _) (L2.nil _))).mono fun e W' ⟨he, bel⟩ => ?_
  subst he
  exact ⟨_, rfl, _, _, _, [], _, [], hW', trodAll_mk1 (shut_bool (by kernel_rfl) _), trodAll_stays laidOut bel (by kernel_rfl) hA1, rfl, bel.frame _, fun h => by cases h⟩

/-- The statement. -/
theorem proved : Rows.FnExactFallOfSaid :=
  OpenClaim.holds_of_wide 4 Try.f4 rfl rfl rfl rfl rfl rfl rfl ⟨rfl, rfl, rfl, rfl, rfl⟩ rfl rfl rfl rfl rfl (by kernel_rfl) Try.func4 (by kernel_rfl)
    (of_decide_eq_true (by kernel_rfl)) (by unfold Func.isWrapper; first | (rw [if_pos (by decide +kernel)]; kernel_rfl) | (rw [if_neg (by decide +kernel)]; exact ⟨rfl, rfl⟩))
    (fun os started H enc _ => lifted os started H enc)
end Go.Proofs.Ytbmakfcooonogaa.fnExactFallOf
