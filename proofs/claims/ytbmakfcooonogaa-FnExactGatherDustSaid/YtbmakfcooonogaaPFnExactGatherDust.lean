/- FnExactGatherDust returns true for all arguments. Conditions: none. -/
import Derived.Test.YtbmakfcooonogaaRows
import Derived.Test.YtbmakfcooonogaaAbTyped
import Derived.Test.YtbmakfcooonogaaG1
set_option linter.unusedVariables false
set_option linter.unusedSimpArgs false
set_option maxRecDepth 100000
namespace Go.Proofs.Ytbmakfcooonogaa.fnExactGatherDust
open Go.Ab Go.RowKit Go.ChangeShapes Go.WideShapes Go.ChangeAt
theorem ok49 (o : FO) {L : List (AV o)} (h : tI 21 L = true) : m49_ok o L = true := by
  unfold m49_ok f49
  simp (maxDischargeDepth := 100) +decide only [rdI_t h, rdA_sI h, Nat.reduceAdd, Nat.reduceLeDiff, tI_sub h, rdI_t (tI_sub h (show 0 + 20 ≤ 21 by decide)), k49_c]
  simp only [k49, cond_same]
theorem ok51 (o : FO) {L : List (AV o)} (h : tI 21 L = true) : m51_ok o L = true := by
  unfold m51_ok f51
  simp (maxDischargeDepth := 100) +decide only [rdI_t h, rdA_sI h, Nat.reduceAdd, Nat.reduceLeDiff, tI_sub h, rdI_t (tI_sub h (show 0 + 20 ≤ 21 by decide)), k51_c]
  simp only [k51, cond_same]
theorem twin51 (o : FO) {L : List (AV o)} (h : tI 21 L = true) : m51_0 o L = m49_0 o L := by
  unfold m51_0 m49_0 f51 f49
  simp (maxDischargeDepth := 100) +decide only [rdI_t h, rdA_sI h, Nat.reduceAdd, Nat.reduceLeDiff, tI_sub h, rdI_t (tI_sub h (show 0 + 20 ≤ 21 by decide)), lkI_sub, g49_0c, g51_0c]
  rfl
theorem twin (o : FO) {L : List (AV o)} (h : tI 21 L = true) : f16 o L = f14 o L := by
  unfold f16 f14
  simp (maxDischargeDepth := 100) +decide only [rdI_t h, wrI_t h, rdA_tI h, tI_set, tI_rep, rdA_tI, wrA_tI, rdI_t (n := 21), wrI_t (n := 21), gd_true, ok49, ok51, twin51, h, lkI_ne, lkI_self, List.length_set, tI_len h]
theorem total (o : FO) {L : List (AV o)} (h : tI 21 L = true) : okI 21 (f14 o L) = true := by
  unfold f14
  simp (maxDischargeDepth := 100) +decide only [rdI_t h, wrI_t h, rdA_tI h, tI_set, tI_rep, rdA_tI, wrA_tI, rdI_t (n := 21), wrI_t (n := 21), gd_true, ok49, h, okI_c, okI_leaf, cond_same]
theorem boxLit (o : FO) (z0 z1 z2 z3 z4 z5 z6 z7 z8 z9 z10 z11 z12 z13 z14 z15 z16 z17 z18 z19 z20 : Int) : f15 o [.int .i64 z0, .int .i64 z1, .int .i64 z2, .int .i64 z3, .int .i64 z4, .int .i64 z5, .int .i64 z6, .int .i64 z7, .int .i64 z8, .int .i64 z9, .int .i64 z10, .int .i64 z11, .int .i64 z12, .int .i64 z13, .int .i64 z14, .int .i64 z15, .int .i64 z16, .int .i64 z17, .int .i64 z18, .int .i64 z19, .int .i64 z20] = some (.agg [.int .i64 z0, .int .i64 z1, .int .i64 z2, .int .i64 z3, .int .i64 z4, .int .i64 z5, .int .i64 z6, .int .i64 z7, .int .i64 z8, .int .i64 z9, .int .i64 z10, .int .i64 z11, .int .i64 z12, .int .i64 z13, .int .i64 z14, .int .i64 z15, .int .i64 z16, .int .i64 z17, .int .i64 z18, .int .i64 z19, .int .i64 z20], []) := by kernel_rfl
theorem box15 (o : FO) {L : List (AV o)} (h : tI 21 L = true) : f15 o L = some (.agg L, []) := by
  obtain ⟨zs, hz, rfl⟩ := tI_map h
  obtain ⟨z0, z1, z2, z3, z4, z5, z6, z7, z8, z9, z10, z11, z12, z13, z14, z15, z16, z17, z18, z19, z20, rfl⟩ := len21 hz
  exact boxLit o z0 z1 z2 z3 z4 z5 z6 z7 z8 z9 z10 z11 z12 z13 z14 z15 z16 z17 z18 z19 z20
theorem boxOk (o : FO) {L : List (AV o)} (h : tI 21 L = true) : m15_ok o L = true := by
  unfold m15_ok
  rw [box15 o h]
  rfl
theorem box0 (o : FO) {L : List (AV o)} (h : tI 21 L = true) : m15_0 o L = L := by
  unfold m15_0
  rw [box15 o h]
  rfl
theorem eqc (o : FO) {L : List (AV o)} (h : tI 20 L = true) : f52 o L L = some (.bool true, []) := by
  unfold f52
  simp (maxDischargeDepth := 100) +decide only [rdI_t h, bne_self_eq_false, cond_false]
theorem eqb (o : FO) {L : List (AV o)} (h : tI 21 L = true) : f17 o L L = some (.bool true, []) := by
  unfold f17 m52_ok m52_0
  have h2 := eqc o (tI_sub h (show 0 + 20 ≤ 21 by decide))
  simp (maxDischargeDepth := 100) +decide only [rdA_sI h, rdI_t h, h2, k52, g52_0, gd_true, bne_self_eq_false, Bool.not_true, cond_false, cond_true]
theorem eqbOk (o : FO) {L : List (AV o)} (h : tI 21 L = true) : m17_ok o L L = true := by
  unfold m17_ok
  rw [eqb o h]
  rfl
theorem eqb0 (o : FO) {L : List (AV o)} (h : tI 21 L = true) : m17_0 o L L = true := by
  unfold m17_0
  rw [eqb o h]
  rfl
theorem law_true (L : List A) (hc : L2 CK.is (List.replicate 21 (.int .i64)) L) : f3 ieee L = some (.bool true, []) := by
  have h := tI_of hc
  obtain ⟨M, c, e, hM⟩ := okI_get (total ieee h)
  unfold f3
  simp (maxDischargeDepth := 100) +decide only [rdA_tI, wrA_tI, tI_rep, h, hM, boxOk, box0, gd_true, m14_ok, m14_0, m14_1, m16_ok, m16_0, m16_1, twin, e, k14, k16, g14_0, g14_1, g16_0, g16_1, eqbOk, eqb0, bne_self_eq_false, cond_false, cond_true]

theorem own : ownKnob Try.prog.godebug = none := by kernel_rfl
theorem laidOut : laidOutB Try.prog = true := by kernel_rfl
set_option maxRecDepth 100000 in
theorem lifted (os : Os) (started : os.Started) (H : Type) (enc : TypeId × Value → H) :
    ReturnsInHanded {} Try.checked os 3 .any (Rows.fnExactGatherDustSpec.pre6 enc Try.prog Try.f3 Rows.fnExactGatherDustRow.domain false) (Rows.fnExactGatherDustSpec.post enc Try.prog Try.f3 false true false false) := by
  refine returnsInHanded_of_change (C := Try.checked) own started (by kernel_rfl) Try.func3
    (ChangeSpec.witness6 (enc := enc) (C := Try.checked) false ⟨#[], #[.agg (Array.replicate 21 (.int .i64 0))], []⟩ 8 (by kernel_rfl) (by kernel_rfl) (by kernel_rfl) (by kernel_rfl)) ?_
  intro W base args ds gs before hval0 hW hcnd _
  have hval : ∀ (j : Nat) t v, Try.f3.params[j]? = some t → args[j]? = some v → Value.okWide Try.prog W .any base t v := hval0
  have hW' := hW
  obtain ⟨p, q, hA0, hV, rfl, hfz, hnd⟩ := hW
  have hA : DataW.TrodAll enc Try.prog W 0 (fun _ => true) true Try.f3.params.toList args.toList ds p := hA0
  have hA1 := hA
  rw [Try.params3] at hA hval
  obtain ⟨v0, vs0, d0, ds0, p0, q0, hargs, rfl, rfl, h0, r0'⟩ := trodAll_cons hA
  obtain ⟨rfl, rfl, rfl⟩ := trodAll_nil r0'
  obtain rfl : args = #[v0] := by cases args; simp_all
  obtain ⟨rfl, rfl⟩ := trodVars_none hV
  obtain ⟨cs0, hl0, r0⟩ := okW_agg (List.replicate 21 (.int .i64)) (by kernel_rfl) (by kernel_rfl) (by kernel_rfl) (hval 0 24 v0 rfl rfl)
  clear hA0 hval0
  have hx := (eq3 ieee 4096 cs0).trans (law_true cs0 hl0)
  refine (law_calls0 (cok3 4096 (Nat.le_refl _)) (is3 4096) hx (L2.cons (r0 _) (L2.nil _))).mono fun e W' ⟨he, bel⟩ => ?_
  subst he
  exact ⟨_, rfl, _, _, _, [], _, [], hW', trodAll_mk1 (shut_bool (by kernel_rfl) _), trodAll_stays laidOut bel (by kernel_rfl) hA1, rfl, bel.frame _, fun h => by cases h⟩

/-- The statement. -/
theorem proved : Rows.FnExactGatherDustSaid :=
  OpenClaim.holds_of_wide 3 Try.f3 rfl rfl rfl rfl rfl rfl rfl ⟨rfl, rfl, rfl, rfl, rfl⟩ rfl rfl rfl rfl rfl (by kernel_rfl) Try.func3 (by kernel_rfl)
    (of_decide_eq_true (by kernel_rfl)) (by unfold Func.isWrapper; first | (rw [if_pos (by decide +kernel)]; kernel_rfl) | (rw [if_neg (by decide +kernel)]; exact ⟨rfl, rfl⟩))
    (fun os started H enc _ => lifted os started H enc)
end Go.Proofs.Ytbmakfcooonogaa.fnExactGatherDust
