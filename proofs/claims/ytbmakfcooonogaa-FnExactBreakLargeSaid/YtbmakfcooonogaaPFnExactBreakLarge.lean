/- FnExactBreakLarge returns true for all arguments. Conditions: none. -/
import Derived.Test.YtbmakfcooonogaaRows
import Derived.Test.YtbmakfcooonogaaAbTyped
import Derived.Test.YtbmakfcooonogaaG1
set_option linter.unusedVariables false
set_option linter.unusedSimpArgs false
set_option maxRecDepth 100000
namespace Go.Proofs.Ytbmakfcooonogaa.fnExactBreakLarge
open Go.Ab Go.RowKit Go.ChangeShapes Go.WideShapes Go.ChangeAt
theorem same20 (o : FO) (x : o.D) : m20_0 o x x = true := by
  unfold m20_0
  cases h : o.deq x x
  · rfl
  · cases h0 : o.deq x (o.dlit 0)
    · rfl
    · simp
theorem ok95 (o : FO) {L : List (AV o)} (h : tS 20 L = true) : m95_ok o L = true := by
  unfold m95_ok f95
  simp (maxDischargeDepth := 100) +decide only [rdS_t h, rdA_tS h, k95_c]
  simp only [k95, cond_same]
theorem ok97 (o : FO) {L : List (AV o)} (h : tS 20 L = true) : m97_ok o L = true := by
  unfold m97_ok f97
  simp (maxDischargeDepth := 100) +decide only [rdS_t h, rdA_tS h, k97_c]
  simp only [k97, cond_same]
theorem twin97 (o : FO) {L : List (AV o)} (h : tS 20 L = true) : m97_0 o L = m95_0 o L := by
  unfold m97_0 m95_0 f97 f95
  simp (maxDischargeDepth := 100) +decide only [rdS_t h, rdA_tS h, g95_0c, g97_0c]
  rfl
theorem lit74 (o : FO) (z0 z1 z2 z3 z4 z5 z6 z7 z8 z9 z10 z11 z12 z13 z14 z15 z16 z17 z18 z19 : o.S) : f74 o [.f32 z0, .f32 z1, .f32 z2, .f32 z3, .f32 z4, .f32 z5, .f32 z6, .f32 z7, .f32 z8, .f32 z9, .f32 z10, .f32 z11, .f32 z12, .f32 z13, .f32 z14, .f32 z15, .f32 z16, .f32 z17, .f32 z18, .f32 z19] = bif finSeg [.f32 z0, .f32 z1, .f32 z2, .f32 z3, .f32 z4, .f32 z5, .f32 z6, .f32 z7, .f32 z8, .f32 z9, .f32 z10, .f32 z11, .f32 z12, .f32 z13, .f32 z14, .f32 z15, .f32 z16, .f32 z17, .f32 z18, .f32 z19] 0 20 then some (.tup [.agg [.f32 z0, .f32 z1, .f32 z2, .f32 z3, .f32 z4, .f32 z5, .f32 z6, .f32 z7, .f32 z8, .f32 z9, .f32 z10, .f32 z11, .f32 z12, .f32 z13, .f32 z14, .f32 z15, .f32 z16, .f32 z17, .f32 z18, .f32 z19], .int .i64 (0 : Int)], []) else some (.tup [.agg (List.replicate 20 (.f32 (o.slit 0))), .int .i64 (4 : Int)], []) := by
  have h : tS 20 ([.f32 z0, .f32 z1, .f32 z2, .f32 z3, .f32 z4, .f32 z5, .f32 z6, .f32 z7, .f32 z8, .f32 z9, .f32 z10, .f32 z11, .f32 z12, .f32 z13, .f32 z14, .f32 z15, .f32 z16, .f32 z17, .f32 z18, .f32 z19] : List (AV o)) = true := rfl
  have e : finSeg ([.f32 z0, .f32 z1, .f32 z2, .f32 z3, .f32 z4, .f32 z5, .f32 z6, .f32 z7, .f32 z8, .f32 z9, .f32 z10, .f32 z11, .f32 z12, .f32 z13, .f32 z14, .f32 z15, .f32 z16, .f32 z17, .f32 z18, .f32 z19] : List (AV o)) 0 20 = (m88_0 o z0 && (m88_0 o z1 && (m88_0 o z2 && (m88_0 o z3 && (m88_0 o z4 && (m88_0 o z5 && (m88_0 o z6 && (m88_0 o z7 && (m88_0 o z8 && (m88_0 o z9 && (m88_0 o z10 && (m88_0 o z11 && (m88_0 o z12 && (m88_0 o z13 && (m88_0 o z14 && (m88_0 o z15 && (m88_0 o z16 && (m88_0 o z17 && (m88_0 o z18 && (m88_0 o z19 && true)))))))))))))))))))) := rfl
  rw [e, Bool.and_true]
  unfold f74
  simp (maxDischargeDepth := 100) +decide only [rdS_t h, wrA_tS, rdA_tS, tS_rep, chain_not]
  simp only [chain_and, Bool.and_assoc]
  rfl
theorem made (o : FO) {L : List (AV o)} (h : tS 20 L = true) : f74 o L = bif finSeg L 0 20 then some (.tup [.agg L, .int .i64 (0 : Int)], []) else some (.tup [.agg (List.replicate 20 (.f32 (o.slit 0))), .int .i64 (4 : Int)], []) := by
  obtain ⟨zs, hz, rfl⟩ := tS_map h
  obtain ⟨z0, z1, z2, z3, z4, z5, z6, z7, z8, z9, z10, z11, z12, z13, z14, z15, z16, z17, z18, z19, rfl⟩ := len20 hz
  exact lit74 o z0 z1 z2 z3 z4 z5 z6 z7 z8 z9 z10 z11 z12 z13 z14 z15 z16 z17 z18 z19
theorem madeT (o : FO) {L : List (AV o)} (h : tS 20 L = true) : okS 20 (f74 o L) = true := by
  rw [made o h]
  simp (maxDischargeDepth := 100) +decide only [okS_c, okS_leaf, tS_rep, h, cond_same]
theorem madeTw (o : FO) {L : List (AV o)} (h : tS 20 L = true) : f78 o L = f74 o L := by
  rw [made o h]
  unfold f78
  simp (maxDischargeDepth := 100) +decide only [segF_t h, tS_len h, gd_true, rdA_tS, wrA_tS, tS_rep, h]
  cases finSeg L 0 20 <;> rfl
theorem szLit (o : FO) (z0 z1 z2 z3 z4 z5 z6 z7 z8 z9 z10 z11 z12 z13 z14 z15 z16 z17 z18 z19 : o.S) : f32 o [.f32 z0, .f32 z1, .f32 z2, .f32 z3, .f32 z4, .f32 z5, .f32 z6, .f32 z7, .f32 z8, .f32 z9, .f32 z10, .f32 z11, .f32 z12, .f32 z13, .f32 z14, .f32 z15, .f32 z16, .f32 z17, .f32 z18, .f32 z19] = some (.agg [.f32 z0, .f32 z1, .f32 z2, .f32 z3, .f32 z4, .f32 z5, .f32 z6, .f32 z7, .f32 z8, .f32 z9, .f32 z10, .f32 z11, .f32 z12, .f32 z13, .f32 z14, .f32 z15, .f32 z16, .f32 z17, .f32 z18, .f32 z19], []) := by kernel_rfl
theorem sz32 (o : FO) {L : List (AV o)} (h : tS 20 L = true) : f32 o L = some (.agg L, []) := by
  obtain ⟨zs, hz, rfl⟩ := tS_map h
  obtain ⟨z0, z1, z2, z3, z4, z5, z6, z7, z8, z9, z10, z11, z12, z13, z14, z15, z16, z17, z18, z19, rfl⟩ := len20 hz
  exact szLit o z0 z1 z2 z3 z4 z5 z6 z7 z8 z9 z10 z11 z12 z13 z14 z15 z16 z17 z18 z19
theorem szOk (o : FO) {L : List (AV o)} (h : tS 20 L = true) : m32_ok o L = true := by
  unfold m32_ok
  rw [sz32 o h]
  rfl
theorem sz0 (o : FO) {L : List (AV o)} (h : tS 20 L = true) : m32_0 o L = L := by
  unfold m32_0
  rw [sz32 o h]
  rfl
theorem eqs (o : FO) {L : List (AV o)} (h : tS 20 L = true) : f34 o L L = some (.bool true, []) := by
  unfold f34
  simp (maxDischargeDepth := 100) +decide only [rdS_t h, same20, Bool.not_true, cond_false]
theorem eqsOk (o : FO) {L : List (AV o)} (h : tS 20 L = true) : m34_ok o L L = true := by
  unfold m34_ok
  rw [eqs o h]
  rfl
theorem eqs0 (o : FO) {L : List (AV o)} (h : tS 20 L = true) : m34_0 o L L = true := by
  unfold m34_0
  rw [eqs o h]
  rfl
theorem within82 (o : FO) (p a b : Int) : m82_0 o p a b = decide (a ≤ p ∧ p ≤ b) := by
  unfold m82_0
  by_cases h : p ≥ a
  · simp [h]
  · simp [h]
theorem within84 (o : FO) (p a b : Int) : m84_0 o p a b = m82_0 o p a b := rfl
theorem share98 (o : FO) (x : o.S) : m98_0 o x = m96_0 o x := rfl
noncomputable def codeR (o : FO) (L : List (AV o)) (p : Int) (s : o.S) : Int := bif m95_0 o L then (bif m82_0 o p (1 : Int) (19 : Int) then (bif m96_0 o s then 0 else 2) else 2) else 1
theorem code1ok (o : FO) {L : List (AV o)} (h : tS 20 L = true) (p : Int) (s : o.S) : m73_ok o p s L = true := by
  unfold m73_ok
  simp (maxDischargeDepth := 100) +decide only [ok95, h, cond_true, cond_same]
theorem code1v (o : FO) (L : List (AV o)) (p : Int) (s : o.S) : m73_0 o p s L = codeR o L p s := rfl
theorem code2 (o : FO) {L : List (AV o)} (h : tS 20 L = true) (p : Int) (s : o.S) : f76 o L p s = some (.int .i64 (codeR o L p s), []) := by
  unfold f76 codeR
  simp (maxDischargeDepth := 100) +decide only [ok97, twin97, within84, share98, h, rdA_tS, gd_true]
  cases m95_0 o L <;> cases m82_0 o p (1 : Int) (19 : Int) <;> cases m96_0 o s <;> rfl
theorem code0 (o : FO) (L : List (AV o)) (p : Int) (s : o.S) (h : codeR o L p s = 0) : ∃ j : Nat, j < 19 ∧ p = ((j + 1 : Nat) : Int) := by
  unfold codeR at h
  rw [within82] at h
  by_cases hp : 1 ≤ p ∧ p ≤ 19
  · exact ⟨(p - 1).toNat, by omega, by omega⟩
  · exfalso
    rw [decide_eq_false hp] at h
    revert h
    cases m95_0 o L <;> simp
noncomputable def brk (o : FO) (L : List (AV o)) (j : Nat) (s : o.S) : List (AV o) :=
  (L.set (j + 1) (.f32 (o.ssub (lkS L (j + 1)) (o.smul s (lkS L (j + 1)))))).set j (.f32 (o.sadd (lkS (L.set (j + 1) (.f32 (o.ssub (lkS L (j + 1)) (o.smul s (lkS L (j + 1)))))) j) (o.smul (o.slit 1073741824) (o.smul s (lkS L (j + 1))))))
theorem tS_brk (o : FO) {L : List (AV o)} (h : tS 20 L = true) (j : Nat) (s : o.S) : tS 20 (brk o L j s) = true := tS_set (tS_set h)
theorem idx1 {j : Nat} (h : j < 20) : (decide (0 ≤ ((j : Nat) : Int)) && decide (((j : Nat) : Int) < ((20 : Nat) : Int))) = true := by simp; omega
theorem idx2 {j : Nat} (h : j < 19) : IntKind.wrap .i64 (((j + 1 : Nat) : Int) - (1 : Int)) = ((j : Nat) : Int) := by rw [wrap64 (by omega) (by omega)]; omega
theorem brk75 (o : FO) {L : List (AV o)} (h : tS 20 L = true) {j : Nat} (hj : j < 19) (s : o.S) : f75 o L ((j + 1 : Nat) : Int) s = some (.agg (brk o L j s), []) := by
  have i1 : j + 1 < 20 := by omega
  have i2 : j < 20 := by omega
  unfold f75 brk
  simp (maxDischargeDepth := 100) +decide only [idx2 hj, idx1 i1, idx1 i2, Int.toNat_natCast, Nat.zero_add, Nat.mul_one, rdS_t h i1, wrS_t h i1, rdS_t (n := 20) (tS_set h) i2, wrS_t (n := 20) (tS_set h) i2, gd_true, rdA_tS, wrA_tS, tS_rep, tS_set, h]
theorem brk77 (o : FO) {L : List (AV o)} (h : tS 20 L = true) {j : Nat} (hj : j < 19) (s : o.S) : f77 o ((j + 1 : Nat) : Int) s L = some (.tup [], [.live true true (brk o L j s)]) := by
  have i1 : j + 1 < 20 := by omega
  have i2 : j < 20 := by omega
  unfold f77 brk
  simp (maxDischargeDepth := 100) +decide only [idx2 hj, idx1 i1, idx1 i2, Int.toNat_natCast, Nat.zero_add, Nat.mul_one, rdS_t h i1, wrS_t h i1, rdS_t (n := 20) (tS_set h) i2, wrS_t (n := 20) (tS_set h) i2, gd_true, rdA_tS, wrA_tS, tS_rep, tS_set, h]
theorem step35 (o : FO) {c out : List (AV o)} (h : tS 20 c = true) {j : Nat} (hj : j < 19) {p : Int} (hp : p ≤ ((j + 1 : Nat) : Int)) (s : o.S) (s0 : Int × o.S × Int × List (AV o) × List (AV o) → R o) :
    f35_L0 o 4096 s0 (p, s, ((j + 1 : Nat) : Int), c, out) = s0 (p, s, ((j : Nat) : Int), brk o c j s, out) := by
  unfold f35_L0
  have e : decide (((j + 1 : Nat) : Int) ≥ p) = true := decide_eq_true hp
  simp (maxDischargeDepth := 100) +decide only [e, cond_true, rdA_tS h, m75_ok, k75, m75_0, g75_0, brk75 o h hj, gd_true, wrA_tS h, tS_brk o h, idx2 hj]
theorem step36 (o : FO) {c out : List (AV o)} (h : tS 20 c = true) {j : Nat} (hj : j < 19) {p : Int} (hp : p ≤ ((j + 1 : Nat) : Int)) (s : o.S) (s0 : Int × o.S × Int × List (AV o) × List (AV o) → R o) :
    f36_L0 o 4096 s0 (p, s, ((j + 1 : Nat) : Int), c, out) = s0 (p, s, ((j : Nat) : Int), brk o c j s, out) := by
  unfold f36_L0
  have e : decide (((j + 1 : Nat) : Int) ≥ p) = true := decide_eq_true hp
  simp (maxDischargeDepth := 100) +decide only [e, cond_true, rdA_tS h, m77_ok, k77, m77_0, g77_0, brk77 o h hj, gd_true, wrA_tS h, tS_brk o h, idx2 hj]
theorem exit35 (o : FO) {c out M : List (AV o)} (h : tS 20 c = true) (ho : tS 20 out = true) (hM : tS 20 M = true) {k p cc : Int} (hp : k < p) (s : o.S) (s0 : Int × o.S × Int × List (AV o) × List (AV o) → R o)
    (eM : f74 o c = some (.tup [.agg M, .int .i64 cc], [])) : f35_L0 o 4096 s0 (p, s, k, c, out) = some (.tup [.agg M, .int .i64 cc], []) := by
  unfold f35_L0
  have e : decide (k ≥ p) = false := decide_eq_false (by omega)
  simp (maxDischargeDepth := 100) +decide only [e, cond_false, rdA_tS h, m74_ok, k74, m74_0, g74_0, m74_1, g74_1, eM, gd_true, wrA_tS ho, rdA_tS, hM]
theorem exit36 (o : FO) {c out M : List (AV o)} (h : tS 20 c = true) (ho : tS 20 out = true) (hM : tS 20 M = true) {k p cc : Int} (hp : k < p) (s : o.S) (s0 : Int × o.S × Int × List (AV o) × List (AV o) → R o)
    (eM : f78 o c = some (.tup [.agg M, .int .i64 cc], [])) : f36_L0 o 4096 s0 (p, s, k, c, out) = some (.tup [.agg M, .int .i64 cc], []) := by
  unfold f36_L0
  have e : decide (k ≥ p) = false := decide_eq_false (by omega)
  simp (maxDischargeDepth := 100) +decide only [e, cond_false, rdA_tS h, m78_ok, k78, m78_0, g78_0, m78_1, g78_1, eM, gd_true, wrA_tS ho, rdA_tS, hM]
theorem run (o : FO) {j0 : Nat} (s : o.S) : ∀ (e M : Nat) (c out : List (AV o)), tS 20 c = true → tS 20 out = true → j0 + e ≤ 19 → e < M →
    okS 20 (iter (f35_L0 o 4096) M (((j0 + 1 : Nat) : Int), s, ((j0 + e : Nat) : Int), c, out)) = true ∧
    iter (f36_L0 o 4096) M (((j0 + 1 : Nat) : Int), s, ((j0 + e : Nat) : Int), c, out) = iter (f35_L0 o 4096) M (((j0 + 1 : Nat) : Int), s, ((j0 + e : Nat) : Int), c, out) := by
  intro e
  induction e with
  | zero =>
    intro M c out hc ho he hM
    cases M with
    | zero => omega
    | succ M =>
      obtain ⟨m, cc, eM, hm⟩ := okS_get (madeT o hc)
      rw [iter_succ, iter_succ, exit35 o hc ho hm (by omega) s _ eM, exit36 o hc ho hm (by omega) s _ ((madeTw o hc).trans eM)]
      exact ⟨hm, rfl⟩
  | succ e ih =>
    intro M c out hc ho he hM
    cases M with
    | zero => omega
    | succ M =>
      rw [iter_succ, iter_succ, show j0 + (e + 1) = (j0 + e) + 1 from rfl, step35 o hc (by omega) (by omega) s, step36 o hc (by omega) (by omega) s]
      exact ih M _ _ (tS_brk o hc _ _) ho (by omega) (by omega)
theorem main (o : FO) {L : List (AV o)} (h : tS 20 L = true) (p : Int) (s : o.S) : okS 20 (f35 o 4096 L p s) = true ∧ f36 o 4096 L p s = f35 o 4096 L p s := by
  unfold f35 f36
  simp (maxDischargeDepth := 100) +decide only [rdA_tS h, code1ok o h, code1v, m76_ok, k76, m76_0, g76_0, code2 o h, gd_true]
  cases hb : (codeR o L p s != 0)
  · obtain ⟨j, hj, rfl⟩ := code0 o L p s (by simpa using hb)
    simp only [cond_false]
    have := run o (j0 := j) s (19 - j) 4096 L _ h (tS_rep 20 (o.slit 0)) (by omega) (by omega)
    rw [show j + (19 - j) = 19 by omega] at this
    exact this
  · simp (maxDischargeDepth := 100) +decide only [cond_true, rdA_tS, wrA_tS, tS_rep, okS_leaf, and_self]
theorem law_true (L : List A) (p : Int) (s : ieee.S) (hc : L2 CK.is (List.replicate 20 .f32) L) (_ : IntKind.i64.has p) : f10 ieee L p s = some (.bool true, []) := by
  have h := tS_of hc
  have hm := main ieee h p s
  obtain ⟨M, c, e, hM⟩ := okS_get hm.1
  have e2 := hm.2.trans e
  unfold f10
  simp (maxDischargeDepth := 100) +decide only [rdA_tS, wrA_tS, tS_rep, h, hM, szOk, sz0, gd_true, m35_ok, k35, m35_0, g35_0, m35_1, g35_1, m36_ok, k36, m36_0, g36_0, m36_1, g36_1, e, e2, eqsOk, eqs0, bne_self_eq_false, cond_false, cond_true]

theorem own : ownKnob Try.prog.godebug = none := by kernel_rfl
theorem laidOut : laidOutB Try.prog = true := by kernel_rfl
set_option maxRecDepth 100000 in
theorem lifted (os : Os) (started : os.Started) (H : Type) (enc : TypeId × Value → H) :
    ReturnsInHanded {} Try.checked os 10 .any (Rows.fnExactBreakLargeSpec.pre6 enc Try.prog Try.f10 Rows.fnExactBreakLargeRow.domain false) (Rows.fnExactBreakLargeSpec.post enc Try.prog Try.f10 false true false false) := by
  refine returnsInHanded_of_change (C := Try.checked) own started (by kernel_rfl) Try.func10
    (ChangeSpec.witness6 (enc := enc) (C := Try.checked) false ⟨#[], #[.agg (Array.replicate 20 (.float .f32 0)), .int .i64 0, .float .f32 0], []⟩ 8 (by kernel_rfl) (by kernel_rfl) (by kernel_rfl) (by kernel_rfl)) ?_
  intro W base args ds gs before hval0 hW hcnd _
  have hval : ∀ (j : Nat) t v, Try.f10.params[j]? = some t → args[j]? = some v → Value.okWide Try.prog W .any base t v := hval0
  have hW' := hW
  obtain ⟨p, q, hA0, hV, rfl, hfz, hnd⟩ := hW
  have hA : DataW.TrodAll enc Try.prog W 0 (fun _ => true) true Try.f10.params.toList args.toList ds p := hA0
  have hA1 := hA
  rw [Try.params10] at hA hval
  obtain ⟨v0, vs0, d0, ds0, p0, q0, hargs, rfl, rfl, h0, r0'⟩ := trodAll_cons hA
  obtain ⟨v1, vs1, d1, ds1, p1, q1, rfl, rfl, rfl, h1, r1'⟩ := trodAll_cons r0'
  obtain ⟨v2, vs2, d2, ds2, p2, q2, rfl, rfl, rfl, h2, r2'⟩ := trodAll_cons r1'
  obtain ⟨rfl, rfl, rfl⟩ := trodAll_nil r2'
  obtain rfl : args = #[v0, v1, v2] := by cases args; simp_all
  obtain ⟨rfl, rfl⟩ := trodVars_none hV
  obtain ⟨cs0, hl0, r0⟩ := okW_agg (List.replicate 20 (.f32)) (by kernel_rfl) (by kernel_rfl) (by kernel_rfl) (hval 0 39 v0 rfl rfl)
  obtain ⟨x1, hx1, r1⟩ := okW_int (k := .i64) (by kernel_rfl) (hval 1 2 v1 rfl rfl)
  obtain ⟨x2, r2⟩ := okW_f32 (by kernel_rfl) (hval 2 33 v2 rfl rfl)
  clear hA0 hval0
  have hx := (eq10 ieee 4096 cs0 x1 x2).trans (law_true cs0 x1 x2 hl0 hx1)
  refine (law_calls0 (cok10 4096 (Nat.le_refl _)) (is10 4096) hx (L2.cons (r0 _) (L2.cons (r1 _) (L2.cons (r2 _) (L2.nil _))))).mono fun e W' ⟨he, bel⟩ => ?_
  subst he
  exact ⟨_, rfl, _, _, _, [], _, [], hW', trodAll_mk1 (shut_bool (by kernel_rfl) _), trodAll_stays laidOut bel (by kernel_rfl) hA1, rfl, bel.frame _, fun h => by cases h⟩

/-- The statement. -/
theorem proved : Rows.FnExactBreakLargeSaid :=
  OpenClaim.holds_of_wide 10 Try.f10 rfl rfl rfl rfl rfl rfl rfl ⟨rfl, rfl, rfl, rfl, rfl⟩ rfl rfl rfl rfl rfl (by kernel_rfl) Try.func10 (by kernel_rfl)
    (of_decide_eq_true (by kernel_rfl)) (by unfold Func.isWrapper; first | (rw [if_pos (by decide +kernel)]; kernel_rfl) | (rw [if_neg (by decide +kernel)]; exact ⟨rfl, rfl⟩))
    (fun os started H enc _ => lifted os started H enc)
end Go.Proofs.Ytbmakfcooonogaa.fnExactBreakLarge
