/- FnExactCollidePair returns true for all arguments. Conditions: none. -/
import Derived.Test.YtbmakfcooonogaaRows
import Derived.Test.YtbmakfcooonogaaG1
set_option linter.unusedVariables false
set_option linter.unusedSimpArgs false
set_option maxRecDepth 100000
namespace Go.Proofs.Ytbmakfcooonogaa.fnExactCollidePair
open Go.Ab Go.RowKit Go.ChangeShapes Go.WideShapes Go.ChangeAt
theorem ok49 (o : FO) {L : List (AV o)} (h : tI 21 L = true) : m49_ok o L = true := by
  unfold m49_ok f49
  simp (maxDischargeDepth := 100) +decide only [rdI_t h, rdA_sI h, Nat.reduceAdd, Nat.reduceLeDiff, tI_sub h, rdI_t (tI_sub h (show 0 + 20 ≤ 21 by decide)), k49_c]
  simp only [k49, cond_same]
theorem ok51 (o : FO) {L : List (AV o)} (h : tI 21 L = true) : m51_ok o L = true := by
  unfold m51_ok f51
  simp (maxDischargeDepth := 100) +decide only [rdI_t h, rdA_sI h, Nat.reduceAdd, Nat.reduceLeDiff, tI_sub h, rdI_t (tI_sub h (show 0 + 20 ≤ 21 by decide)), k51_c]
  simp only [k51, cond_same]
theorem twin51 (o : FO) {L : List (AV o)} (h : tI 21 L = true) : m51_0 o L = m49_0 o L := by
  unfold m51_0 m49_0 f51 f49
  simp (maxDischargeDepth := 100) +decide only [rdI_t h, rdA_sI h, Nat.reduceAdd, Nat.reduceLeDiff, tI_sub h, rdI_t (tI_sub h (show 0 + 20 ≤ 21 by decide)), lkI_sub, g49_0c, g51_0c]
  rfl
theorem within82 (o : FO) (p a b : Int) : m82_0 o p a b = decide (a ≤ p ∧ p ≤ b) := by
  unfold m82_0
  by_cases h : p ≥ a
  · simp [h]
  · simp [h]
theorem cls (o : FO) (p : Int) : m53_0 o p = decide (0 ≤ p ∧ p ≤ 19) := within82 o p 0 19
theorem cls2 (o : FO) (p : Int) : m55_0 o p = decide (0 ≤ p ∧ p ≤ 19) := within82 o p 0 19
theorem idx1 {j : Nat} (h : j < 20) : (decide (0 ≤ ((j : Nat) : Int)) && decide (((j : Nat) : Int) < ((20 : Nat) : Int))) = true := by simp; omega
theorem wu {i : Nat} (h : i < 20) : IntKind.wrap .u64 ((i : Nat) : Int) = ((i : Nat) : Int) := (by decide : ∀ k : Fin 20, IntKind.wrap .u64 ((k.1 : Nat) : Int) = ((k.1 : Nat) : Int)) ⟨i, h⟩
theorem ge0 (i : Nat) : decide (0 ≤ ((i : Nat) : Int)) = true := decide_eq_true (by omega)
theorem whole (o : FO) (v : Int) : ∃ k : Nat, k < 20 ∧ m99_0 o v = ((k : Nat) : Int) := by
  unfold m99_0
  cases decide ((2 : Int) ≤ v)
  · exact ⟨0, by omega, rfl⟩
  · cases decide ((4 : Int) ≤ v)
    · exact ⟨1, by omega, rfl⟩
    · cases decide ((8 : Int) ≤ v)
      · exact ⟨2, by omega, rfl⟩
      · cases decide ((16 : Int) ≤ v)
        · exact ⟨3, by omega, rfl⟩
        · cases decide ((32 : Int) ≤ v)
          · exact ⟨4, by omega, rfl⟩
          · cases decide ((64 : Int) ≤ v)
            · exact ⟨5, by omega, rfl⟩
            · cases decide ((128 : Int) ≤ v)
              · exact ⟨6, by omega, rfl⟩
              · cases decide ((256 : Int) ≤ v)
                · exact ⟨7, by omega, rfl⟩
                · cases decide ((512 : Int) ≤ v)
                  · exact ⟨8, by omega, rfl⟩
                  · cases decide ((1024 : Int) ≤ v)
                    · exact ⟨9, by omega, rfl⟩
                    · cases decide ((2048 : Int) ≤ v)
                      · exact ⟨10, by omega, rfl⟩
                      · cases decide ((4096 : Int) ≤ v)
                        · exact ⟨11, by omega, rfl⟩
                        · cases decide ((8192 : Int) ≤ v)
                          · exact ⟨12, by omega, rfl⟩
                          · cases decide ((16384 : Int) ≤ v)
                            · exact ⟨13, by omega, rfl⟩
                            · cases decide ((32768 : Int) ≤ v)
                              · exact ⟨14, by omega, rfl⟩
                              · cases decide ((65536 : Int) ≤ v)
                                · exact ⟨15, by omega, rfl⟩
                                · cases decide ((131072 : Int) ≤ v)
                                  · exact ⟨16, by omega, rfl⟩
                                  · cases decide ((262144 : Int) ≤ v)
                                    · exact ⟨17, by omega, rfl⟩
                                    · cases decide ((524288 : Int) ≤ v)
                                      · exact ⟨18, by omega, rfl⟩
                                      · exact ⟨19, by omega, rfl⟩
noncomputable def less (o : FO) (L : List (AV o)) (i j : Nat) : List (AV o) := (L.set i (.int .i64 (IntKind.wrap .i64 (lkI L i - (1 : Int))))).set j (.int .i64 (IntKind.wrap .i64 (lkI (L.set i (.int .i64 (IntKind.wrap .i64 (lkI L i - (1 : Int))))) j - (1 : Int))))
theorem tI_less (o : FO) {L : List (AV o)} (h : tI 21 L = true) (i j : Nat) : tI 21 (less o L i j) = true := tI_set (tI_set h)
def sum2 (i j : Nat) : Int := IntKind.wrap .i64 (IntKind.wrap .i64 ((1 : Int) * 2 ^ (min i (IntKind.bits .i64))) + IntKind.wrap .i64 ((1 : Int) * 2 ^ (min j (IntKind.bits .i64))))
noncomputable def more (o : FO) (C : List (AV o)) (v : Int) (k : Nat) (w : Int) : List (AV o) := (C.set k (.int .i64 (IntKind.wrap .i64 (lkI C k + (1 : Int))))).set 20 (.int .i64 (IntKind.wrap .i64 (lkI (C.set k (.int .i64 (IntKind.wrap .i64 (lkI C k + (1 : Int))))) 20 + IntKind.wrap .i64 (v - w))))
theorem tI_more (o : FO) {C : List (AV o)} (h : tI 21 C = true) (v : Int) (k : Nat) (w : Int) : tI 21 (more o C v k w) = true := tI_set (tI_set h)
def pw (k : Nat) : Int := IntKind.wrap .i64 ((1 : Int) * 2 ^ (min k (IntKind.bits .i64)))
noncomputable def spR (o : FO) (L : List (AV o)) (i j k : Nat) : R o :=
  bif decide (lkI (less o L i j) i < (0 : Int)) then some (.tup [.agg (List.replicate 21 (.int .i64 (0 : Int)) : List (AV o)), .int .i64 (6 : Int)], [.live false true [.int .i64 ((i : Nat) : Int), .int .i64 ((j : Nat) : Int)]])
  else bif decide (lkI (less o L i j) j < (0 : Int)) then some (.tup [.agg (List.replicate 21 (.int .i64 (0 : Int)) : List (AV o)), .int .i64 (6 : Int)], [.live false true [.int .i64 ((i : Nat) : Int), .int .i64 ((j : Nat) : Int)]])
  else bif !(m49_0 o (more o (less o L i j) (sum2 i j) k (pw k))) then some (.tup [.agg (List.replicate 21 (.int .i64 (0 : Int)) : List (AV o)), .int .i64 (3 : Int)], [.live false true [.int .i64 ((i : Nat) : Int), .int .i64 ((j : Nat) : Int)]])
  else some (.tup [.agg (more o (less o L i j) (sum2 i j) k (pw k)), .int .i64 (0 : Int)], [.live false true [.int .i64 ((i : Nat) : Int), .int .i64 ((j : Nat) : Int)]])
noncomputable def imR (o : FO) (L : List (AV o)) (i j k : Nat) : R o :=
  bif decide (lkI (less o L i j) i < (0 : Int)) then some (.int .i64 (6 : Int), [.live true true L])
  else bif decide (lkI (less o L i j) j < (0 : Int)) then some (.int .i64 (6 : Int), [.live true true L])
  else bif !(m49_0 o (more o (less o L i j) (sum2 i j) k (pw k))) then some (.int .i64 (3 : Int), [.live true true L])
  else some (.int .i64 (0 : Int), [.live true true (more o (less o L i j) (sum2 i j) k (pw k))])
theorem sp79 (o : FO) {L : List (AV o)} (h : tI 21 L = true) {i j k : Nat} (hi : i < 20) (hj : j < 20) (hk : k < 20) (e : m99_0 o (sum2 i j) = ((k : Nat) : Int)) : f79 o L ((i : Nat) : Int) ((j : Nat) : Int) = spR o L i j k := by
  have i1 : i < 21 := by omega
  have i2 : j < 21 := by omega
  have i3 : k < 21 := by omega
  have hz : tI 21 (List.replicate 21 (.int .i64 (0 : Int)) : List (AV o)) = true := tI_rep 21 _
  have ci : m53_0 o ((i : Nat) : Int) = true := by rw [cls]; exact decide_eq_true (by omega)
  have cj : m53_0 o ((j : Nat) : Int) = true := by rw [cls]; exact decide_eq_true (by omega)
  have hC := tI_less o h i j
  have hM := tI_more o hC (sum2 i j) k (pw k)
  unfold f79
  simp (maxDischargeDepth := 100) +decide only [ci, cj, cond_true, dlt hi, dlt hj, Bool.and_self, Int.toNat_natCast, Nat.zero_add, Nat.mul_one, gd_true, rdI_t h i1, wrI_t h i1, rdI_t (n := 21) (tI_set h) i2, wrI_t (n := 21) (tI_set h) i2, wrA_tI hz hz, rdA_tI hz, wu hi, wu hj, ge0]
  rw [show ((L.set i (.int .i64 (IntKind.wrap .i64 (lkI L i - (1 : Int))))).set j (.int .i64 (IntKind.wrap .i64 (lkI (L.set i (.int .i64 (IntKind.wrap .i64 (lkI L i - (1 : Int))))) j - (1 : Int)))) : List (AV o)) = less o L i j from rfl]
  rw [show IntKind.wrap .i64 (IntKind.wrap .i64 ((1 : Int) * 2 ^ (min i (IntKind.bits .i64))) + IntKind.wrap .i64 ((1 : Int) * 2 ^ (min j (IntKind.bits .i64)))) = sum2 i j from rfl]
  simp (maxDischargeDepth := 100) +decide only [e, dlt hk, dlt hi, dlt hj, Bool.and_self, Int.toNat_natCast, Nat.zero_add, Nat.mul_one, gd_true, rdI_t hC i1, rdI_t hC i2, rdI_t hC i3, wrI_t hC i3, rdI_t (n := 21) (tI_set hC) (show 20 < 21 by omega), wrI_t (n := 21) (tI_set hC) (show 20 < 21 by omega), wu hk, ge0]
  rw [show ((less o L i j).set k (.int .i64 (IntKind.wrap .i64 (lkI (less o L i j) k + (1 : Int))))).set 20 (.int .i64 (IntKind.wrap .i64 (lkI ((less o L i j).set k (.int .i64 (IntKind.wrap .i64 (lkI (less o L i j) k + (1 : Int))))) 20 + IntKind.wrap .i64 (sum2 i j - IntKind.wrap .i64 ((1 : Int) * 2 ^ (min k (IntKind.bits .i64))))))) = more o (less o L i j) (sum2 i j) k (pw k) from rfl]
  simp (maxDischargeDepth := 100) +decide only [ok49 o hM, gd_true, rdA_tI hM, wrA_tI hz hM]
  rfl
theorem im80 (o : FO) {L : List (AV o)} (h : tI 21 L = true) {i j k : Nat} (hi : i < 20) (hj : j < 20) (hk : k < 20) (e : m99_0 o (sum2 i j) = ((k : Nat) : Int)) : f80 o ((i : Nat) : Int) ((j : Nat) : Int) L = imR o L i j k := by
  have i1 : i < 21 := by omega
  have i2 : j < 21 := by omega
  have hz : tI 21 (List.replicate 21 (.int .i64 (0 : Int)) : List (AV o)) = true := tI_rep 21 _
  have ci : m55_0 o ((i : Nat) : Int) = true := by rw [cls2]; exact decide_eq_true (by omega)
  have cj : m55_0 o ((j : Nat) : Int) = true := by rw [cls2]; exact decide_eq_true (by omega)
  have hC := tI_less o h i j
  unfold f80
  simp only [ci, cj, cond_true, dlt hi, dlt hj, Bool.and_self, Int.toNat_natCast, Nat.zero_add, Nat.mul_one, gd_true, rdA_tI h, wrA_tI hz h, rdI_t h i1, wrI_t h i1, rdI_t (n := 21) (tI_set h) i2, wrI_t (n := 21) (tI_set h) i2, ge0]
  rw [show ((L.set i (.int .i64 (IntKind.wrap .i64 (lkI L i - (1 : Int))))).set j (.int .i64 (IntKind.wrap .i64 (lkI (L.set i (.int .i64 (IntKind.wrap .i64 (lkI L i - (1 : Int))))) j - (1 : Int)))) : List (AV o)) = less o L i j from rfl]
  have e' : m99_0 o (IntKind.wrap .i64 (IntKind.wrap .i64 ((1 : Int) * 2 ^ (min i (IntKind.bits .i64))) + IntKind.wrap .i64 ((1 : Int) * 2 ^ (min j (IntKind.bits .i64))))) = ((k : Nat) : Int) := e
  clear e
  unfold m99_0 at e'
  unfold imR sum2
  generalize hL : less o L i j = C at hC ⊢
  simp only [rdI_t hC i1, rdI_t hC i2]
  revert e'
  cases decide ((2 : Int) ≤ (IntKind.wrap .i64 (IntKind.wrap .i64 ((1 : Int) * 2 ^ (min i (IntKind.bits .i64))) + IntKind.wrap .i64 ((1 : Int) * 2 ^ (min j (IntKind.bits .i64))))))
  · intro e'
    have hk' : k = 0 := by
      simp only [cond_true, cond_false] at e'
      omega
    subst hk'
    simp only [cond_true, cond_false, rdI_t hC (show 0 < 21 by omega), wrI_t hC (show 0 < 21 by omega), rdI_t (n := 21) (tI_set hC) (show 20 < 21 by omega), wrI_t (n := 21) (tI_set hC) (show 20 < 21 by omega), rdA_tI (n := 21) (tI_set (tI_set hC)), ok51 o (tI_set (tI_set hC)), twin51 o (tI_set (tI_set hC)), wrA_tI h (tI_set (tI_set hC)), gd_true]
    rfl
  · cases decide ((4 : Int) ≤ (IntKind.wrap .i64 (IntKind.wrap .i64 ((1 : Int) * 2 ^ (min i (IntKind.bits .i64))) + IntKind.wrap .i64 ((1 : Int) * 2 ^ (min j (IntKind.bits .i64))))))
    · intro e'
      have hk' : k = 1 := by
        simp only [cond_true, cond_false] at e'
        omega
      subst hk'
      simp only [cond_true, cond_false, rdI_t hC (show 1 < 21 by omega), wrI_t hC (show 1 < 21 by omega), rdI_t (n := 21) (tI_set hC) (show 20 < 21 by omega), wrI_t (n := 21) (tI_set hC) (show 20 < 21 by omega), rdA_tI (n := 21) (tI_set (tI_set hC)), ok51 o (tI_set (tI_set hC)), twin51 o (tI_set (tI_set hC)), wrA_tI h (tI_set (tI_set hC)), gd_true]
      rfl
    · cases decide ((8 : Int) ≤ (IntKind.wrap .i64 (IntKind.wrap .i64 ((1 : Int) * 2 ^ (min i (IntKind.bits .i64))) + IntKind.wrap .i64 ((1 : Int) * 2 ^ (min j (IntKind.bits .i64))))))
      · intro e'
        have hk' : k = 2 := by
          simp only [cond_true, cond_false] at e'
          omega
        subst hk'
        simp only [cond_true, cond_false, rdI_t hC (show 2 < 21 by omega), wrI_t hC (show 2 < 21 by omega), rdI_t (n := 21) (tI_set hC) (show 20 < 21 by omega), wrI_t (n := 21) (tI_set hC) (show 20 < 21 by omega), rdA_tI (n := 21) (tI_set (tI_set hC)), ok51 o (tI_set (tI_set hC)), twin51 o (tI_set (tI_set hC)), wrA_tI h (tI_set (tI_set hC)), gd_true]
        rfl
      · cases decide ((16 : Int) ≤ (IntKind.wrap .i64 (IntKind.wrap .i64 ((1 : Int) * 2 ^ (min i (IntKind.bits .i64))) + IntKind.wrap .i64 ((1 : Int) * 2 ^ (min j (IntKind.bits .i64))))))
        · intro e'
          have hk' : k = 3 := by
            simp only [cond_true, cond_false] at e'
            omega
          subst hk'
          simp only [cond_true, cond_false, rdI_t hC (show 3 < 21 by omega), wrI_t hC (show 3 < 21 by omega), rdI_t (n := 21) (tI_set hC) (show 20 < 21 by omega), wrI_t (n := 21) (tI_set hC) (show 20 < 21 by omega), rdA_tI (n := 21) (tI_set (tI_set hC)), ok51 o (tI_set (tI_set hC)), twin51 o (tI_set (tI_set hC)), wrA_tI h (tI_set (tI_set hC)), gd_true]
          rfl
        · cases decide ((32 : Int) ≤ (IntKind.wrap .i64 (IntKind.wrap .i64 ((1 : Int) * 2 ^ (min i (IntKind.bits .i64))) + IntKind.wrap .i64 ((1 : Int) * 2 ^ (min j (IntKind.bits .i64))))))
          · intro e'
            have hk' : k = 4 := by
              simp only [cond_true, cond_false] at e'
              omega
            subst hk'
            simp only [cond_true, cond_false, rdI_t hC (show 4 < 21 by omega), wrI_t hC (show 4 < 21 by omega), rdI_t (n := 21) (tI_set hC) (show 20 < 21 by omega), wrI_t (n := 21) (tI_set hC) (show 20 < 21 by omega), rdA_tI (n := 21) (tI_set (tI_set hC)), ok51 o (tI_set (tI_set hC)), twin51 o (tI_set (tI_set hC)), wrA_tI h (tI_set (tI_set hC)), gd_true]
            rfl
          · cases decide ((64 : Int) ≤ (IntKind.wrap .i64 (IntKind.wrap .i64 ((1 : Int) * 2 ^ (min i (IntKind.bits .i64))) + IntKind.wrap .i64 ((1 : Int) * 2 ^ (min j (IntKind.bits .i64))))))
            · intro e'
              have hk' : k = 5 := by
                simp only [cond_true, cond_false] at e'
                omega
              subst hk'
              simp only [cond_true, cond_false, rdI_t hC (show 5 < 21 by omega), wrI_t hC (show 5 < 21 by omega), rdI_t (n := 21) (tI_set hC) (show 20 < 21 by omega), wrI_t (n := 21) (tI_set hC) (show 20 < 21 by omega), rdA_tI (n := 21) (tI_set (tI_set hC)), ok51 o (tI_set (tI_set hC)), twin51 o (tI_set (tI_set hC)), wrA_tI h (tI_set (tI_set hC)), gd_true]
              rfl
            · cases decide ((128 : Int) ≤ (IntKind.wrap .i64 (IntKind.wrap .i64 ((1 : Int) * 2 ^ (min i (IntKind.bits .i64))) + IntKind.wrap .i64 ((1 : Int) * 2 ^ (min j (IntKind.bits .i64))))))
              · intro e'
                have hk' : k = 6 := by
                  simp only [cond_true, cond_false] at e'
                  omega
                subst hk'
                simp only [cond_true, cond_false, rdI_t hC (show 6 < 21 by omega), wrI_t hC (show 6 < 21 by omega), rdI_t (n := 21) (tI_set hC) (show 20 < 21 by omega), wrI_t (n := 21) (tI_set hC) (show 20 < 21 by omega), rdA_tI (n := 21) (tI_set (tI_set hC)), ok51 o (tI_set (tI_set hC)), twin51 o (tI_set (tI_set hC)), wrA_tI h (tI_set (tI_set hC)), gd_true]
                rfl
              · cases decide ((256 : Int) ≤ (IntKind.wrap .i64 (IntKind.wrap .i64 ((1 : Int) * 2 ^ (min i (IntKind.bits .i64))) + IntKind.wrap .i64 ((1 : Int) * 2 ^ (min j (IntKind.bits .i64))))))
                · intro e'
                  have hk' : k = 7 := by
                    simp only [cond_true, cond_false] at e'
                    omega
                  subst hk'
                  simp only [cond_true, cond_false, rdI_t hC (show 7 < 21 by omega), wrI_t hC (show 7 < 21 by omega), rdI_t (n := 21) (tI_set hC) (show 20 < 21 by omega), wrI_t (n := 21) (tI_set hC) (show 20 < 21 by omega), rdA_tI (n := 21) (tI_set (tI_set hC)), ok51 o (tI_set (tI_set hC)), twin51 o (tI_set (tI_set hC)), wrA_tI h (tI_set (tI_set hC)), gd_true]
                  rfl
                · cases decide ((512 : Int) ≤ (IntKind.wrap .i64 (IntKind.wrap .i64 ((1 : Int) * 2 ^ (min i (IntKind.bits .i64))) + IntKind.wrap .i64 ((1 : Int) * 2 ^ (min j (IntKind.bits .i64))))))
                  · intro e'
                    have hk' : k = 8 := by
                      simp only [cond_true, cond_false] at e'
                      omega
                    subst hk'
                    simp only [cond_true, cond_false, rdI_t hC (show 8 < 21 by omega), wrI_t hC (show 8 < 21 by omega), rdI_t (n := 21) (tI_set hC) (show 20 < 21 by omega), wrI_t (n := 21) (tI_set hC) (show 20 < 21 by omega), rdA_tI (n := 21) (tI_set (tI_set hC)), ok51 o (tI_set (tI_set hC)), twin51 o (tI_set (tI_set hC)), wrA_tI h (tI_set (tI_set hC)), gd_true]
                    rfl
                  · cases decide ((1024 : Int) ≤ (IntKind.wrap .i64 (IntKind.wrap .i64 ((1 : Int) * 2 ^ (min i (IntKind.bits .i64))) + IntKind.wrap .i64 ((1 : Int) * 2 ^ (min j (IntKind.bits .i64))))))
                    · intro e'
                      have hk' : k = 9 := by
                        simp only [cond_true, cond_false] at e'
                        omega
                      subst hk'
                      simp only [cond_true, cond_false, rdI_t hC (show 9 < 21 by omega), wrI_t hC (show 9 < 21 by omega), rdI_t (n := 21) (tI_set hC) (show 20 < 21 by omega), wrI_t (n := 21) (tI_set hC) (show 20 < 21 by omega), rdA_tI (n := 21) (tI_set (tI_set hC)), ok51 o (tI_set (tI_set hC)), twin51 o (tI_set (tI_set hC)), wrA_tI h (tI_set (tI_set hC)), gd_true]
                      rfl
                    · cases decide ((2048 : Int) ≤ (IntKind.wrap .i64 (IntKind.wrap .i64 ((1 : Int) * 2 ^ (min i (IntKind.bits .i64))) + IntKind.wrap .i64 ((1 : Int) * 2 ^ (min j (IntKind.bits .i64))))))
                      · intro e'
                        have hk' : k = 10 := by
                          simp only [cond_true, cond_false] at e'
                          omega
                        subst hk'
                        simp only [cond_true, cond_false, rdI_t hC (show 10 < 21 by omega), wrI_t hC (show 10 < 21 by omega), rdI_t (n := 21) (tI_set hC) (show 20 < 21 by omega), wrI_t (n := 21) (tI_set hC) (show 20 < 21 by omega), rdA_tI (n := 21) (tI_set (tI_set hC)), ok51 o (tI_set (tI_set hC)), twin51 o (tI_set (tI_set hC)), wrA_tI h (tI_set (tI_set hC)), gd_true]
                        rfl
                      · cases decide ((4096 : Int) ≤ (IntKind.wrap .i64 (IntKind.wrap .i64 ((1 : Int) * 2 ^ (min i (IntKind.bits .i64))) + IntKind.wrap .i64 ((1 : Int) * 2 ^ (min j (IntKind.bits .i64))))))
                        · intro e'
                          have hk' : k = 11 := by
                            simp only [cond_true, cond_false] at e'
                            omega
                          subst hk'
                          simp only [cond_true, cond_false, rdI_t hC (show 11 < 21 by omega), wrI_t hC (show 11 < 21 by omega), rdI_t (n := 21) (tI_set hC) (show 20 < 21 by omega), wrI_t (n := 21) (tI_set hC) (show 20 < 21 by omega), rdA_tI (n := 21) (tI_set (tI_set hC)), ok51 o (tI_set (tI_set hC)), twin51 o (tI_set (tI_set hC)), wrA_tI h (tI_set (tI_set hC)), gd_true]
                          rfl
                        · cases decide ((8192 : Int) ≤ (IntKind.wrap .i64 (IntKind.wrap .i64 ((1 : Int) * 2 ^ (min i (IntKind.bits .i64))) + IntKind.wrap .i64 ((1 : Int) * 2 ^ (min j (IntKind.bits .i64))))))
                          · intro e'
                            have hk' : k = 12 := by
                              simp only [cond_true, cond_false] at e'
                              omega
                            subst hk'
                            simp only [cond_true, cond_false, rdI_t hC (show 12 < 21 by omega), wrI_t hC (show 12 < 21 by omega), rdI_t (n := 21) (tI_set hC) (show 20 < 21 by omega), wrI_t (n := 21) (tI_set hC) (show 20 < 21 by omega), rdA_tI (n := 21) (tI_set (tI_set hC)), ok51 o (tI_set (tI_set hC)), twin51 o (tI_set (tI_set hC)), wrA_tI h (tI_set (tI_set hC)), gd_true]
                            rfl
                          · cases decide ((16384 : Int) ≤ (IntKind.wrap .i64 (IntKind.wrap .i64 ((1 : Int) * 2 ^ (min i (IntKind.bits .i64))) + IntKind.wrap .i64 ((1 : Int) * 2 ^ (min j (IntKind.bits .i64))))))
                            · intro e'
                              have hk' : k = 13 := by
                                simp only [cond_true, cond_false] at e'
                                omega
                              subst hk'
                              simp only [cond_true, cond_false, rdI_t hC (show 13 < 21 by omega), wrI_t hC (show 13 < 21 by omega), rdI_t (n := 21) (tI_set hC) (show 20 < 21 by omega), wrI_t (n := 21) (tI_set hC) (show 20 < 21 by omega), rdA_tI (n := 21) (tI_set (tI_set hC)), ok51 o (tI_set (tI_set hC)), twin51 o (tI_set (tI_set hC)), wrA_tI h (tI_set (tI_set hC)), gd_true]
                              rfl
                            · cases decide ((32768 : Int) ≤ (IntKind.wrap .i64 (IntKind.wrap .i64 ((1 : Int) * 2 ^ (min i (IntKind.bits .i64))) + IntKind.wrap .i64 ((1 : Int) * 2 ^ (min j (IntKind.bits .i64))))))
                              · intro e'
                                have hk' : k = 14 := by
                                  simp only [cond_true, cond_false] at e'
                                  omega
                                subst hk'
                                simp only [cond_true, cond_false, rdI_t hC (show 14 < 21 by omega), wrI_t hC (show 14 < 21 by omega), rdI_t (n := 21) (tI_set hC) (show 20 < 21 by omega), wrI_t (n := 21) (tI_set hC) (show 20 < 21 by omega), rdA_tI (n := 21) (tI_set (tI_set hC)), ok51 o (tI_set (tI_set hC)), twin51 o (tI_set (tI_set hC)), wrA_tI h (tI_set (tI_set hC)), gd_true]
                                rfl
                              · cases decide ((65536 : Int) ≤ (IntKind.wrap .i64 (IntKind.wrap .i64 ((1 : Int) * 2 ^ (min i (IntKind.bits .i64))) + IntKind.wrap .i64 ((1 : Int) * 2 ^ (min j (IntKind.bits .i64))))))
                                · intro e'
                                  have hk' : k = 15 := by
                                    simp only [cond_true, cond_false] at e'
                                    omega
                                  subst hk'
                                  simp only [cond_true, cond_false, rdI_t hC (show 15 < 21 by omega), wrI_t hC (show 15 < 21 by omega), rdI_t (n := 21) (tI_set hC) (show 20 < 21 by omega), wrI_t (n := 21) (tI_set hC) (show 20 < 21 by omega), rdA_tI (n := 21) (tI_set (tI_set hC)), ok51 o (tI_set (tI_set hC)), twin51 o (tI_set (tI_set hC)), wrA_tI h (tI_set (tI_set hC)), gd_true]
                                  rfl
                                · cases decide ((131072 : Int) ≤ (IntKind.wrap .i64 (IntKind.wrap .i64 ((1 : Int) * 2 ^ (min i (IntKind.bits .i64))) + IntKind.wrap .i64 ((1 : Int) * 2 ^ (min j (IntKind.bits .i64))))))
                                  · intro e'
                                    have hk' : k = 16 := by
                                      simp only [cond_true, cond_false] at e'
                                      omega
                                    subst hk'
                                    simp only [cond_true, cond_false, rdI_t hC (show 16 < 21 by omega), wrI_t hC (show 16 < 21 by omega), rdI_t (n := 21) (tI_set hC) (show 20 < 21 by omega), wrI_t (n := 21) (tI_set hC) (show 20 < 21 by omega), rdA_tI (n := 21) (tI_set (tI_set hC)), ok51 o (tI_set (tI_set hC)), twin51 o (tI_set (tI_set hC)), wrA_tI h (tI_set (tI_set hC)), gd_true]
                                    rfl
                                  · cases decide ((262144 : Int) ≤ (IntKind.wrap .i64 (IntKind.wrap .i64 ((1 : Int) * 2 ^ (min i (IntKind.bits .i64))) + IntKind.wrap .i64 ((1 : Int) * 2 ^ (min j (IntKind.bits .i64))))))
                                    · intro e'
                                      have hk' : k = 17 := by
                                        simp only [cond_true, cond_false] at e'
                                        omega
                                      subst hk'
                                      simp only [cond_true, cond_false, rdI_t hC (show 17 < 21 by omega), wrI_t hC (show 17 < 21 by omega), rdI_t (n := 21) (tI_set hC) (show 20 < 21 by omega), wrI_t (n := 21) (tI_set hC) (show 20 < 21 by omega), rdA_tI (n := 21) (tI_set (tI_set hC)), ok51 o (tI_set (tI_set hC)), twin51 o (tI_set (tI_set hC)), wrA_tI h (tI_set (tI_set hC)), gd_true]
                                      rfl
                                    · cases decide ((524288 : Int) ≤ (IntKind.wrap .i64 (IntKind.wrap .i64 ((1 : Int) * 2 ^ (min i (IntKind.bits .i64))) + IntKind.wrap .i64 ((1 : Int) * 2 ^ (min j (IntKind.bits .i64))))))
                                      · intro e'
                                        have hk' : k = 18 := by
                                          simp only [cond_true, cond_false] at e'
                                          omega
                                        subst hk'
                                        simp only [cond_true, cond_false, rdI_t hC (show 18 < 21 by omega), wrI_t hC (show 18 < 21 by omega), rdI_t (n := 21) (tI_set hC) (show 20 < 21 by omega), wrI_t (n := 21) (tI_set hC) (show 20 < 21 by omega), rdA_tI (n := 21) (tI_set (tI_set hC)), ok51 o (tI_set (tI_set hC)), twin51 o (tI_set (tI_set hC)), wrA_tI h (tI_set (tI_set hC)), gd_true]
                                        rfl
                                      · intro e'
                                        have hk' : k = 19 := by
                                          simp only [cond_true, cond_false] at e'
                                          omega
                                        subst hk'
                                        simp only [cond_true, cond_false, rdI_t hC (show 19 < 21 by omega), wrI_t hC (show 19 < 21 by omega), rdI_t (n := 21) (tI_set hC) (show 20 < 21 by omega), wrI_t (n := 21) (tI_set hC) (show 20 < 21 by omega), rdA_tI (n := 21) (tI_set (tI_set hC)), ok51 o (tI_set (tI_set hC)), twin51 o (tI_set (tI_set hC)), wrA_tI h (tI_set (tI_set hC)), gd_true]
                                        rfl
theorem pairB (o : FO) {L : List (AV o)} (h : tI 21 L = true) (p q : Int) : ∃ (M : List (AV o)) (c : Int) (N : List (AV o)) (H : Heap o), f79 o L p q = some (.tup [.agg M, .int .i64 c], H) ∧ f80 o p q L = some (.int .i64 c, [.live true true N]) ∧ tI 21 M = true ∧ tI 21 N = true ∧ (c = 0 → N = M) ∧ (c ≠ 0 → M = (List.replicate 21 (.int .i64 (0 : Int)) : List (AV o))) := by
  have hz : tI 21 (List.replicate 21 (.int .i64 (0 : Int)) : List (AV o)) = true := tI_rep 21 _
  by_cases hp : 0 ≤ p ∧ p ≤ 19
  · by_cases hq : 0 ≤ q ∧ q ≤ 19
    · obtain ⟨i, rfl⟩ : ∃ i : Nat, p = ((i : Nat) : Int) := ⟨p.toNat, by omega⟩
      obtain ⟨j, rfl⟩ : ∃ j : Nat, q = ((j : Nat) : Int) := ⟨q.toNat, by omega⟩
      obtain ⟨k, hk, e⟩ := whole o (sum2 i j)
      rw [sp79 o h (by omega) (by omega) hk e, im80 o h (by omega) (by omega) hk e]
      unfold spR imR
      have hC := tI_less o h i j
      have hM := tI_more o hC (sum2 i j) k (pw k)
      cases decide (lkI (less o L i j) i < (0 : Int))
      · cases decide (lkI (less o L i j) j < (0 : Int))
        · cases m49_0 o (more o (less o L i j) (sum2 i j) k (pw k))
          · exact ⟨_, _, _, _, rfl, rfl, hz, h, (fun h => by cases h), fun _ => rfl⟩
          · exact ⟨_, _, _, _, rfl, rfl, hM, hM, fun _ => rfl, fun h => absurd rfl h⟩
        · exact ⟨_, _, _, _, rfl, rfl, hz, h, (fun h => by cases h), fun _ => rfl⟩
      · exact ⟨_, _, _, _, rfl, rfl, hz, h, (fun h => by cases h), fun _ => rfl⟩
    · have e1 : m53_0 o q = false := by rw [cls]; exact decide_eq_false hq
      have e2 : m55_0 o q = false := by rw [cls2]; exact decide_eq_false hq
      have e3 : m53_0 o p = true := by rw [cls]; exact decide_eq_true hp
      have e4 : m55_0 o p = true := by rw [cls2]; exact decide_eq_true hp
      unfold f79 f80
      rw [e1, e2, e3, e4, cond_true, cond_false, cond_true, cond_false, wrA_tI hz hz, rdA_tI hz]
      exact ⟨_, _, _, _, rfl, rfl, hz, h, (fun h => by cases h), fun _ => rfl⟩
  · have e3 : m53_0 o p = false := by rw [cls]; exact decide_eq_false hp
    have e4 : m55_0 o p = false := by rw [cls2]; exact decide_eq_false hp
    unfold f79 f80
    rw [e3, e4, cond_false, cond_false, wrA_tI hz hz, rdA_tI hz]
    exact ⟨_, _, _, _, rfl, rfl, hz, h, (fun h => by cases h), fun _ => rfl⟩
theorem main (o : FO) {L : List (AV o)} (h : tI 21 L = true) (p q : Int) : okI 21 (f37 o L p q) = true ∧ f39 o L p q = f37 o L p q := by
  have hz : tI 21 (List.replicate 21 (.int .i64 (0 : Int)) : List (AV o)) = true := tI_rep 21 _
  obtain ⟨M, c, N, H, e1, e2, hM, hN, h0, h1⟩ := pairB o h p q
  unfold f37 f39
  simp only [ok49 o h, ok51 o h, twin51 o h, rdA_tI h, wrA_tI hz hz, rdA_tI hz, gd_true, m79_ok, k79, m79_0, g79_0, m79_1, g79_1, m80_ok, k80, m80_0, g80_0, m80_1, g80_1, e1, e2, wrA_tI hz hM, rdA_tI hM, rdA_tI hN, wrA_tI hz hN]
  cases m49_0 o L
  · simp only [Bool.not_false, cond_true, and_true]
    exact hz
  · simp only [Bool.not_true, cond_false]
    cases hc : (c != 0)
    · have hc0 : c = 0 := by simpa using hc
      subst hc0
      rw [h0 rfl]
      simp only [cond_false, and_true]
      exact hM
    · have hc0 : c ≠ 0 := by simpa using hc
      rw [h1 hc0]
      simp only [cond_true, and_true]
      exact hz
theorem boxLit (o : FO) (z0 z1 z2 z3 z4 z5 z6 z7 z8 z9 z10 z11 z12 z13 z14 z15 z16 z17 z18 z19 z20 : Int) : f15 o [.int .i64 z0, .int .i64 z1, .int .i64 z2, .int .i64 z3, .int .i64 z4, .int .i64 z5, .int .i64 z6, .int .i64 z7, .int .i64 z8, .int .i64 z9, .int .i64 z10, .int .i64 z11, .int .i64 z12, .int .i64 z13, .int .i64 z14, .int .i64 z15, .int .i64 z16, .int .i64 z17, .int .i64 z18, .int .i64 z19, .int .i64 z20] = some (.agg [.int .i64 z0, .int .i64 z1, .int .i64 z2, .int .i64 z3, .int .i64 z4, .int .i64 z5, .int .i64 z6, .int .i64 z7, .int .i64 z8, .int .i64 z9, .int .i64 z10, .int .i64 z11, .int .i64 z12, .int .i64 z13, .int .i64 z14, .int .i64 z15, .int .i64 z16, .int .i64 z17, .int .i64 z18, .int .i64 z19, .int .i64 z20], []) := by kernel_rfl
theorem box15 (o : FO) {L : List (AV o)} (h : tI 21 L = true) : f15 o L = some (.agg L, []) := by
  obtain ⟨zs, hz, rfl⟩ := tI_map h
  obtain ⟨z0, z1, z2, z3, z4, z5, z6, z7, z8, z9, z10, z11, z12, z13, z14, z15, z16, z17, z18, z19, z20, rfl⟩ := len21 hz
  exact boxLit o z0 z1 z2 z3 z4 z5 z6 z7 z8 z9 z10 z11 z12 z13 z14 z15 z16 z17 z18 z19 z20
theorem boxOk (o : FO) {L : List (AV o)} (h : tI 21 L = true) : m15_ok o L = true := by
  unfold m15_ok
  rw [box15 o h]
  rfl
theorem box0 (o : FO) {L : List (AV o)} (h : tI 21 L = true) : m15_0 o L = L := by
  unfold m15_0
  rw [box15 o h]
  rfl
theorem eqc (o : FO) {L : List (AV o)} (h : tI 20 L = true) : f52 o L L = some (.bool true, []) := by
  unfold f52
  simp (maxDischargeDepth := 100) +decide only [rdI_t h, bne_self_eq_false, cond_false]
theorem eqb (o : FO) {L : List (AV o)} (h : tI 21 L = true) : f17 o L L = some (.bool true, []) := by
  unfold f17 m52_ok m52_0
  have h2 := eqc o (tI_sub h (show 0 + 20 ≤ 21 by decide))
  simp (maxDischargeDepth := 100) +decide only [rdA_sI h, rdI_t h, h2, k52, g52_0, gd_true, bne_self_eq_false, Bool.not_true, cond_false, cond_true]
theorem eqbOk (o : FO) {L : List (AV o)} (h : tI 21 L = true) : m17_ok o L L = true := by
  unfold m17_ok
  rw [eqb o h]
  rfl
theorem eqb0 (o : FO) {L : List (AV o)} (h : tI 21 L = true) : m17_0 o L L = true := by
  unfold m17_0
  rw [eqb o h]
  rfl
theorem law_true (L : List A) (p q : Int) (hc : L2 CK.is (List.replicate 21 (.int .i64)) L) (_ : IntKind.i64.has p) (_ : IntKind.i64.has q) : f11 ieee L p q = some (.bool true, []) := by
  have h := tI_of hc
  have hm := main ieee h p q
  obtain ⟨M, c, e, hM⟩ := okI_get hm.1
  have e2 := hm.2.trans e
  have hz : tI 21 (List.replicate 21 (.int .i64 (0 : Int)) : List A) = true := tI_rep 21 _
  unfold f11
  simp only [rdA_tI h, wrA_tI hz hM, rdA_tI hM, boxOk ieee h, box0 ieee h, gd_true, m37_ok, k37, m37_0, g37_0, m37_1, g37_1, m39_ok, k39, m39_0, g39_0, m39_1, g39_1, e, e2, eqbOk ieee hM, eqb0 ieee hM, bne_self_eq_false, cond_false, cond_true]

theorem own : ownKnob Try.prog.godebug = none := by kernel_rfl
theorem laidOut : laidOutB Try.prog = true := by kernel_rfl
set_option maxRecDepth 100000 in
theorem lifted (os : Os) (started : os.Started) (H : Type) (enc : TypeId × Value → H) :
    ReturnsInHanded {} Try.checked os 11 .any (Rows.fnExactCollidePairSpec.pre6 enc Try.prog Try.f11 Rows.fnExactCollidePairRow.domain false) (Rows.fnExactCollidePairSpec.post enc Try.prog Try.f11 false true false false) := by
  refine returnsInHanded_of_change (C := Try.checked) own started (by kernel_rfl) Try.func11
    (ChangeSpec.witness6 (enc := enc) (C := Try.checked) false ⟨#[], #[.agg (Array.replicate 21 (.int .i64 0)), .agg #[.int .i64 0, .int .i64 0]], []⟩ 8 (by kernel_rfl) (by kernel_rfl) (by kernel_rfl) (by kernel_rfl)) ?_
  intro W base args ds gs before hval0 hW hcnd _
  have hval : ∀ (j : Nat) t v, Try.f11.params[j]? = some t → args[j]? = some v → Value.okWide Try.prog W .any base t v := hval0
  have hW' := hW
  obtain ⟨p, q, hA0, hV, rfl, hfz, hnd⟩ := hW
  have hA : DataW.TrodAll enc Try.prog W 0 (fun _ => true) true Try.f11.params.toList args.toList ds p := hA0
  have hA1 := hA
  rw [Try.params11] at hA hval
  obtain ⟨v0, vs0, d0, ds0, p0, q0, hargs, rfl, rfl, h0, r0'⟩ := trodAll_cons hA
  obtain ⟨v1, vs1, d1, ds1, p1, q1, rfl, rfl, rfl, h1, r1'⟩ := trodAll_cons r0'
  obtain ⟨rfl, rfl, rfl⟩ := trodAll_nil r1'
  obtain rfl : args = #[v0, v1] := by cases args; simp_all
  obtain ⟨rfl, rfl⟩ := trodVars_none hV
  obtain ⟨cs0, hl0, r0⟩ := okW_agg (List.replicate 21 (.int .i64)) (by kernel_rfl) (by kernel_rfl) (by kernel_rfl) (hval 0 24 v0 rfl rfl)
  obtain ⟨cs1, hl1, r1⟩ := okW_agg ([.int .i64, .int .i64]) (by kernel_rfl) (by kernel_rfl) (by kernel_rfl) (hval 1 58 v1 rfl rfl)
  obtain ⟨_, cs1_0, rfl, ⟨x1_0, rfl, hx1_0⟩, hl1_0⟩ := ck_cons hl1
  obtain ⟨_, cs1_1, rfl, ⟨x1_1, rfl, hx1_1⟩, hl1_1⟩ := ck_cons hl1_0
  obtain rfl := ck_nil hl1_1
  clear hA0 hval0
  have hx := (eq11 ieee 4096 cs0 x1_0 x1_1).trans (law_true cs0 x1_0 x1_1 hl0 hx1_0 hx1_1)
  refine (law_calls0 (cok11 4096 (Nat.le_refl _)) (is11 4096) hx (L2.cons (r0 _) (L2.cons (r1 _) (L2.nil _)))).mono fun e W' ⟨he, bel⟩ => ?_
  subst he
  exact ⟨_, rfl, _, _, _, [], _, [], hW', trodAll_mk1 (shut_bool (by kernel_rfl) _), trodAll_stays laidOut bel (by kernel_rfl) hA1, rfl, bel.frame _, fun h => by cases h⟩

/-- The statement. -/
theorem proved : Rows.FnExactCollidePairSaid :=
  OpenClaim.holds_of_wide 11 Try.f11 rfl rfl rfl rfl rfl rfl rfl ⟨rfl, rfl, rfl, rfl, rfl⟩ rfl rfl rfl rfl rfl (by kernel_rfl) Try.func11 (by kernel_rfl)
    (of_decide_eq_true (by kernel_rfl)) (by unfold Func.isWrapper; first | (rw [if_pos (by decide +kernel)]; kernel_rfl) | (rw [if_neg (by decide +kernel)]; exact ⟨rfl, rfl⟩))
    (fun os started H enc _ => lifted os started H enc)
end Go.Proofs.Ytbmakfcooonogaa.fnExactCollidePair
