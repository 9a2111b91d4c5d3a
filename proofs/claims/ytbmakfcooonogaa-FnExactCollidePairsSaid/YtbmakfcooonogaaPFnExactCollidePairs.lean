/- FnExactCollidePairs returns true for all arguments. Conditions: none. -/
import Derived.Test.YtbmakfcooonogaaRows
import Derived.Test.YtbmakfcooonogaaG1
set_option linter.unusedVariables false
set_option linter.unusedSimpArgs false
set_option maxRecDepth 100000
namespace Go.Proofs.Ytbmakfcooonogaa.fnExactCollidePairs
open Go.Ab Go.RowKit Go.ChangeShapes Go.WideShapes Go.ChangeAt
theorem ok49 (o : FO) {L : List (AV o)} (h : tI 21 L = true) : m49_ok o L = true := by
  unfold m49_ok f49
  simp (maxDischargeDepth := 100) +decide only [rdI_t h, rdA_sI h, Nat.reduceAdd, Nat.reduceLeDiff, tI_sub h, rdI_t (tI_sub h (show 0 + 20 ≤ 21 by decide)), k49_c]
  simp only [k49, cond_same]
theorem ok51 (o : FO) {L : List (AV o)} (h : tI 21 L = true) : m51_ok o L = true := by
  unfold m51_ok f51
  simp (maxDischargeDepth := 100) +decide only [rdI_t h, rdA_sI h, Nat.reduceAdd, Nat.reduceLeDiff, tI_sub h, rdI_t (tI_sub h (show 0 + 20 ≤ 21 by decide)), k51_c]
  simp only [k51, cond_same]
theorem twin51 (o : FO) {L : List (AV o)} (h : tI 21 L = true) : m51_0 o L = m49_0 o L := by
  unfold m51_0 m49_0 f51 f49
  simp (maxDischargeDepth := 100) +decide only [rdI_t h, rdA_sI h, Nat.reduceAdd, Nat.reduceLeDiff, tI_sub h, rdI_t (tI_sub h (show 0 + 20 ≤ 21 by decide)), lkI_sub, g49_0c, g51_0c]
  rfl
theorem within82 (o : FO) (p a b : Int) : m82_0 o p a b = decide (a ≤ p ∧ p ≤ b) := by
  unfold m82_0
  by_cases h : p ≥ a
  · simp [h]
  · simp [h]
theorem cls (o : FO) (p : Int) : m53_0 o p = decide (0 ≤ p ∧ p ≤ 19) := within82 o p 0 19
theorem cls2 (o : FO) (p : Int) : m55_0 o p = decide (0 ≤ p ∧ p ≤ 19) := within82 o p 0 19
theorem idx1 {j : Nat} (h : j < 20) : (decide (0 ≤ ((j : Nat) : Int)) && decide (((j : Nat) : Int) < ((20 : Nat) : Int))) = true := by simp; omega
theorem wu {i : Nat} (h : i < 20) : IntKind.wrap .u64 ((i : Nat) : Int) = ((i : Nat) : Int) := (by decide : ∀ k : Fin 20, IntKind.wrap .u64 ((k.1 : Nat) : Int) = ((k.1 : Nat) : Int)) ⟨i, h⟩
theorem ge0 (i : Nat) : decide (0 ≤ ((i : Nat) : Int)) = true := decide_eq_true (by omega)
theorem whole (o : FO) (v : Int) : ∃ k : Nat, k < 20 ∧ m99_0 o v = ((k : Nat) : Int) := by
  unfold m99_0
  cases decide ((2 : Int) ≤ v)
  · exact ⟨0, by omega, rfl⟩
  · cases decide ((4 : Int) ≤ v)
    · exact ⟨1, by omega, rfl⟩
    · cases decide ((8 : Int) ≤ v)
      · exact ⟨2, by omega, rfl⟩
      · cases decide ((16 : Int) ≤ v)
        · exact ⟨3, by omega, rfl⟩
        · cases decide ((32 : Int) ≤ v)
          · exact ⟨4, by omega, rfl⟩
          · cases decide ((64 : Int) ≤ v)
            · exact ⟨5, by omega, rfl⟩
            · cases decide ((128 : Int) ≤ v)
              · exact ⟨6, by omega, rfl⟩
              · cases decide ((256 : Int) ≤ v)
                · exact ⟨7, by omega, rfl⟩
                · cases decide ((512 : Int) ≤ v)
                  · exact ⟨8, by omega, rfl⟩
                  · cases decide ((1024 : Int) ≤ v)
                    · exact ⟨9, by omega, rfl⟩
                    · cases decide ((2048 : Int) ≤ v)
                      · exact ⟨10, by omega, rfl⟩
                      · cases decide ((4096 : Int) ≤ v)
                        · exact ⟨11, by omega, rfl⟩
                        · cases decide ((8192 : Int) ≤ v)
                          · exact ⟨12, by omega, rfl⟩
                          · cases decide ((16384 : Int) ≤ v)
                            · exact ⟨13, by omega, rfl⟩
                            · cases decide ((32768 : Int) ≤ v)
                              · exact ⟨14, by omega, rfl⟩
                              · cases decide ((65536 : Int) ≤ v)
                                · exact ⟨15, by omega, rfl⟩
                                · cases decide ((131072 : Int) ≤ v)
                                  · exact ⟨16, by omega, rfl⟩
                                  · cases decide ((262144 : Int) ≤ v)
                                    · exact ⟨17, by omega, rfl⟩
                                    · cases decide ((524288 : Int) ≤ v)
                                      · exact ⟨18, by omega, rfl⟩
                                      · exact ⟨19, by omega, rfl⟩
noncomputable def less (o : FO) (L : List (AV o)) (i j : Nat) : List (AV o) := (L.set i (.int .i64 (IntKind.wrap .i64 (lkI L i - (1 : Int))))).set j (.int .i64 (IntKind.wrap .i64 (lkI (L.set i (.int .i64 (IntKind.wrap .i64 (lkI L i - (1 : Int))))) j - (1 : Int))))
theorem tI_less (o : FO) {L : List (AV o)} (h : tI 21 L = true) (i j : Nat) : tI 21 (less o L i j) = true := tI_set (tI_set h)
def sum2 (i j : Nat) : Int := IntKind.wrap .i64 (IntKind.wrap .i64 ((1 : Int) * 2 ^ (min i (IntKind.bits .i64))) + IntKind.wrap .i64 ((1 : Int) * 2 ^ (min j (IntKind.bits .i64))))
noncomputable def more (o : FO) (C : List (AV o)) (v : Int) (k : Nat) (w : Int) : List (AV o) := (C.set k (.int .i64 (IntKind.wrap .i64 (lkI C k + (1 : Int))))).set 20 (.int .i64 (IntKind.wrap .i64 (lkI (C.set k (.int .i64 (IntKind.wrap .i64 (lkI C k + (1 : Int))))) 20 + IntKind.wrap .i64 (v - w))))
theorem tI_more (o : FO) {C : List (AV o)} (h : tI 21 C = true) (v : Int) (k : Nat) (w : Int) : tI 21 (more o C v k w) = true := tI_set (tI_set h)
def pw (k : Nat) : Int := IntKind.wrap .i64 ((1 : Int) * 2 ^ (min k (IntKind.bits .i64)))
noncomputable def spR (o : FO) (L K : List (AV o)) (i j k : Nat) : R o :=
  bif decide (lkI (less o L i j) i < (0 : Int)) then some (.tup [.agg (List.replicate 21 (.int .i64 (0 : Int)) : List (AV o)), .int .i64 (6 : Int)], [.live false true K])
  else bif decide (lkI (less o L i j) j < (0 : Int)) then some (.tup [.agg (List.replicate 21 (.int .i64 (0 : Int)) : List (AV o)), .int .i64 (6 : Int)], [.live false true K])
  else bif !(m49_0 o (more o (less o L i j) (sum2 i j) k (pw k))) then some (.tup [.agg (List.replicate 21 (.int .i64 (0 : Int)) : List (AV o)), .int .i64 (3 : Int)], [.live false true K])
  else some (.tup [.agg (more o (less o L i j) (sum2 i j) k (pw k)), .int .i64 (0 : Int)], [.live false true K])
noncomputable def imR (o : FO) (L : List (AV o)) (i j k : Nat) : R o :=
  bif decide (lkI (less o L i j) i < (0 : Int)) then some (.int .i64 (6 : Int), [.live true true L])
  else bif decide (lkI (less o L i j) j < (0 : Int)) then some (.int .i64 (6 : Int), [.live true true L])
  else bif !(m49_0 o (more o (less o L i j) (sum2 i j) k (pw k))) then some (.int .i64 (3 : Int), [.live true true L])
  else some (.int .i64 (0 : Int), [.live true true (more o (less o L i j) (sum2 i j) k (pw k))])
theorem sp79 (o : FO) {L : List (AV o)} (h : tI 21 L = true) {K : List (AV o)} {m off : Nat} (hK : tI m K = true) (ho : off + 1 < m) {i j k : Nat} (ei : lkI K off = ((i : Nat) : Int)) (ej : lkI K (off + 1) = ((j : Nat) : Int)) (hi : i < 20) (hj : j < 20) (hk : k < 20) (e : m99_0 o (sum2 i j) = ((k : Nat) : Int)) : f79 o L off K = spR o L K i j k := by
  have i1 : i < 21 := by omega
  have i2 : j < 21 := by omega
  have i3 : k < 21 := by omega
  have hz : tI 21 (List.replicate 21 (.int .i64 (0 : Int)) : List (AV o)) = true := tI_rep 21 _
  have ci : m53_0 o ((i : Nat) : Int) = true := by rw [cls]; exact decide_eq_true (by omega)
  have cj : m53_0 o ((j : Nat) : Int) = true := by rw [cls]; exact decide_eq_true (by omega)
  have hC := tI_less o h i j
  have hM := tI_more o hC (sum2 i j) k (pw k)
  unfold f79
  simp (maxDischargeDepth := 100) +decide only [rdI_t hK (show off < m by omega), rdI_t hK ho, Nat.add_zero, ei, ej, ci, cj, cond_true, dlt hi, dlt hj, Bool.and_self, Int.toNat_natCast, Nat.zero_add, Nat.mul_one, gd_true, rdI_t h i1, wrI_t h i1, rdI_t (n := 21) (tI_set h) i2, wrI_t (n := 21) (tI_set h) i2, wrA_tI hz hz, rdA_tI hz, wu hi, wu hj, ge0]
  rw [show ((L.set i (.int .i64 (IntKind.wrap .i64 (lkI L i - (1 : Int))))).set j (.int .i64 (IntKind.wrap .i64 (lkI (L.set i (.int .i64 (IntKind.wrap .i64 (lkI L i - (1 : Int))))) j - (1 : Int)))) : List (AV o)) = less o L i j from rfl]
  rw [show IntKind.wrap .i64 (IntKind.wrap .i64 ((1 : Int) * 2 ^ (min i (IntKind.bits .i64))) + IntKind.wrap .i64 ((1 : Int) * 2 ^ (min j (IntKind.bits .i64)))) = sum2 i j from rfl]
  simp (maxDischargeDepth := 100) +decide only [rdI_t hK (show off < m by omega), rdI_t hK ho, Nat.add_zero, ei, ej, e, dlt hk, dlt hi, dlt hj, Bool.and_self, Int.toNat_natCast, Nat.zero_add, Nat.mul_one, gd_true, rdI_t hC i1, rdI_t hC i2, rdI_t hC i3, wrI_t hC i3, rdI_t (n := 21) (tI_set hC) (show 20 < 21 by omega), wrI_t (n := 21) (tI_set hC) (show 20 < 21 by omega), wu hk, ge0]
  rw [show ((less o L i j).set k (.int .i64 (IntKind.wrap .i64 (lkI (less o L i j) k + (1 : Int))))).set 20 (.int .i64 (IntKind.wrap .i64 (lkI ((less o L i j).set k (.int .i64 (IntKind.wrap .i64 (lkI (less o L i j) k + (1 : Int))))) 20 + IntKind.wrap .i64 (sum2 i j - IntKind.wrap .i64 ((1 : Int) * 2 ^ (min k (IntKind.bits .i64))))))) = more o (less o L i j) (sum2 i j) k (pw k) from rfl]
  simp (maxDischargeDepth := 100) +decide only [ok49 o hM, gd_true, rdA_tI hM, wrA_tI hz hM]
  rfl
theorem im80 (o : FO) {L : List (AV o)} (h : tI 21 L = true) {i j k : Nat} (hi : i < 20) (hj : j < 20) (hk : k < 20) (e : m99_0 o (sum2 i j) = ((k : Nat) : Int)) : f80 o ((i : Nat) : Int) ((j : Nat) : Int) L = imR o L i j k := by
  have i1 : i < 21 := by omega
  have i2 : j < 21 := by omega
  have hz : tI 21 (List.replicate 21 (.int .i64 (0 : Int)) : List (AV o)) = true := tI_rep 21 _
  have ci : m55_0 o ((i : Nat) : Int) = true := by rw [cls2]; exact decide_eq_true (by omega)
  have cj : m55_0 o ((j : Nat) : Int) = true := by rw [cls2]; exact decide_eq_true (by omega)
  have hC := tI_less o h i j
  unfold f80
  simp only [ci, cj, cond_true, dlt hi, dlt hj, Bool.and_self, Int.toNat_natCast, Nat.zero_add, Nat.mul_one, gd_true, rdA_tI h, wrA_tI hz h, rdI_t h i1, wrI_t h i1, rdI_t (n := 21) (tI_set h) i2, wrI_t (n := 21) (tI_set h) i2, ge0]
  rw [show ((L.set i (.int .i64 (IntKind.wrap .i64 (lkI L i - (1 : Int))))).set j (.int .i64 (IntKind.wrap .i64 (lkI (L.set i (.int .i64 (IntKind.wrap .i64 (lkI L i - (1 : Int))))) j - (1 : Int)))) : List (AV o)) = less o L i j from rfl]
  have e' : m99_0 o (IntKind.wrap .i64 (IntKind.wrap .i64 ((1 : Int) * 2 ^ (min i (IntKind.bits .i64))) + IntKind.wrap .i64 ((1 : Int) * 2 ^ (min j (IntKind.bits .i64))))) = ((k : Nat) : Int) := e
  clear e
  unfold m99_0 at e'
  unfold imR sum2
  generalize hL : less o L i j = C at hC ⊢
  simp only [rdI_t hC i1, rdI_t hC i2]
  revert e'
  cases decide ((2 : Int) ≤ (IntKind.wrap .i64 (IntKind.wrap .i64 ((1 : Int) * 2 ^ (min i (IntKind.bits .i64))) + IntKind.wrap .i64 ((1 : Int) * 2 ^ (min j (IntKind.bits .i64))))))
  · intro e'
    have hk' : k = 0 := by
      simp only [cond_true, cond_false] at e'
      omega
    subst hk'
    simp only [cond_true, cond_false, rdI_t hC (show 0 < 21 by omega), wrI_t hC (show 0 < 21 by omega), rdI_t (n := 21) (tI_set hC) (show 20 < 21 by omega), wrI_t (n := 21) (tI_set hC) (show 20 < 21 by omega), rdA_tI (n := 21) (tI_set (tI_set hC)), ok51 o (tI_set (tI_set hC)), twin51 o (tI_set (tI_set hC)), wrA_tI h (tI_set (tI_set hC)), gd_true]
    rfl
  · cases decide ((4 : Int) ≤ (IntKind.wrap .i64 (IntKind.wrap .i64 ((1 : Int) * 2 ^ (min i (IntKind.bits .i64))) + IntKind.wrap .i64 ((1 : Int) * 2 ^ (min j (IntKind.bits .i64))))))
    · intro e'
      have hk' : k = 1 := by
        simp only [cond_true, cond_false] at e'
        omega
      subst hk'
      simp only [cond_true, cond_false, rdI_t hC (show 1 < 21 by omega), wrI_t hC (show 1 < 21 by omega), rdI_t (n := 21) (tI_set hC) (show 20 < 21 by omega), wrI_t (n := 21) (tI_set hC) (show 20 < 21 by omega), rdA_tI (n := 21) (tI_set (tI_set hC)), ok51 o (tI_set (tI_set hC)), twin51 o (tI_set (tI_set hC)), wrA_tI h (tI_set (tI_set hC)), gd_true]
      rfl
    · cases decide ((8 : Int) ≤ (IntKind.wrap .i64 (IntKind.wrap .i64 ((1 : Int) * 2 ^ (min i (IntKind.bits .i64))) + IntKind.wrap .i64 ((1 : Int) * 2 ^ (min j (IntKind.bits .i64))))))
      · intro e'
        have hk' : k = 2 := by
          simp only [cond_true, cond_false] at e'
          omega
        subst hk'
        simp only [cond_true, cond_false, rdI_t hC (show 2 < 21 by omega), wrI_t hC (show 2 < 21 by omega), rdI_t (n := 21) (tI_set hC) (show 20 < 21 by omega), wrI_t (n := 21) (tI_set hC) (show 20 < 21 by omega), rdA_tI (n := 21) (tI_set (tI_set hC)), ok51 o (tI_set (tI_set hC)), twin51 o (tI_set (tI_set hC)), wrA_tI h (tI_set (tI_set hC)), gd_true]
        rfl
      · cases decide ((16 : Int) ≤ (IntKind.wrap .i64 (IntKind.wrap .i64 ((1 : Int) * 2 ^ (min i (IntKind.bits .i64))) + IntKind.wrap .i64 ((1 : Int) * 2 ^ (min j (IntKind.bits .i64))))))
        · intro e'
          have hk' : k = 3 := by
            simp only [cond_true, cond_false] at e'
            omega
          subst hk'
          simp only [cond_true, cond_false, rdI_t hC (show 3 < 21 by omega), wrI_t hC (show 3 < 21 by omega), rdI_t (n := 21) (tI_set hC) (show 20 < 21 by omega), wrI_t (n := 21) (tI_set hC) (show 20 < 21 by omega), rdA_tI (n := 21) (tI_set (tI_set hC)), ok51 o (tI_set (tI_set hC)), twin51 o (tI_set (tI_set hC)), wrA_tI h (tI_set (tI_set hC)), gd_true]
          rfl
        · cases decide ((32 : Int) ≤ (IntKind.wrap .i64 (IntKind.wrap .i64 ((1 : Int) * 2 ^ (min i (IntKind.bits .i64))) + IntKind.wrap .i64 ((1 : Int) * 2 ^ (min j (IntKind.bits .i64))))))
          · intro e'
            have hk' : k = 4 := by
              simp only [cond_true, cond_false] at e'
              omega
            subst hk'
            simp only [cond_true, cond_false, rdI_t hC (show 4 < 21 by omega), wrI_t hC (show 4 < 21 by omega), rdI_t (n := 21) (tI_set hC) (show 20 < 21 by omega), wrI_t (n := 21) (tI_set hC) (show 20 < 21 by omega), rdA_tI (n := 21) (tI_set (tI_set hC)), ok51 o (tI_set (tI_set hC)), twin51 o (tI_set (tI_set hC)), wrA_tI h (tI_set (tI_set hC)), gd_true]
            rfl
          · cases decide ((64 : Int) ≤ (IntKind.wrap .i64 (IntKind.wrap .i64 ((1 : Int) * 2 ^ (min i (IntKind.bits .i64))) + IntKind.wrap .i64 ((1 : Int) * 2 ^ (min j (IntKind.bits .i64))))))
            · intro e'
              have hk' : k = 5 := by
                simp only [cond_true, cond_false] at e'
                omega
              subst hk'
              simp only [cond_true, cond_false, rdI_t hC (show 5 < 21 by omega), wrI_t hC (show 5 < 21 by omega), rdI_t (n := 21) (tI_set hC) (show 20 < 21 by omega), wrI_t (n := 21) (tI_set hC) (show 20 < 21 by omega), rdA_tI (n := 21) (tI_set (tI_set hC)), ok51 o (tI_set (tI_set hC)), twin51 o (tI_set (tI_set hC)), wrA_tI h (tI_set (tI_set hC)), gd_true]
              rfl
            · cases decide ((128 : Int) ≤ (IntKind.wrap .i64 (IntKind.wrap .i64 ((1 : Int) * 2 ^ (min i (IntKind.bits .i64))) + IntKind.wrap .i64 ((1 : Int) * 2 ^ (min j (IntKind.bits .i64))))))
              · intro e'
                have hk' : k = 6 := by
                  simp only [cond_true, cond_false] at e'
                  omega
                subst hk'
                simp only [cond_true, cond_false, rdI_t hC (show 6 < 21 by omega), wrI_t hC (show 6 < 21 by omega), rdI_t (n := 21) (tI_set hC) (show 20 < 21 by omega), wrI_t (n := 21) (tI_set hC) (show 20 < 21 by omega), rdA_tI (n := 21) (tI_set (tI_set hC)), ok51 o (tI_set (tI_set hC)), twin51 o (tI_set (tI_set hC)), wrA_tI h (tI_set (tI_set hC)), gd_true]
                rfl
              · cases decide ((256 : Int) ≤ (IntKind.wrap .i64 (IntKind.wrap .i64 ((1 : Int) * 2 ^ (min i (IntKind.bits .i64))) + IntKind.wrap .i64 ((1 : Int) * 2 ^ (min j (IntKind.bits .i64))))))
                · intro e'
                  have hk' : k = 7 := by
                    simp only [cond_true, cond_false] at e'
                    omega
                  subst hk'
                  simp only [cond_true, cond_false, rdI_t hC (show 7 < 21 by omega), wrI_t hC (show 7 < 21 by omega), rdI_t (n := 21) (tI_set hC) (show 20 < 21 by omega), wrI_t (n := 21) (tI_set hC) (show 20 < 21 by omega), rdA_tI (n := 21) (tI_set (tI_set hC)), ok51 o (tI_set (tI_set hC)), twin51 o (tI_set (tI_set hC)), wrA_tI h (tI_set (tI_set hC)), gd_true]
                  rfl
                · cases decide ((512 : Int) ≤ (IntKind.wrap .i64 (IntKind.wrap .i64 ((1 : Int) * 2 ^ (min i (IntKind.bits .i64))) + IntKind.wrap .i64 ((1 : Int) * 2 ^ (min j (IntKind.bits .i64))))))
                  · intro e'
                    have hk' : k = 8 := by
                      simp only [cond_true, cond_false] at e'
                      omega
                    subst hk'
                    simp only [cond_true, cond_false, rdI_t hC (show 8 < 21 by omega), wrI_t hC (show 8 < 21 by omega), rdI_t (n := 21) (tI_set hC) (show 20 < 21 by omega), wrI_t (n := 21) (tI_set hC) (show 20 < 21 by omega), rdA_tI (n := 21) (tI_set (tI_set hC)), ok51 o (tI_set (tI_set hC)), twin51 o (tI_set (tI_set hC)), wrA_tI h (tI_set (tI_set hC)), gd_true]
                    rfl
                  · cases decide ((1024 : Int) ≤ (IntKind.wrap .i64 (IntKind.wrap .i64 ((1 : Int) * 2 ^ (min i (IntKind.bits .i64))) + IntKind.wrap .i64 ((1 : Int) * 2 ^ (min j (IntKind.bits .i64))))))
                    · intro e'
                      have hk' : k = 9 := by
                        simp only [cond_true, cond_false] at e'
                        omega
                      subst hk'
                      simp only [cond_true, cond_false, rdI_t hC (show 9 < 21 by omega), wrI_t hC (show 9 < 21 by omega), rdI_t (n := 21) (tI_set hC) (show 20 < 21 by omega), wrI_t (n := 21) (tI_set hC) (show 20 < 21 by omega), rdA_tI (n := 21) (tI_set (tI_set hC)), ok51 o (tI_set (tI_set hC)), twin51 o (tI_set (tI_set hC)), wrA_tI h (tI_set (tI_set hC)), gd_true]
                      rfl
                    · cases decide ((2048 : Int) ≤ (IntKind.wrap .i64 (IntKind.wrap .i64 ((1 : Int) * 2 ^ (min i (IntKind.bits .i64))) + IntKind.wrap .i64 ((1 : Int) * 2 ^ (min j (IntKind.bits .i64))))))
                      · intro e'
                        have hk' : k = 10 := by
                          simp only [cond_true, cond_false] at e'
                          omega
                        subst hk'
                        simp only [cond_true, cond_false, rdI_t hC (show 10 < 21 by omega), wrI_t hC (show 10 < 21 by omega), rdI_t (n := 21) (tI_set hC) (show 20 < 21 by omega), wrI_t (n := 21) (tI_set hC) (show 20 < 21 by omega), rdA_tI (n := 21) (tI_set (tI_set hC)), ok51 o (tI_set (tI_set hC)), twin51 o (tI_set (tI_set hC)), wrA_tI h (tI_set (tI_set hC)), gd_true]
                        rfl
                      · cases decide ((4096 : Int) ≤ (IntKind.wrap .i64 (IntKind.wrap .i64 ((1 : Int) * 2 ^ (min i (IntKind.bits .i64))) + IntKind.wrap .i64 ((1 : Int) * 2 ^ (min j (IntKind.bits .i64))))))
                        · intro e'
                          have hk' : k = 11 := by
                            simp only [cond_true, cond_false] at e'
                            omega
                          subst hk'
                          simp only [cond_true, cond_false, rdI_t hC (show 11 < 21 by omega), wrI_t hC (show 11 < 21 by omega), rdI_t (n := 21) (tI_set hC) (show 20 < 21 by omega), wrI_t (n := 21) (tI_set hC) (show 20 < 21 by omega), rdA_tI (n := 21) (tI_set (tI_set hC)), ok51 o (tI_set (tI_set hC)), twin51 o (tI_set (tI_set hC)), wrA_tI h (tI_set (tI_set hC)), gd_true]
                          rfl
                        · cases decide ((8192 : Int) ≤ (IntKind.wrap .i64 (IntKind.wrap .i64 ((1 : Int) * 2 ^ (min i (IntKind.bits .i64))) + IntKind.wrap .i64 ((1 : Int) * 2 ^ (min j (IntKind.bits .i64))))))
                          · intro e'
                            have hk' : k = 12 := by
                              simp only [cond_true, cond_false] at e'
                              omega
                            subst hk'
                            simp only [cond_true, cond_false, rdI_t hC (show 12 < 21 by omega), wrI_t hC (show 12 < 21 by omega), rdI_t (n := 21) (tI_set hC) (show 20 < 21 by omega), wrI_t (n := 21) (tI_set hC) (show 20 < 21 by omega), rdA_tI (n := 21) (tI_set (tI_set hC)), ok51 o (tI_set (tI_set hC)), twin51 o (tI_set (tI_set hC)), wrA_tI h (tI_set (tI_set hC)), gd_true]
                            rfl
                          · cases decide ((16384 : Int) ≤ (IntKind.wrap .i64 (IntKind.wrap .i64 ((1 : Int) * 2 ^ (min i (IntKind.bits .i64))) + IntKind.wrap .i64 ((1 : Int) * 2 ^ (min j (IntKind.bits .i64))))))
                            · intro e'
                              have hk' : k = 13 := by
                                simp only [cond_true, cond_false] at e'
                                omega
                              subst hk'
                              simp only [cond_true, cond_false, rdI_t hC (show 13 < 21 by omega), wrI_t hC (show 13 < 21 by omega), rdI_t (n := 21) (tI_set hC) (show 20 < 21 by omega), wrI_t (n := 21) (tI_set hC) (show 20 < 21 by omega), rdA_tI (n := 21) (tI_set (tI_set hC)), ok51 o (tI_set (tI_set hC)), twin51 o (tI_set (tI_set hC)), wrA_tI h (tI_set (tI_set hC)), gd_true]
                              rfl
                            · cases decide ((32768 : Int) ≤ (IntKind.wrap .i64 (IntKind.wrap .i64 ((1 : Int) * 2 ^ (min i (IntKind.bits .i64))) + IntKind.wrap .i64 ((1 : Int) * 2 ^ (min j (IntKind.bits .i64))))))
                              · intro e'
                                have hk' : k = 14 := by
                                  simp only [cond_true, cond_false] at e'
                                  omega
                                subst hk'
                                simp only [cond_true, cond_false, rdI_t hC (show 14 < 21 by omega), wrI_t hC (show 14 < 21 by omega), rdI_t (n := 21) (tI_set hC) (show 20 < 21 by omega), wrI_t (n := 21) (tI_set hC) (show 20 < 21 by omega), rdA_tI (n := 21) (tI_set (tI_set hC)), ok51 o (tI_set (tI_set hC)), twin51 o (tI_set (tI_set hC)), wrA_tI h (tI_set (tI_set hC)), gd_true]
                                rfl
                              · cases decide ((65536 : Int) ≤ (IntKind.wrap .i64 (IntKind.wrap .i64 ((1 : Int) * 2 ^ (min i (IntKind.bits .i64))) + IntKind.wrap .i64 ((1 : Int) * 2 ^ (min j (IntKind.bits .i64))))))
                                · intro e'
                                  have hk' : k = 15 := by
                                    simp only [cond_true, cond_false] at e'
                                    omega
                                  subst hk'
                                  simp only [cond_true, cond_false, rdI_t hC (show 15 < 21 by omega), wrI_t hC (show 15 < 21 by omega), rdI_t (n := 21) (tI_set hC) (show 20 < 21 by omega), wrI_t (n := 21) (tI_set hC) (show 20 < 21 by omega), rdA_tI (n := 21) (tI_set (tI_set hC)), ok51 o (tI_set (tI_set hC)), twin51 o (tI_set (tI_set hC)), wrA_tI h (tI_set (tI_set hC)), gd_true]
                                  rfl
                                · cases decide ((131072 : Int) ≤ (IntKind.wrap .i64 (IntKind.wrap .i64 ((1 : Int) * 2 ^ (min i (IntKind.bits .i64))) + IntKind.wrap .i64 ((1 : Int) * 2 ^ (min j (IntKind.bits .i64))))))
                                  · intro e'
                                    have hk' : k = 16 := by
                                      simp only [cond_true, cond_false] at e'
                                      omega
                                    subst hk'
                                    simp only [cond_true, cond_false, rdI_t hC (show 16 < 21 by omega), wrI_t hC (show 16 < 21 by omega), rdI_t (n := 21) (tI_set hC) (show 20 < 21 by omega), wrI_t (n := 21) (tI_set hC) (show 20 < 21 by omega), rdA_tI (n := 21) (tI_set (tI_set hC)), ok51 o (tI_set (tI_set hC)), twin51 o (tI_set (tI_set hC)), wrA_tI h (tI_set (tI_set hC)), gd_true]
                                    rfl
                                  · cases decide ((262144 : Int) ≤ (IntKind.wrap .i64 (IntKind.wrap .i64 ((1 : Int) * 2 ^ (min i (IntKind.bits .i64))) + IntKind.wrap .i64 ((1 : Int) * 2 ^ (min j (IntKind.bits .i64))))))
                                    · intro e'
                                      have hk' : k = 17 := by
                                        simp only [cond_true, cond_false] at e'
                                        omega
                                      subst hk'
                                      simp only [cond_true, cond_false, rdI_t hC (show 17 < 21 by omega), wrI_t hC (show 17 < 21 by omega), rdI_t (n := 21) (tI_set hC) (show 20 < 21 by omega), wrI_t (n := 21) (tI_set hC) (show 20 < 21 by omega), rdA_tI (n := 21) (tI_set (tI_set hC)), ok51 o (tI_set (tI_set hC)), twin51 o (tI_set (tI_set hC)), wrA_tI h (tI_set (tI_set hC)), gd_true]
                                      rfl
                                    · cases decide ((524288 : Int) ≤ (IntKind.wrap .i64 (IntKind.wrap .i64 ((1 : Int) * 2 ^ (min i (IntKind.bits .i64))) + IntKind.wrap .i64 ((1 : Int) * 2 ^ (min j (IntKind.bits .i64))))))
                                      · intro e'
                                        have hk' : k = 18 := by
                                          simp only [cond_true, cond_false] at e'
                                          omega
                                        subst hk'
                                        simp only [cond_true, cond_false, rdI_t hC (show 18 < 21 by omega), wrI_t hC (show 18 < 21 by omega), rdI_t (n := 21) (tI_set hC) (show 20 < 21 by omega), wrI_t (n := 21) (tI_set hC) (show 20 < 21 by omega), rdA_tI (n := 21) (tI_set (tI_set hC)), ok51 o (tI_set (tI_set hC)), twin51 o (tI_set (tI_set hC)), wrA_tI h (tI_set (tI_set hC)), gd_true]
                                        rfl
                                      · intro e'
                                        have hk' : k = 19 := by
                                          simp only [cond_true, cond_false] at e'
                                          omega
                                        subst hk'
                                        simp only [cond_true, cond_false, rdI_t hC (show 19 < 21 by omega), wrI_t hC (show 19 < 21 by omega), rdI_t (n := 21) (tI_set hC) (show 20 < 21 by omega), wrI_t (n := 21) (tI_set hC) (show 20 < 21 by omega), rdA_tI (n := 21) (tI_set (tI_set hC)), ok51 o (tI_set (tI_set hC)), twin51 o (tI_set (tI_set hC)), wrA_tI h (tI_set (tI_set hC)), gd_true]
                                        rfl
theorem pairIn (o : FO) {L K : List (AV o)} {m off : Nat} (h : tI 21 L = true) (hK : tI m K = true) (ho : off + 1 < m) {i j : Nat} (hi : i < 20) (hj : j < 20) (ei : lkI K off = ((i : Nat) : Int)) (ej : lkI K (off + 1) = ((j : Nat) : Int)) : ∃ (M : List (AV o)) (c : Int) (N : List (AV o)) (H : Heap o), f79 o L off K = some (.tup [.agg M, .int .i64 c], H) ∧ f80 o ((i : Nat) : Int) ((j : Nat) : Int) L = some (.int .i64 c, [.live true true N]) ∧ tI 21 M = true ∧ tI 21 N = true ∧ (c = 0 → N = M) ∧ (c ≠ 0 → N = L) := by
  have hz : tI 21 (List.replicate 21 (.int .i64 (0 : Int)) : List (AV o)) = true := tI_rep 21 _
  obtain ⟨k, hk, e⟩ := whole o (sum2 i j)
  have hC := tI_less o h i j
  have hM := tI_more o hC (sum2 i j) k (pw k)
  have g1 := sp79 o h hK ho ei ej hi hj hk e
  have g2 := im80 o h hi hj hk e
  rw [g1, g2]
  clear g1 g2 e
  unfold spR imR
  generalize more o (less o L i j) (sum2 i j) k (pw k) = M at hM ⊢
  cases decide (lkI (less o L i j) i < (0 : Int))
  · cases decide (lkI (less o L i j) j < (0 : Int))
    · cases m49_0 o M
      · exact ⟨_, _, _, _, rfl, rfl, hz, h, (fun h => by cases h), fun _ => rfl⟩
      · exact ⟨_, _, _, _, rfl, rfl, hM, hM, fun _ => rfl, fun h => absurd rfl h⟩
    · exact ⟨_, _, _, _, rfl, rfl, hz, h, (fun h => by cases h), fun _ => rfl⟩
  · exact ⟨_, _, _, _, rfl, rfl, hz, h, (fun h => by cases h), fun _ => rfl⟩
theorem pairB (o : FO) {L K : List (AV o)} {m off : Nat} (h : tI 21 L = true) (hK : tI m K = true) (ho : off + 1 < m) : ∃ (M : List (AV o)) (c : Int) (N : List (AV o)) (H : Heap o), f79 o L off K = some (.tup [.agg M, .int .i64 c], H) ∧ f80 o (lkI K off) (lkI K (off + 1)) L = some (.int .i64 c, [.live true true N]) ∧ tI 21 M = true ∧ tI 21 N = true ∧ (c = 0 → N = M) ∧ (c ≠ 0 → N = L) := by
  have hz : tI 21 (List.replicate 21 (.int .i64 (0 : Int)) : List (AV o)) = true := tI_rep 21 _
  have r0 := rdI_t hK (show off < m by omega)
  have r1 := rdI_t hK ho
  by_cases hp : 0 ≤ lkI K off ∧ lkI K off ≤ 19
  · by_cases hq : 0 ≤ lkI K (off + 1) ∧ lkI K (off + 1) ≤ 19
    · obtain ⟨i, ei⟩ : ∃ i : Nat, lkI K off = ((i : Nat) : Int) := ⟨(lkI K off).toNat, by omega⟩
      obtain ⟨j, ej⟩ : ∃ j : Nat, lkI K (off + 1) = ((j : Nat) : Int) := ⟨(lkI K (off + 1)).toNat, by omega⟩
      have := pairIn o h hK ho (i := i) (j := j) (by omega) (by omega) ei ej
      rw [ei, ej]
      exact this
    · have e1 : m53_0 o (lkI K (off + 1)) = false := by rw [cls]; exact decide_eq_false hq
      have e2 : m55_0 o (lkI K (off + 1)) = false := by rw [cls2]; exact decide_eq_false hq
      have e3 : m53_0 o (lkI K off) = true := by rw [cls]; exact decide_eq_true hp
      have e4 : m55_0 o (lkI K off) = true := by rw [cls2]; exact decide_eq_true hp
      unfold f79 f80
      simp only [Nat.add_zero, r0, r1, e1, e2, e3, e4, cond_true, cond_false, wrA_tI hz hz, rdA_tI hz]
      exact ⟨_, _, _, _, rfl, rfl, hz, h, (fun h => by cases h), fun _ => rfl⟩
  · have e3 : m53_0 o (lkI K off) = false := by rw [cls]; exact decide_eq_false hp
    have e4 : m55_0 o (lkI K off) = false := by rw [cls2]; exact decide_eq_false hp
    unfold f79 f80
    simp only [Nat.add_zero, r0, r1, e3, e4, cond_true, cond_false, wrA_tI hz hz, rdA_tI hz]
    exact ⟨_, _, _, _, rfl, rfl, hz, h, (fun h => by cases h), fun _ => rfl⟩
theorem run (o : FO) {K : List (AV o)} {n : Nat} (hK : tI (n * 2) K = true) (hn : n ≤ 1000) : ∀ (d i M : Nat) (C : List (AV o)) (dn : Int), tI 21 C = true → i + d = n → d < M →
    ∃ (B : List (AV o)) (w : Int), tI 21 B = true ∧ iter (f41_L0 o 2000000) M (n, dn, ((i : Nat) : Int), K, C, (List.replicate 21 (.int .i64 (0 : Int)) : List (AV o))) = some (.tup [.agg B, .int .i64 w, .int .i64 (0 : Int)], [.live false true K]) ∧
      iter (f43_L0 o 2000000) M (dn, n, ((n : Nat) : Int), ((i : Nat) : Int), K, C, (List.replicate 21 (.int .i64 (0 : Int)) : List (AV o))) = some (.tup [.agg B, .int .i64 w, .int .i64 (0 : Int)], [.live false true K]) := by
  have hz : tI 21 (List.replicate 21 (.int .i64 (0 : Int)) : List (AV o)) = true := tI_rep 21 _
  intro d
  induction d with
  | zero =>
    intro i M C dn hC hi hM
    cases M with
    | zero => omega
    | succ M =>
      have : i = n := by omega
      subst this
      refine ⟨C, dn, hC, ?_, ?_⟩
      · rw [iter_succ]
        generalize iter (f41_L0 o 2000000) M = s0
        unfold f41_L0
        simp (disch := omega) only [dnl, cond_false, rdA_tI hC, wrA_tI hz hC]
      · rw [iter_succ]
        generalize iter (f43_L0 o 2000000) M = s0
        unfold f43_L0
        simp (disch := omega) only [dnl, cond_false, rdA_tI hC, wrA_tI hz hC]
  | succ d ih =>
    intro i M C dn hC hi hM
    cases M with
    | zero => omega
    | succ M =>
      obtain ⟨M', c, N, H, e1, e2, hM', hN, h0, h1⟩ := pairB o (off := i * 2) hC hK (by omega)
      have r0 := rdI_t hK (show i * 2 < n * 2 by omega)
      have r1 := rdI_t hK (show i * 2 + 1 < n * 2 by omega)
      obtain ⟨B, w, hB, g1, g2⟩ := ih (i + 1) M N (bif c == 0 then IntKind.wrap .i64 (dn + 1) else dn) hN (by omega) (by omega)
      refine ⟨B, w, hB, ?_, ?_⟩
      · rw [iter_succ, ← g1]
        generalize iter (f41_L0 o 2000000) M = s0
        unfold f41_L0
        simp (disch := omega) only [dlt, dge, wrS, Int.toNat_natCast, Nat.zero_add, Bool.and_self, gd_true, cond_true, rdA_tI hC, m79_ok, k79, m79_0, g79_0, m79_1, g79_1, e1, wrA_tI hz hM', rdA_tI hM', wrA_tI hC hM']
        cases hc : (c == 0)
        · have hc0 : c ≠ 0 := by simpa using hc
          rw [h1 hc0]
          rfl
        · have hc0 : c = 0 := by simpa using hc
          rw [h0 hc0]
          rfl
      · rw [iter_succ, ← g2]
        generalize iter (f43_L0 o 2000000) M = s0
        unfold f43_L0
        simp (disch := omega) only [dlt, dge, wrS, Int.toNat_natCast, Nat.zero_add, Bool.and_self, gd_true, cond_true, r0, r1, m80_ok, k80, m80_0, g80_0, m80_1, g80_1, e2]
        cases c == 0 <;> rfl
theorem main (o : FO) {L K : List (AV o)} {n : Nat} (h : tI 21 L = true) (hK : tI (n * 2) K = true) : ∃ (B : List (AV o)) (w u : Int), tI 21 B = true ∧ f41 o 2000000 L n K = some (.tup [.agg B, .int .i64 w, .int .i64 u], [.live false true K]) ∧ f43 o 2000000 L n K = some (.tup [.agg B, .int .i64 w, .int .i64 u], [.live false true K]) := by
  have hz : tI 21 (List.replicate 21 (.int .i64 (0 : Int)) : List (AV o)) = true := tI_rep 21 _
  unfold f41 f43
  simp only [ok49 o h, ok51 o h, twin51 o h, rdA_tI h, wrA_tI hz hz, rdA_tI hz, gd_true]
  cases m49_0 o L
  · exact ⟨_, _, _, hz, rfl, rfl⟩
  · by_cases hn : n ≤ 1000
    · have e : decide (((n : Nat) : Int) > (1000 : Int)) = false := decide_eq_false (by omega)
      obtain ⟨B, w, hB, g1, g2⟩ := run o hK hn n 0 2000000 L (0 : Int) h (by omega) (by omega)
      rw [e]
      exact ⟨B, w, 0, hB, g1, g2⟩
    · have e : decide (((n : Nat) : Int) > (1000 : Int)) = true := decide_eq_true (by omega)
      rw [e]
      exact ⟨_, _, _, hz, rfl, rfl⟩
theorem fillI_2 (o : FO) {L : List (AV o)} {m : Nat} (h : tI m L = true) {i : Nat} (hi : i + 2 ≤ m) (k : List (AV o) → R o) :
    wrA (L.take i ++ List.replicate (m - i) (.int .i64 (0 : Int))) i 2 [.int .i64 (lkI L i), .int .i64 (lkI L (i + 1))] k = k (L.take (i + 2) ++ List.replicate (m - (i + 2)) (.int .i64 (0 : Int))) := by
  have hl := tI_len h
  rw [wrA_of (n := 2) (vs := [.int .i64 (lkI L i), .int .i64 (lkI L (i + 1))]) rfl (by rw [List.length_append, List.length_take, List.length_replicate]; omega)]
  congr 1
  have e : L.take (i + 2) = L.take i ++ [.int .i64 (lkI L i), .int .i64 (lkI L (i + 1))] := by
    rw [List.take_add_one, List.take_add_one, tI_get h (show i < m by omega), tI_get h (show i + 1 < m by omega)]
    simp
  rw [e, List.take_append_of_le_length (by rw [List.length_take]; omega), List.take_take, Nat.min_self, List.append_assoc]
  congr 2
  rw [List.drop_append, List.drop_eq_nil_of_le (by rw [List.length_take]; omega), List.nil_append, List.drop_replicate, List.length_take]
  congr 1
  omega
theorem zeros_2 (o : FO) (n : Nat) : zeros [(.int .i64 (0 : Int) : AV o), .int .i64 (0 : Int)] n = List.replicate (n * 2) (.int .i64 (0 : Int)) := by
  unfold zeros
  induction n with
  | zero => rfl
  | succ n ih =>
    rw [List.replicate_succ, List.flatten_cons, ih, Nat.succ_mul, Nat.add_comm, ← List.replicate_append_replicate]
    rfl
theorem mkOk2 {n : Nat} (h : n ≤ 1048576) : (decide (0 ≤ ((n : Nat) : Int)) && (decide (((n : Nat) : Int) = ((n : Nat) : Int)) && (decide (((n : Nat) : Int) * ((2 : Nat) : Int) ≤ 16777216) && (decide (((16 : Nat) : Int) * ((n : Nat) : Int) ≤ 281474976710656) && decide (((n : Nat) : Int) ≤ 9223372036854775807))))) = true := by
  simp only [Bool.and_eq_true, decide_eq_true_eq]
  refine ⟨by omega, trivial, ?_, ?_, by omega⟩
  · show ((n : Nat) : Int) * 2 ≤ 16777216
    omega
  · show (16 : Int) * ((n : Nat) : Int) ≤ 281474976710656
    omega
theorem to42 (o : FO) {n : Nat} {L : List (AV o)} (h : tI (n * 2) L = true) (hn : n ≤ 1048576) : f42 o 2000000 n L = some (.slice 1 0 n 2, [.live false true L, .live true true L]) := by
  have hl := tI_len h
  unfold f42
  rw [mkOk2 hn, gd_true, zeros_2, Int.toNat_natCast]
  have := iter_up (f42_L0 o 2000000) (fun i => (n, n, ((i : Nat) : Int), L, L.take (i * 2) ++ List.replicate (n * 2 - i * 2) (.int .i64 (0 : Int)))) n (some (.slice 1 0 n 2, [.live false true L, .live true true L])) 2000000 (by omega) (fun i hi s0 => by
    unfold f42_L0
    simp (disch := omega) only [dlt, dnl, dge, dpo, dp0, wrS, wrP, wrQ, Int.toNat_natCast, Nat.zero_add, Nat.add_zero, Nat.add_assoc, Nat.reduceAdd, Nat.mul_one, Nat.add_sub_cancel, Bool.and_true, Bool.true_and, Bool.and_self, gd_true, cond_true, cond_false, rdI_t h, fillI_2 o h, Nat.succ_mul]) (fun s0 => by
    have e1 : L.take (n * 2) = L := List.take_of_length_le (by omega)
    unfold f42_L0
    simp (disch := omega) only [dlt, dnl, dge, dpo, dp0, wrS, wrP, wrQ, Int.toNat_natCast, Nat.zero_add, Nat.add_zero, Nat.add_assoc, Nat.reduceAdd, Nat.mul_one, Nat.add_sub_cancel, Bool.and_true, Bool.true_and, Bool.and_self, gd_true, cond_true, cond_false, rdI_t h, e1, Nat.sub_self, List.replicate_zero, List.append_nil])
  rw [show (0 : Nat) * 2 = 0 from rfl, List.take_zero, List.nil_append, Nat.sub_zero] at this
  exact this
theorem to42a (o : FO) {n : Nat} {L : List (AV o)} (h : tI (n * 2) L = true) (hn : n ≤ 1048576) : f42a o 2000000 n L = some (.slice 1 0 n 2, [.live true true L, .live true true L]) := by
  have hl := tI_len h
  unfold f42a
  rw [mkOk2 hn, gd_true, zeros_2, Int.toNat_natCast]
  have := iter_up (f42a_L0 o 2000000) (fun i => (n, n, ((i : Nat) : Int), L, L.take (i * 2) ++ List.replicate (n * 2 - i * 2) (.int .i64 (0 : Int)))) n (some (.slice 1 0 n 2, [.live true true L, .live true true L])) 2000000 (by omega) (fun i hi s0 => by
    unfold f42a_L0
    simp (disch := omega) only [dlt, dnl, dge, dpo, dp0, wrS, wrP, wrQ, Int.toNat_natCast, Nat.zero_add, Nat.add_zero, Nat.add_assoc, Nat.reduceAdd, Nat.mul_one, Nat.add_sub_cancel, Bool.and_true, Bool.true_and, Bool.and_self, gd_true, cond_true, cond_false, rdI_t h, fillI_2 o h, Nat.succ_mul]) (fun s0 => by
    have e1 : L.take (n * 2) = L := List.take_of_length_le (by omega)
    unfold f42a_L0
    simp (disch := omega) only [dlt, dnl, dge, dpo, dp0, wrS, wrP, wrQ, Int.toNat_natCast, Nat.zero_add, Nat.add_zero, Nat.add_assoc, Nat.reduceAdd, Nat.mul_one, Nat.add_sub_cancel, Bool.and_true, Bool.true_and, Bool.and_self, gd_true, cond_true, cond_false, rdI_t h, e1, Nat.sub_self, List.replicate_zero, List.append_nil])
  rw [show (0 : Nat) * 2 = 0 from rfl, List.take_zero, List.nil_append, Nat.sub_zero] at this
  exact this
theorem to42b (o : FO) : f42b o 2000000 = some (.slice 0 0 0 2, [.live true true []]) := by
  unfold f42b
  rfl
theorem to42_ok (o : FO) {n : Nat} {L : List (AV o)} (h : tI (n * 2) L = true) (hn : n ≤ 1048576) : m42_ok o n L = true := by
  unfold m42_ok
  rw [to42 o h hn]
  rfl
theorem to42_0 (o : FO) {n : Nat} {L : List (AV o)} (h : tI (n * 2) L = true) (hn : n ≤ 1048576) : m42_0 o n L = n := by
  unfold m42_0
  rw [to42 o h hn]
  rfl
theorem to42_1 (o : FO) {n : Nat} {L : List (AV o)} (h : tI (n * 2) L = true) (hn : n ≤ 1048576) : m42_1 o n L = L := by
  unfold m42_1
  rw [to42 o h hn]
  rfl
theorem to42_2 (o : FO) {n : Nat} {L : List (AV o)} (h : tI (n * 2) L = true) (hn : n ≤ 1048576) : m42_2 o n L = L := by
  unfold m42_2
  rw [to42 o h hn]
  rfl
theorem to42a_ok (o : FO) {n : Nat} {L : List (AV o)} (h : tI (n * 2) L = true) (hn : n ≤ 1048576) : m42a_ok o n L = true := by
  unfold m42a_ok
  rw [to42a o h hn]
  rfl
theorem to42a_0 (o : FO) {n : Nat} {L : List (AV o)} (h : tI (n * 2) L = true) (hn : n ≤ 1048576) : m42a_0 o n L = n := by
  unfold m42a_0
  rw [to42a o h hn]
  rfl
theorem to42a_1 (o : FO) {n : Nat} {L : List (AV o)} (h : tI (n * 2) L = true) (hn : n ≤ 1048576) : m42a_1 o n L = L := by
  unfold m42a_1
  rw [to42a o h hn]
  rfl
theorem to42a_2 (o : FO) {n : Nat} {L : List (AV o)} (h : tI (n * 2) L = true) (hn : n ≤ 1048576) : m42a_2 o n L = L := by
  unfold m42a_2
  rw [to42a o h hn]
  rfl
theorem to42b_ok (o : FO) : m42b_ok o = true := by
  unfold m42b_ok
  rw [to42b o]
  rfl
theorem to42b_0 (o : FO) : m42b_0 o = 0 := by
  unfold m42b_0
  rw [to42b o]
  rfl
theorem sz40 (o : FO) {n : Nat} (L : List (AV o)) (left : Nat) (hn : n ≤ maxLen) (hl : left ≤ 1048576) : m40_0 o n ((left : Nat) : Int) L = if n ≤ left then ((left - n : Nat) : Int) else -1 := by
  unfold m40_0
  have hm : maxLen = 9223372036854775807 := by decide
  rw [wrap64 (by omega) (by omega)]
  show (bif decide (((left : Nat) : Int) - ((n : Nat) : Int) < 0) then (-1 : Int) else ((left : Nat) : Int) - ((n : Nat) : Int)) = _
  by_cases h : n ≤ left
  · rw [if_pos h, decide_eq_false (by omega), cond_false]
    omega
  · rw [if_neg h, decide_eq_true (by omega), cond_true]
theorem sz40a (o : FO) : m40a_0 o (1048576 : Int) = 1048576 := by
  unfold m40a_0
  rfl
theorem eqp (o : FO) (a b : Int) : m81_0 o a b a b = true := by
  unfold m81_0
  simp only [bne_self_eq_false, cond_false]
theorem eqps (o : FO) {n : Nat} {L : List (AV o)} (h : tI (n * 2) L = true) (hn : n ≤ 1048576) : f44 o 2000000 n n L L = some (.bool true, [.live false true L, .live false true L]) := by
  unfold f44
  rw [bne_self_eq_false, cond_false]
  have := iter_up (f44_L0 o 2000000) (fun i => (n, n, ((i : Nat) : Int), L, L)) n (some (.bool true, [.live false true L, .live false true L])) 2000000 (by omega) (fun i hi s0 => by
    unfold f44_L0
    simp (disch := omega) only [dlt, dnl, dge, dpo, dp0, wrS, wrP, wrQ, Int.toNat_natCast, Nat.zero_add, Nat.add_zero, Nat.add_assoc, Nat.reduceAdd, Nat.mul_one, Nat.add_sub_cancel, Bool.and_true, Bool.true_and, Bool.and_self, gd_true, cond_true, cond_false, rdI_t h, eqp, Bool.not_true]) (fun s0 => by
    unfold f44_L0
    simp (disch := omega) only [dlt, dnl, dge, dpo, dp0, wrS, wrP, wrQ, Int.toNat_natCast, Nat.zero_add, Nat.add_zero, Nat.add_assoc, Nat.reduceAdd, Nat.mul_one, Nat.add_sub_cancel, Bool.and_true, Bool.true_and, Bool.and_self, gd_true, cond_true, cond_false, rdI_t h])
  exact this
theorem boxLit (o : FO) (z0 z1 z2 z3 z4 z5 z6 z7 z8 z9 z10 z11 z12 z13 z14 z15 z16 z17 z18 z19 z20 : Int) : f15 o [.int .i64 z0, .int .i64 z1, .int .i64 z2, .int .i64 z3, .int .i64 z4, .int .i64 z5, .int .i64 z6, .int .i64 z7, .int .i64 z8, .int .i64 z9, .int .i64 z10, .int .i64 z11, .int .i64 z12, .int .i64 z13, .int .i64 z14, .int .i64 z15, .int .i64 z16, .int .i64 z17, .int .i64 z18, .int .i64 z19, .int .i64 z20] = some (.agg [.int .i64 z0, .int .i64 z1, .int .i64 z2, .int .i64 z3, .int .i64 z4, .int .i64 z5, .int .i64 z6, .int .i64 z7, .int .i64 z8, .int .i64 z9, .int .i64 z10, .int .i64 z11, .int .i64 z12, .int .i64 z13, .int .i64 z14, .int .i64 z15, .int .i64 z16, .int .i64 z17, .int .i64 z18, .int .i64 z19, .int .i64 z20], []) := by kernel_rfl
theorem box15 (o : FO) {L : List (AV o)} (h : tI 21 L = true) : f15 o L = some (.agg L, []) := by
  obtain ⟨zs, hz, rfl⟩ := tI_map h
  obtain ⟨z0, z1, z2, z3, z4, z5, z6, z7, z8, z9, z10, z11, z12, z13, z14, z15, z16, z17, z18, z19, z20, rfl⟩ := len21 hz
  exact boxLit o z0 z1 z2 z3 z4 z5 z6 z7 z8 z9 z10 z11 z12 z13 z14 z15 z16 z17 z18 z19 z20
theorem boxOk (o : FO) {L : List (AV o)} (h : tI 21 L = true) : m15_ok o L = true := by
  unfold m15_ok
  rw [box15 o h]
  rfl
theorem box0 (o : FO) {L : List (AV o)} (h : tI 21 L = true) : m15_0 o L = L := by
  unfold m15_0
  rw [box15 o h]
  rfl
theorem eqc (o : FO) {L : List (AV o)} (h : tI 20 L = true) : f52 o L L = some (.bool true, []) := by
  unfold f52
  simp (maxDischargeDepth := 100) +decide only [rdI_t h, bne_self_eq_false, cond_false]
theorem eqb (o : FO) {L : List (AV o)} (h : tI 21 L = true) : f17 o L L = some (.bool true, []) := by
  unfold f17 m52_ok m52_0
  have h2 := eqc o (tI_sub h (show 0 + 20 ≤ 21 by decide))
  simp (maxDischargeDepth := 100) +decide only [rdA_sI h, rdI_t h, h2, k52, g52_0, gd_true, bne_self_eq_false, Bool.not_true, cond_false, cond_true]
theorem eqbOk (o : FO) {L : List (AV o)} (h : tI 21 L = true) : m17_ok o L L = true := by
  unfold m17_ok
  rw [eqb o h]
  rfl
theorem eqb0 (o : FO) {L : List (AV o)} (h : tI 21 L = true) : m17_0 o L L = true := by
  unfold m17_0
  rw [eqb o h]
  rfl
theorem law_true (C : List A) (n : Nat) (L : List A) (hc : L2 CK.is (List.replicate 21 (.int .i64)) C) (hx : n ≤ maxLen) (hL : L2 CK.is (List.replicate (n * 2) (.int .i64)) L) : ∃ h', f12 ieee C n L = some (.bool true, h') := by
  have hC := tI_of hc
  have h := tI_of hL
  have hz : tI 21 (List.replicate 21 (.int .i64 (0 : Int)) : List (AV ieee)) = true := tI_rep 21 _
  have hz0 : m40_0 ieee n (1048576 : Int) L = if n ≤ 1048576 then ((1048576 - n : Nat) : Int) else -1 := sz40 ieee L 1048576 hx (Nat.le_refl _)
  unfold f12
  refine ⟨[.live false true L], ?_⟩
  by_cases hn : n ≤ 1048576
  · rw [if_pos hn] at hz0
    have e : decide (((1048576 - n : Nat) : Int) < (0 : Int)) = false := decide_eq_false (by omega)
    obtain ⟨B, w, u, hB, e1, e2⟩ := main ieee hC h
    have e3 := eqps ieee h hn
    simp only [hz0, e, to42_ok ieee h hn, to42_0 ieee h hn, to42_1 ieee h hn, to42_2 ieee h hn, to42a_ok ieee h hn, to42a_0 ieee h hn, to42a_1 ieee h hn, to42a_2 ieee h hn, rdA_tI hC, boxOk ieee hC, box0 ieee hC, m41_ok, k41, m41_0, g41_0, m41_1, g41_1, m41_2, g41_2, m43_ok, k43, m43_0, g43_0, m43_1, g43_1, m43_2, g43_2, e1, e2, gd_true, wrA_tI hz hB, rdA_tI hB, eqbOk ieee hB, eqb0 ieee hB, bne_self_eq_false, Bool.not_true, cond_false, cond_true, m44_ok, m44_0, k44, g44_0, e3]
  · rw [if_neg hn] at hz0
    rw [hz0]
    rfl
theorem law_truea (C : List A) (hc : L2 CK.is (List.replicate 21 (.int .i64)) C) : ∃ h', f12a ieee C = some (.bool true, h') := by
  have hC := tI_of hc
  have h : tI (0 * 2) ([] : List A) = true := rfl
  have hn : 0 ≤ 1048576 := by omega
  have hz : tI 21 (List.replicate 21 (.int .i64 (0 : Int)) : List (AV ieee)) = true := tI_rep 21 _
  unfold f12a
  rw [sz40a]
  refine ⟨[], ?_⟩
  have e : decide ((1048576 : Int) < (0 : Int)) = false := rfl
  obtain ⟨B, w, u, hB, e1, e2⟩ := main ieee hC h
  have e3 := eqps ieee h hn
  simp only [e, to42b_ok, to42b_0, rdA_tI hC, boxOk ieee hC, box0 ieee hC, m41_ok, k41, m41_0, g41_0, m41_1, g41_1, m41_2, g41_2, m43_ok, k43, m43_0, g43_0, m43_1, g43_1, m43_2, g43_2, e1, e2, gd_true, wrA_tI hz hB, rdA_tI hB, eqbOk ieee hB, eqb0 ieee hB, bne_self_eq_false, Bool.not_true, cond_false, cond_true, m44_ok, m44_0, k44, g44_0, e3]

theorem own : ownKnob Try.prog.godebug = none := by kernel_rfl
theorem laidOut : laidOutB Try.prog = true := by kernel_rfl
set_option maxRecDepth 100000 in
theorem lifted (os : Os) (started : os.Started) (H : Type) (enc : TypeId × Value → H) :
    ReturnsInHanded {} Try.checked os 12 .any (Rows.fnExactCollidePairsSpec.pre6 enc Try.prog Try.f12 Rows.fnExactCollidePairsRow.domain false) (Rows.fnExactCollidePairsSpec.post enc Try.prog Try.f12 false true false false) := by
  refine returnsInHanded_of_change (C := Try.checked) own started (by kernel_rfl) Try.func12
    (ChangeSpec.witness6 (enc := enc) (C := Try.checked) false ⟨#[], #[.agg (Array.replicate 21 (.int .i64 0)), .slice none 0 0], []⟩ 8 (by kernel_rfl) (by kernel_rfl) (by kernel_rfl) (by kernel_rfl)) ?_
  intro W base args ds gs before hval0 hW hcnd _
  have hval : ∀ (j : Nat) t v, Try.f12.params[j]? = some t → args[j]? = some v → Value.okWide Try.prog W .any base t v := hval0
  have hW' := hW
  obtain ⟨p, q, hA0, hV, rfl, hfz, hnd⟩ := hW
  have hA : DataW.TrodAll enc Try.prog W 0 (fun _ => true) true Try.f12.params.toList args.toList ds p := hA0
  have hA1 := hA
  rw [Try.params12] at hA hval
  obtain ⟨v0, vs0, d0, ds0, p0, q0, hargs, rfl, rfl, h0, r0'⟩ := trodAll_cons hA
  obtain ⟨v1, vs1, d1, ds1, p1, q1, rfl, rfl, rfl, h1, r1'⟩ := trodAll_cons r0'
  obtain ⟨rfl, rfl, rfl⟩ := trodAll_nil r1'
  obtain rfl : args = #[v0, v1] := by cases args; simp_all
  obtain ⟨rfl, rfl⟩ := trodVars_none hV
  clear hA0 hval0
  obtain ⟨cs0, hl0, r0⟩ := okW_agg (List.replicate 21 (.int .i64)) (by kernel_rfl) (by kernel_rfl) (by kernel_rfl) (hval 0 24 v0 rfl rfl)
  rcases open_blk (e := 58) (n0 := 6) (k0 := .int .i64) (es := 2) (by kernel_rfl) (by kernel_rfl) (by kernel_rfl) (by decide) h1 (hval 1 63 v1 rfl rfl) with hnil1 | ⟨g1, n1, L1, hB1, hL1, hn1, hV1⟩
  · obtain ⟨h', hx0⟩ := law_truea cs0 hl0
    have hx := (eq12a ieee 2000000 cs0).trans hx0
    refine (law_calls (cok12a 2000000 (by decide)) (is12a 2000000) hx (hrel_nil W) (by intro b hb fl cs e; simp at hb <;> simp_all) (L2.cons (r0 _) (L2.cons (show VRel _ (.nilslice : A) v1 from hnil1) (L2.nil _)))).mono fun e W' ⟨he, bel⟩ => ?_
    subst he
    exact ⟨_, rfl, _, _, _, [], _, [], hW', trodAll_mk1 (shut_bool (by kernel_rfl) _), trodAll_stays laidOut bel (by kernel_rfl) hA1, rfl, bel.frame _, fun h => by cases h⟩
  · obtain ⟨h', hx0⟩ := law_true cs0 n1 L1 hl0 hn1 hL1
    have hx := (eq12 ieee 2000000 cs0 n1 L1).trans hx0
    refine (law_calls (cok12 2000000 (by decide)) (is12 2000000) hx (hrel_one hB1) (by intro b hb fl cs e; simp at hb <;> simp_all) (L2.cons (r0 _) (L2.cons (hV1 _ 0 rfl) (L2.nil _)))).mono fun e W' ⟨he, bel⟩ => ?_
    subst he
    exact ⟨_, rfl, _, _, _, [], _, [], hW', trodAll_mk1 (shut_bool (by kernel_rfl) _), trodAll_stays laidOut bel (by kernel_rfl) hA1, rfl, bel.frame _, fun h => by cases h⟩

/-- The statement. -/
theorem proved : Rows.FnExactCollidePairsSaid :=
  OpenClaim.holds_of_wide 12 Try.f12 rfl rfl rfl rfl rfl rfl rfl ⟨rfl, rfl, rfl, rfl, rfl⟩ rfl rfl rfl rfl rfl (by kernel_rfl) Try.func12 (by kernel_rfl)
    (of_decide_eq_true (by kernel_rfl)) (by unfold Func.isWrapper; first | (rw [if_pos (by decide +kernel)]; kernel_rfl) | (rw [if_neg (by decide +kernel)]; exact ⟨rfl, rfl⟩))
    (fun os started H enc _ => lifted os started H enc)
end Go.Proofs.Ytbmakfcooonogaa.fnExactCollidePairs
