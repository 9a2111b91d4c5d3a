/- FnExactFallKernel returns true for all arguments. Conditions: none. -/
import Derived.Test.YtbmakfcooonogaaRows
import Derived.Test.YtbmakfcooonogaaG1
set_option linter.unusedVariables false
set_option linter.unusedSimpArgs false
set_option maxRecDepth 100000
namespace Go.Proofs.Ytbmakfcooonogaa.fnExactFallKernel
open Go.Ab Go.RowKit Go.ChangeShapes Go.WideShapes Go.ChangeAt
theorem same20 (o : FO) (x : o.D) : m20_0 o x x = true := by
  unfold m20_0
  cases h : o.deq x x
  · rfl
  · cases h0 : o.deq x (o.dlit 0)
    · rfl
    · simp
theorem eqr (o : FO) {L : List (AV o)} (h : tS 20 L = true) : f63 o 4096 L L = some (.bool true, []) := by
  have := iter_up (f63_L0 o 4096) (fun i => (((i : Nat) : Int), L, L)) 20 (some (.bool true, [])) 4096 (by omega) (fun i hi s0 => by
    unfold f63_L0
    simp (disch := omega) only [dl20, dn20, dlt, dnl, dge, wrS, Int.toNat_natCast, Nat.zero_add, Nat.add_zero, Nat.mul_one, Bool.and_true, Bool.true_and, Bool.and_self, gd_true, cond_true, cond_false, rdS_t h, same20, Bool.not_true]) (fun s0 => by
    unfold f63_L0
    simp (disch := omega) only [dl20, dn20, dlt, dnl, dge, wrS, Int.toNat_natCast, Nat.zero_add, Nat.add_zero, Nat.mul_one, Bool.and_true, Bool.true_and, Bool.and_self, gd_true, cond_true, cond_false])
  exact this
theorem eqk (o : FO) {L : List (AV o)} (h : tS 400 L = true) : f23 o 4096 L L = some (.bool true, []) := by
  have := iter_up (f23_L0 o 4096) (fun i => (((i : Nat) : Int), L, L)) 20 (some (.bool true, [])) 4096 (by omega) (fun i hi s0 => by
    have hs := tS_sub h (i := i * 20) (m := 20) (by omega)
    unfold f23_L0
    simp (disch := omega) only [dl20, dn20, dlt, dnl, dge, wrS, Int.toNat_natCast, Nat.zero_add, Nat.add_zero, Nat.mul_one, Bool.and_true, Bool.true_and, Bool.and_self, gd_true, cond_true, cond_false, rdA_sS h, m63_ok, k63, m63_0, g63_0, eqr o hs, Bool.not_true]) (fun s0 => by
    unfold f23_L0
    simp (disch := omega) only [dl20, dn20, dlt, dnl, dge, wrS, Int.toNat_natCast, Nat.zero_add, Nat.add_zero, Nat.mul_one, Bool.and_true, Bool.true_and, Bool.and_self, gd_true, cond_true, cond_false])
  exact this
theorem eqkOk (o : FO) {L : List (AV o)} (h : tS 400 L = true) : m23_ok o L L = true := by
  unfold m23_ok
  rw [eqk o h]
  rfl
theorem eqk0 (o : FO) {L : List (AV o)} (h : tS 400 L = true) : m23_0 o L L = true := by
  unfold m23_0
  rw [eqk o h]
  rfl
noncomputable def kfin (o : FO) (L : List (AV o)) : Bool := all2 fun i j => finS o (lkS L (i * 20 + j))
noncomputable def toldR (o : FO) (L : List (AV o)) : R o := bif kfin o L then some (.tup [.agg L, .int .i64 (0 : Int)], []) else some (.tup [.agg (List.replicate 400 (.f32 (o.slit 0)) : List (AV o)), .int .i64 (4 : Int)], [])
theorem told59 (o : FO) {L : List (AV o)} (h : tS 400 L = true) : f59 o 4096 L = toldR o L := by
  have hz : tS 400 (List.replicate 400 (.f32 (o.slit 0)) : List (AV o)) = true := tS_rep 400 _
  exact iter2_all (N := 4096) (by omega) (f59_L0 o 4096) (f59_L1 o 4096) (fun i => (((i : Nat) : Int), L, (List.replicate 400 (.f32 (o.slit 0)) : List (AV o)))) (fun i j => (((i : Nat) : Int), ((j : Nat) : Int), L, (List.replicate 400 (.f32 (o.slit 0)) : List (AV o)))) (fun i j => finS o (lkS L (i * 20 + j))) (some (.tup [.agg (List.replicate 400 (.f32 (o.slit 0)) : List (AV o)), .int .i64 (4 : Int)], [])) (some (.tup [.agg L, .int .i64 (0 : Int)], []))
    (fun i hi s0 => by
      unfold f59_L0
      simp (disch := omega) only [dl20, dn20, dlt, dnl, dge, wrS, Int.toNat_natCast, Nat.zero_add, Nat.add_zero, Nat.mul_one, Bool.and_true, Bool.true_and, Bool.and_self, gd_true, cond_true, cond_false]
      rfl) (fun i j hi hj s0 s1 => by
      unfold f59_L1
      simp (disch := omega) only [dl20, dn20, dlt, dnl, dge, wrS, Int.toNat_natCast, Nat.zero_add, Nat.add_zero, Nat.mul_one, Bool.and_true, Bool.true_and, Bool.and_self, gd_true, cond_true, cond_false, rdS_t h, wrA_tS hz hz, rdA_tS hz]
      show (bif !(finS o (lkS L (i * 20 + j))) then _ else _) = _
      cases finS o (lkS L (i * 20 + j)) <;> rfl) (fun i hi s0 s1 => by
      unfold f59_L1
      simp (disch := omega) only [dl20, dn20, dlt, dnl, dge, wrS, Int.toNat_natCast, Nat.zero_add, Nat.add_zero, Nat.mul_one, Bool.and_true, Bool.true_and, Bool.and_self, gd_true, cond_true, cond_false]) (fun s0 => by
      unfold f59_L0
      simp (disch := omega) only [dl20, dn20, dlt, dnl, dge, wrS, Int.toNat_natCast, Nat.zero_add, Nat.add_zero, Nat.mul_one, Bool.and_true, Bool.true_and, Bool.and_self, gd_true, cond_true, cond_false, rdA_tS h, wrA_tS hz h])
theorem told71 (o : FO) {L : List (AV o)} (h : tS 400 L = true) : f71 o 4096 L = toldR o L := by
  have hz : tS 400 (List.replicate 400 (.f32 (o.slit 0)) : List (AV o)) = true := tS_rep 400 _
  have hlen := tS_len h
  have := iter_find (f71_L0 o 4096) (fun i => (((i : Nat) : Int), L, (List.replicate 400 (.f32 (o.slit 0)) : List (AV o)))) 20 (fun i => !(finSeg L (i * 20) 20)) (fun _ => some (.tup [.agg (List.replicate 400 (.f32 (o.slit 0)) : List (AV o)), .int .i64 (4 : Int)], [])) (some (.tup [.agg L, .int .i64 (0 : Int)], []))
    (fun i hi s0 => by
      have e : Nat.ble (i * 20 + 20) L.length = true := Nat.ble_eq_true_of_le (by omega)
      unfold f71_L0
      simp (disch := omega) only [dl20, dn20, dlt, dnl, dge, wrS, Int.toNat_natCast, Nat.zero_add, Nat.add_zero, Nat.mul_one, Bool.and_true, Bool.true_and, Bool.and_self, gd_true, cond_true, cond_false, e, segF_s h, rdS_t h, wrA_tS hz hz, rdA_tS hz]) (fun s0 => by
      unfold f71_L0
      simp (disch := omega) only [dl20, dn20, dlt, dnl, dge, wrS, Int.toNat_natCast, Nat.zero_add, Nat.add_zero, Nat.mul_one, Bool.and_true, Bool.true_and, Bool.and_self, gd_true, cond_true, cond_false, rdA_tS h, wrA_tS hz h]) 20 0 4096 (by omega) (by omega)
  have e2 : f71 o 4096 L = _ := this
  rw [e2]
  unfold toldR
  cases hk : kfin o L with
  | true =>
    have hk' := all2_iff.1 hk
    rw [fnd_false (fun i _ hi => by
      rw [(finSeg_iff h (by omega)).2 (fun j hj => hk' i j (by omega) hj)]
      rfl)]
    rfl
  | false =>
    cases hf : fnd (fun i => !(finSeg L (i * 20) 20)) 20 0 with
    | some t => rfl
    | none =>
      exfalso
      have : kfin o L = true := all2_iff.2 fun i j hi hj => by
        have h1 := fnd_none hf i (by omega) (by omega)
        exact (finSeg_iff h (by omega)).1 (by simpa using h1) j hj
      rw [this] at hk
      cases hk
theorem toldT (o : FO) {L : List (AV o)} (h : tS 400 L = true) : okS 400 (toldR o L) = true := by
  unfold toldR
  cases kfin o L
  · exact tS_rep 400 _
  · exact h
def words : List Nat := [1059760811, 1064915151, 1068749167, 1073741824, 1077137774, 1081692368, 1084926635, 1088874419, 1092256885, 1095552205, 1099338101, 1102023316, 1105432121, 1108522698, 1111251700, 1114697969, 1117365731, 1120107914, 1123565072, 1125998049]
theorem fw0 : m54_0 ieee (0 : Int) = (toW .f32 1059760811 : ieee.S) := by kernel_rfl
theorem fa0 : m64_ok ieee (0 : Int) = true ∧ m54_ok ieee (0 : Int) = true ∧ m66_ok ieee (0 : Int) = true ∧ m56_ok ieee (0 : Int) = true ∧ m66_0 ieee (0 : Int) = m64_0 ieee (0 : Int) ∧ m56_0 ieee (0 : Int) = m54_0 ieee (0 : Int) := ⟨by kernel_rfl, by kernel_rfl, by kernel_rfl, by kernel_rfl, by kernel_rfl, by kernel_rfl⟩
theorem fw1 : m54_0 ieee (1 : Int) = (toW .f32 1064915151 : ieee.S) := by kernel_rfl
theorem fa1 : m64_ok ieee (1 : Int) = true ∧ m54_ok ieee (1 : Int) = true ∧ m66_ok ieee (1 : Int) = true ∧ m56_ok ieee (1 : Int) = true ∧ m66_0 ieee (1 : Int) = m64_0 ieee (1 : Int) ∧ m56_0 ieee (1 : Int) = m54_0 ieee (1 : Int) := ⟨by kernel_rfl, by kernel_rfl, by kernel_rfl, by kernel_rfl, by kernel_rfl, by kernel_rfl⟩
theorem fw2 : m54_0 ieee (2 : Int) = (toW .f32 1068749167 : ieee.S) := by kernel_rfl
theorem fa2 : m64_ok ieee (2 : Int) = true ∧ m54_ok ieee (2 : Int) = true ∧ m66_ok ieee (2 : Int) = true ∧ m56_ok ieee (2 : Int) = true ∧ m66_0 ieee (2 : Int) = m64_0 ieee (2 : Int) ∧ m56_0 ieee (2 : Int) = m54_0 ieee (2 : Int) := ⟨by kernel_rfl, by kernel_rfl, by kernel_rfl, by kernel_rfl, by kernel_rfl, by kernel_rfl⟩
theorem fw3 : m54_0 ieee (3 : Int) = (toW .f32 1073741824 : ieee.S) := by kernel_rfl
theorem fa3 : m64_ok ieee (3 : Int) = true ∧ m54_ok ieee (3 : Int) = true ∧ m66_ok ieee (3 : Int) = true ∧ m56_ok ieee (3 : Int) = true ∧ m66_0 ieee (3 : Int) = m64_0 ieee (3 : Int) ∧ m56_0 ieee (3 : Int) = m54_0 ieee (3 : Int) := ⟨by kernel_rfl, by kernel_rfl, by kernel_rfl, by kernel_rfl, by kernel_rfl, by kernel_rfl⟩
theorem fw4 : m54_0 ieee (4 : Int) = (toW .f32 1077137774 : ieee.S) := by kernel_rfl
theorem fa4 : m64_ok ieee (4 : Int) = true ∧ m54_ok ieee (4 : Int) = true ∧ m66_ok ieee (4 : Int) = true ∧ m56_ok ieee (4 : Int) = true ∧ m66_0 ieee (4 : Int) = m64_0 ieee (4 : Int) ∧ m56_0 ieee (4 : Int) = m54_0 ieee (4 : Int) := ⟨by kernel_rfl, by kernel_rfl, by kernel_rfl, by kernel_rfl, by kernel_rfl, by kernel_rfl⟩
theorem fw5 : m54_0 ieee (5 : Int) = (toW .f32 1081692368 : ieee.S) := by kernel_rfl
theorem fa5 : m64_ok ieee (5 : Int) = true ∧ m54_ok ieee (5 : Int) = true ∧ m66_ok ieee (5 : Int) = true ∧ m56_ok ieee (5 : Int) = true ∧ m66_0 ieee (5 : Int) = m64_0 ieee (5 : Int) ∧ m56_0 ieee (5 : Int) = m54_0 ieee (5 : Int) := ⟨by kernel_rfl, by kernel_rfl, by kernel_rfl, by kernel_rfl, by kernel_rfl, by kernel_rfl⟩
theorem fw6 : m54_0 ieee (6 : Int) = (toW .f32 1084926635 : ieee.S) := by kernel_rfl
theorem fa6 : m64_ok ieee (6 : Int) = true ∧ m54_ok ieee (6 : Int) = true ∧ m66_ok ieee (6 : Int) = true ∧ m56_ok ieee (6 : Int) = true ∧ m66_0 ieee (6 : Int) = m64_0 ieee (6 : Int) ∧ m56_0 ieee (6 : Int) = m54_0 ieee (6 : Int) := ⟨by kernel_rfl, by kernel_rfl, by kernel_rfl, by kernel_rfl, by kernel_rfl, by kernel_rfl⟩
theorem fw7 : m54_0 ieee (7 : Int) = (toW .f32 1088874419 : ieee.S) := by kernel_rfl
theorem fa7 : m64_ok ieee (7 : Int) = true ∧ m54_ok ieee (7 : Int) = true ∧ m66_ok ieee (7 : Int) = true ∧ m56_ok ieee (7 : Int) = true ∧ m66_0 ieee (7 : Int) = m64_0 ieee (7 : Int) ∧ m56_0 ieee (7 : Int) = m54_0 ieee (7 : Int) := ⟨by kernel_rfl, by kernel_rfl, by kernel_rfl, by kernel_rfl, by kernel_rfl, by kernel_rfl⟩
theorem fw8 : m54_0 ieee (8 : Int) = (toW .f32 1092256885 : ieee.S) := by kernel_rfl
theorem fa8 : m64_ok ieee (8 : Int) = true ∧ m54_ok ieee (8 : Int) = true ∧ m66_ok ieee (8 : Int) = true ∧ m56_ok ieee (8 : Int) = true ∧ m66_0 ieee (8 : Int) = m64_0 ieee (8 : Int) ∧ m56_0 ieee (8 : Int) = m54_0 ieee (8 : Int) := ⟨by kernel_rfl, by kernel_rfl, by kernel_rfl, by kernel_rfl, by kernel_rfl, by kernel_rfl⟩
theorem fw9 : m54_0 ieee (9 : Int) = (toW .f32 1095552205 : ieee.S) := by kernel_rfl
theorem fa9 : m64_ok ieee (9 : Int) = true ∧ m54_ok ieee (9 : Int) = true ∧ m66_ok ieee (9 : Int) = true ∧ m56_ok ieee (9 : Int) = true ∧ m66_0 ieee (9 : Int) = m64_0 ieee (9 : Int) ∧ m56_0 ieee (9 : Int) = m54_0 ieee (9 : Int) := ⟨by kernel_rfl, by kernel_rfl, by kernel_rfl, by kernel_rfl, by kernel_rfl, by kernel_rfl⟩
theorem fw10 : m54_0 ieee (10 : Int) = (toW .f32 1099338101 : ieee.S) := by kernel_rfl
theorem fa10 : m64_ok ieee (10 : Int) = true ∧ m54_ok ieee (10 : Int) = true ∧ m66_ok ieee (10 : Int) = true ∧ m56_ok ieee (10 : Int) = true ∧ m66_0 ieee (10 : Int) = m64_0 ieee (10 : Int) ∧ m56_0 ieee (10 : Int) = m54_0 ieee (10 : Int) := ⟨by kernel_rfl, by kernel_rfl, by kernel_rfl, by kernel_rfl, by kernel_rfl, by kernel_rfl⟩
theorem fw11 : m54_0 ieee (11 : Int) = (toW .f32 1102023316 : ieee.S) := by kernel_rfl
theorem fa11 : m64_ok ieee (11 : Int) = true ∧ m54_ok ieee (11 : Int) = true ∧ m66_ok ieee (11 : Int) = true ∧ m56_ok ieee (11 : Int) = true ∧ m66_0 ieee (11 : Int) = m64_0 ieee (11 : Int) ∧ m56_0 ieee (11 : Int) = m54_0 ieee (11 : Int) := ⟨by kernel_rfl, by kernel_rfl, by kernel_rfl, by kernel_rfl, by kernel_rfl, by kernel_rfl⟩
theorem fw12 : m54_0 ieee (12 : Int) = (toW .f32 1105432121 : ieee.S) := by kernel_rfl
theorem fa12 : m64_ok ieee (12 : Int) = true ∧ m54_ok ieee (12 : Int) = true ∧ m66_ok ieee (12 : Int) = true ∧ m56_ok ieee (12 : Int) = true ∧ m66_0 ieee (12 : Int) = m64_0 ieee (12 : Int) ∧ m56_0 ieee (12 : Int) = m54_0 ieee (12 : Int) := ⟨by kernel_rfl, by kernel_rfl, by kernel_rfl, by kernel_rfl, by kernel_rfl, by kernel_rfl⟩
theorem fw13 : m54_0 ieee (13 : Int) = (toW .f32 1108522698 : ieee.S) := by kernel_rfl
theorem fa13 : m64_ok ieee (13 : Int) = true ∧ m54_ok ieee (13 : Int) = true ∧ m66_ok ieee (13 : Int) = true ∧ m56_ok ieee (13 : Int) = true ∧ m66_0 ieee (13 : Int) = m64_0 ieee (13 : Int) ∧ m56_0 ieee (13 : Int) = m54_0 ieee (13 : Int) := ⟨by kernel_rfl, by kernel_rfl, by kernel_rfl, by kernel_rfl, by kernel_rfl, by kernel_rfl⟩
theorem fw14 : m54_0 ieee (14 : Int) = (toW .f32 1111251700 : ieee.S) := by kernel_rfl
theorem fa14 : m64_ok ieee (14 : Int) = true ∧ m54_ok ieee (14 : Int) = true ∧ m66_ok ieee (14 : Int) = true ∧ m56_ok ieee (14 : Int) = true ∧ m66_0 ieee (14 : Int) = m64_0 ieee (14 : Int) ∧ m56_0 ieee (14 : Int) = m54_0 ieee (14 : Int) := ⟨by kernel_rfl, by kernel_rfl, by kernel_rfl, by kernel_rfl, by kernel_rfl, by kernel_rfl⟩
theorem fw15 : m54_0 ieee (15 : Int) = (toW .f32 1114697969 : ieee.S) := by kernel_rfl
theorem fa15 : m64_ok ieee (15 : Int) = true ∧ m54_ok ieee (15 : Int) = true ∧ m66_ok ieee (15 : Int) = true ∧ m56_ok ieee (15 : Int) = true ∧ m66_0 ieee (15 : Int) = m64_0 ieee (15 : Int) ∧ m56_0 ieee (15 : Int) = m54_0 ieee (15 : Int) := ⟨by kernel_rfl, by kernel_rfl, by kernel_rfl, by kernel_rfl, by kernel_rfl, by kernel_rfl⟩
theorem fw16 : m54_0 ieee (16 : Int) = (toW .f32 1117365731 : ieee.S) := by kernel_rfl
theorem fa16 : m64_ok ieee (16 : Int) = true ∧ m54_ok ieee (16 : Int) = true ∧ m66_ok ieee (16 : Int) = true ∧ m56_ok ieee (16 : Int) = true ∧ m66_0 ieee (16 : Int) = m64_0 ieee (16 : Int) ∧ m56_0 ieee (16 : Int) = m54_0 ieee (16 : Int) := ⟨by kernel_rfl, by kernel_rfl, by kernel_rfl, by kernel_rfl, by kernel_rfl, by kernel_rfl⟩
theorem fw17 : m54_0 ieee (17 : Int) = (toW .f32 1120107914 : ieee.S) := by kernel_rfl
theorem fa17 : m64_ok ieee (17 : Int) = true ∧ m54_ok ieee (17 : Int) = true ∧ m66_ok ieee (17 : Int) = true ∧ m56_ok ieee (17 : Int) = true ∧ m66_0 ieee (17 : Int) = m64_0 ieee (17 : Int) ∧ m56_0 ieee (17 : Int) = m54_0 ieee (17 : Int) := ⟨by kernel_rfl, by kernel_rfl, by kernel_rfl, by kernel_rfl, by kernel_rfl, by kernel_rfl⟩
theorem fw18 : m54_0 ieee (18 : Int) = (toW .f32 1123565072 : ieee.S) := by kernel_rfl
theorem fa18 : m64_ok ieee (18 : Int) = true ∧ m54_ok ieee (18 : Int) = true ∧ m66_ok ieee (18 : Int) = true ∧ m56_ok ieee (18 : Int) = true ∧ m66_0 ieee (18 : Int) = m64_0 ieee (18 : Int) ∧ m56_0 ieee (18 : Int) = m54_0 ieee (18 : Int) := ⟨by kernel_rfl, by kernel_rfl, by kernel_rfl, by kernel_rfl, by kernel_rfl, by kernel_rfl⟩
theorem fw19 : m54_0 ieee (19 : Int) = (toW .f32 1125998049 : ieee.S) := by kernel_rfl
theorem fa19 : m64_ok ieee (19 : Int) = true ∧ m54_ok ieee (19 : Int) = true ∧ m66_ok ieee (19 : Int) = true ∧ m56_ok ieee (19 : Int) = true ∧ m66_0 ieee (19 : Int) = m64_0 ieee (19 : Int) ∧ m56_0 ieee (19 : Int) = m54_0 ieee (19 : Int) := ⟨by kernel_rfl, by kernel_rfl, by kernel_rfl, by kernel_rfl, by kernel_rfl, by kernel_rfl⟩
theorem facts {i : Nat} (h : i < 20) : m64_ok ieee ((i : Nat) : Int) = true ∧ m54_ok ieee ((i : Nat) : Int) = true ∧ m66_ok ieee ((i : Nat) : Int) = true ∧ m56_ok ieee ((i : Nat) : Int) = true ∧ m66_0 ieee ((i : Nat) : Int) = m64_0 ieee ((i : Nat) : Int) ∧ m56_0 ieee ((i : Nat) : Int) = m54_0 ieee ((i : Nat) : Int) := by
  have h' : i = 0 ∨ i = 1 ∨ i = 2 ∨ i = 3 ∨ i = 4 ∨ i = 5 ∨ i = 6 ∨ i = 7 ∨ i = 8 ∨ i = 9 ∨ i = 10 ∨ i = 11 ∨ i = 12 ∨ i = 13 ∨ i = 14 ∨ i = 15 ∨ i = 16 ∨ i = 17 ∨ i = 18 ∨ i = 19 := by omega
  rcases h' with rfl | rfl | rfl | rfl | rfl | rfl | rfl | rfl | rfl | rfl | rfl | rfl | rfl | rfl | rfl | rfl | rfl | rfl | rfl | rfl
  · exact fa0
  · exact fa1
  · exact fa2
  · exact fa3
  · exact fa4
  · exact fa5
  · exact fa6
  · exact fa7
  · exact fa8
  · exact fa9
  · exact fa10
  · exact fa11
  · exact fa12
  · exact fa13
  · exact fa14
  · exact fa15
  · exact fa16
  · exact fa17
  · exact fa18
  · exact fa19
theorem fword {i : Nat} (h : i < 20) : m54_0 ieee ((i : Nat) : Int) = (toW .f32 (words.getD i 0) : ieee.S) := by
  have h' : i = 0 ∨ i = 1 ∨ i = 2 ∨ i = 3 ∨ i = 4 ∨ i = 5 ∨ i = 6 ∨ i = 7 ∨ i = 8 ∨ i = 9 ∨ i = 10 ∨ i = 11 ∨ i = 12 ∨ i = 13 ∨ i = 14 ∨ i = 15 ∨ i = 16 ∨ i = 17 ∨ i = 18 ∨ i = 19 := by omega
  rcases h' with rfl | rfl | rfl | rfl | rfl | rfl | rfl | rfl | rfl | rfl | rfl | rfl | rfl | rfl | rfl | rfl | rfl | rfl | rfl | rfl
  · exact fw0
  · exact fw1
  · exact fw2
  · exact fw3
  · exact fw4
  · exact fw5
  · exact fw6
  · exact fw7
  · exact fw8
  · exact fw9
  · exact fw10
  · exact fw11
  · exact fw12
  · exact fw13
  · exact fw14
  · exact fw15
  · exact fw16
  · exact fw17
  · exact fw18
  · exact fw19
noncomputable def chk (u w : Nat) : Bool := m65_ok ieee (ieee.ssub (toW .f32 u : ieee.S) (toW .f32 w : ieee.S)) && Nat.beq (m65_0 ieee (ieee.ssub (toW .f32 u : ieee.S) (toW .f32 w : ieee.S))).1 (bif ieee.slt (ieee.ssub (toW .f32 u : ieee.S) (toW .f32 w : ieee.S)) (ieee.slit 0) then ieee.sneg (ieee.ssub (toW .f32 u : ieee.S) (toW .f32 w : ieee.S)) else ieee.ssub (toW .f32 u : ieee.S) (toW .f32 w : ieee.S)).1
theorem chks : (words.all fun u => words.all fun w => chk u w) = true := by kernel_rfl
noncomputable def gap (i j : Nat) : ieee.S := ieee.ssub (m54_0 ieee ((i : Nat) : Int)) (m54_0 ieee ((j : Nat) : Int))
theorem absd {i j : Nat} (hi : i < 20) (hj : j < 20) : m65_ok ieee (gap i j) = true ∧ m65_0 ieee (gap i j) = bif ieee.slt (gap i j) (ieee.slit 0) then ieee.sneg (gap i j) else gap i j := by
  have hl : words.length = 20 := rfl
  have m1 : words.getD i 0 ∈ words := by
    rw [List.getD, List.getElem?_eq_getElem (by omega)]
    exact List.getElem_mem _
  have m2 : words.getD j 0 ∈ words := by
    rw [List.getD, List.getElem?_eq_getElem (by omega)]
    exact List.getElem_mem _
  have h := List.all_eq_true.1 (List.all_eq_true.1 chks _ m1) _ m2
  unfold gap
  rw [fword hi, fword hj]
  unfold chk at h
  rw [Bool.and_eq_true] at h
  exact ⟨h.1, Wd.eq (k := .f32) (Nat.eq_of_beq_eq_true h.2)⟩
theorem lp24 {x : ieee.S} {M : List (AV ieee)} {c : Int}  (hM : tS 400 M = true) (e : toldR ieee (updS 400 (List.replicate 400 (.f32 (ieee.slit 0)) : List (AV ieee)) (fun t => ieee.smul (ieee.smul x (ieee.smul (ieee.sadd (m64_0 ieee ((t / 20 : Nat) : Int)) (m64_0 ieee ((t % 20 : Nat) : Int))) (ieee.sadd (m64_0 ieee ((t / 20 : Nat) : Int)) (m64_0 ieee ((t % 20 : Nat) : Int))))) (m65_0 ieee (gap (t / 20) (t % 20)))) 400) = some (.tup [.agg M, .int .i64 c], [])) : iter (f24_L0 ieee 4096) 4096 (x, (0 : Int), (List.replicate 400 (.f32 (ieee.slit 0)) : List (AV ieee)), (List.replicate 400 (.f32 (ieee.slit 0)) : List (AV ieee))) = some (.tup [.agg M, .int .i64 c], []) := by
  have hz : tS 400 (List.replicate 400 (.f32 (ieee.slit 0)) : List (AV ieee)) = true := tS_rep 400 _
  have hu := fun t => tS_updS 400 (List.replicate 400 (.f32 (ieee.slit 0)) : List (AV ieee)) (fun t => ieee.smul (ieee.smul x (ieee.smul (ieee.sadd (m64_0 ieee ((t / 20 : Nat) : Int)) (m64_0 ieee ((t % 20 : Nat) : Int))) (ieee.sadd (m64_0 ieee ((t / 20 : Nat) : Int)) (m64_0 ieee ((t % 20 : Nat) : Int))))) (m65_0 ieee (gap (t / 20) (t % 20)))) t
  have := iter2_up (N := 4096) (by omega) (f24_L0 ieee 4096) (f24_L1 ieee 4096) (fun i => (x, ((i : Nat) : Int), (List.replicate 400 (.f32 (ieee.slit 0)) : List (AV ieee)), updS 400 (List.replicate 400 (.f32 (ieee.slit 0)) : List (AV ieee)) (fun t => ieee.smul (ieee.smul x (ieee.smul (ieee.sadd (m64_0 ieee ((t / 20 : Nat) : Int)) (m64_0 ieee ((t % 20 : Nat) : Int))) (ieee.sadd (m64_0 ieee ((t / 20 : Nat) : Int)) (m64_0 ieee ((t % 20 : Nat) : Int))))) (m65_0 ieee (gap (t / 20) (t % 20)))) (i * 20))) (fun i j => (x, ((i : Nat) : Int), ((j : Nat) : Int), (List.replicate 400 (.f32 (ieee.slit 0)) : List (AV ieee)), updS 400 (List.replicate 400 (.f32 (ieee.slit 0)) : List (AV ieee)) (fun t => ieee.smul (ieee.smul x (ieee.smul (ieee.sadd (m64_0 ieee ((t / 20 : Nat) : Int)) (m64_0 ieee ((t % 20 : Nat) : Int))) (ieee.sadd (m64_0 ieee ((t / 20 : Nat) : Int)) (m64_0 ieee ((t % 20 : Nat) : Int))))) (m65_0 ieee (gap (t / 20) (t % 20)))) (i * 20 + j))) (some (.tup [.agg M, .int .i64 c], []))
    (fun i hi s0 => by
      unfold f24_L0
      rw [dl20 hi, cond_true]
      rfl) (fun i j hi hj s0 s1 => by
      have hs := updS_set (L := (List.replicate 400 (.f32 (ieee.slit 0)) : List (AV ieee))) (g := fun t => ieee.smul (ieee.smul x (ieee.smul (ieee.sadd (m64_0 ieee ((t / 20 : Nat) : Int)) (m64_0 ieee ((t % 20 : Nat) : Int))) (ieee.sadd (m64_0 ieee ((t / 20 : Nat) : Int)) (m64_0 ieee ((t % 20 : Nat) : Int))))) (m65_0 ieee (gap (t / 20) (t % 20)))) (t := i * 20 + j) (n := 400) (by omega)
      have d1 : (i * 20 + j) / 20 = i := by omega
      have d2 : (i * 20 + j) % 20 = j := by omega
      
      unfold f24_L1
      simp (disch := omega) only [dl20, dn20, dlt, dnl, dge, wrS, Int.toNat_natCast, Nat.zero_add, Nat.add_zero, Nat.mul_one, Bool.and_true, Bool.true_and, Bool.and_self, gd_true, cond_true, cond_false, rdS_t (hu (i * 20 + j)), updS_here, wrS_t (hu (i * 20 + j)), (facts hi).1, (facts hj).1, (facts hi).2.1, (facts hj).2.1, (absd hi hj).1, show ieee.ssub (m54_0 ieee ((i : Nat) : Int)) (m54_0 ieee ((j : Nat) : Int)) = gap i j from rfl, d1, d2] at hs ⊢
      rw [hs]
      rfl) (fun i hi s0 s1 => by
      unfold f24_L1
      simp (disch := omega) only [dl20, dn20, dlt, dnl, dge, wrS, Int.toNat_natCast, Nat.zero_add, Nat.add_zero, Nat.mul_one, Bool.and_true, Bool.true_and, Bool.and_self, gd_true, cond_true, cond_false, Nat.succ_mul]) (fun s0 => by
      unfold f24_L0
      simp (disch := omega) only [dl20, dn20, dlt, dnl, dge, wrS, Int.toNat_natCast, Nat.zero_add, Nat.add_zero, Nat.mul_one, Bool.and_true, Bool.true_and, Bool.and_self, gd_true, cond_true, cond_false, show 20 * 20 = 400 from rfl, rdA_tS (hu 400), m59_ok, k59, m59_0, g59_0, m59_1, g59_1, told59 ieee (hu 400), e, wrA_tS hz hM, rdA_tS hM])
  rw [show (0 : Nat) * 20 = 0 from rfl, updS_0 hz] at this
  exact this
noncomputable def radii : List A := updS 20 (List.replicate 20 (.f32 (ieee.slit 0)) : List A) (fun i => m64_0 ieee ((i : Nat) : Int)) 20
noncomputable def falls : List A := updS 20 (List.replicate 20 (.f32 (ieee.slit 0)) : List A) (fun i => m54_0 ieee ((i : Nat) : Int)) 20
theorem tradii : tS 20 radii = true := tS_updS _ _ _ _
theorem tfalls : tS 20 falls = true := tS_updS _ _ _ _
theorem closG (o : FO) {R Q : List (AV o)} (hR : tS 20 R = true) (hQ : tS 20 Q = true) {i j : Nat} (hi : i < 20) (hj : j < 20) (x : o.S) : m67_ok o ((i : Nat) : Int) ((j : Nat) : Int) R Q x = true ∧ m67_0 o ((i : Nat) : Int) ((j : Nat) : Int) R Q x =
    o.smul (o.smul x (o.smul (o.sadd (lkS R i) (lkS R j)) (o.sadd (lkS R i) (lkS R j)))) (bif o.slt (o.ssub (lkS Q i) (lkS Q j)) (o.slit 0) then o.sneg (o.ssub (lkS Q i) (lkS Q j)) else o.ssub (lkS Q i) (lkS Q j)) := by
  unfold m67_ok m67_0 f67
  simp (disch := omega) only [dl20, dn20, dlt, dnl, dge, wrS, Int.toNat_natCast, Nat.zero_add, Nat.add_zero, Nat.mul_one, Bool.and_true, Bool.true_and, Bool.and_self, gd_true, cond_true, cond_false, rdS_t hR, rdS_t hQ]
  cases o.slt (o.ssub (lkS Q i) (lkS Q j)) (o.slit 0) <;> exact ⟨rfl, rfl⟩
theorem clos {i j : Nat} (hi : i < 20) (hj : j < 20) (x : ieee.S) : m67_ok ieee ((i : Nat) : Int) ((j : Nat) : Int) radii falls x = true ∧ m67_0 ieee ((i : Nat) : Int) ((j : Nat) : Int) radii falls x = ieee.smul (ieee.smul x (ieee.smul (ieee.sadd (m64_0 ieee ((i : Nat) : Int)) (m64_0 ieee ((j : Nat) : Int))) (ieee.sadd (m64_0 ieee ((i : Nat) : Int)) (m64_0 ieee ((j : Nat) : Int))))) (m65_0 ieee (gap i j)) := by
  have e1 : ∀ {s : Nat}, s < 20 → lkS radii s = m64_0 ieee ((s : Nat) : Int) := fun hs => by unfold radii; rw [updS_lk hs, if_pos hs]
  have e2 : ∀ {s : Nat}, s < 20 → lkS falls s = m54_0 ieee ((s : Nat) : Int) := fun hs => by unfold falls; rw [updS_lk hs, if_pos hs]
  have hd := (absd hi hj).2
  have hg := closG ieee tradii tfalls hi hj x
  rw [e1 hi, e1 hj, e2 hi, e2 hj] at hg
  rw [hd]
  unfold gap
  exact hg
theorem lp60 {x : ieee.S} {M : List (AV ieee)} {c : Int}  (hM : tS 400 M = true) (e : toldR ieee (updS 400 (List.replicate 400 (.f32 (ieee.slit 0)) : List (AV ieee)) (fun t => ieee.smul (ieee.smul x (ieee.smul (ieee.sadd (m64_0 ieee ((t / 20 : Nat) : Int)) (m64_0 ieee ((t % 20 : Nat) : Int))) (ieee.sadd (m64_0 ieee ((t / 20 : Nat) : Int)) (m64_0 ieee ((t % 20 : Nat) : Int))))) (m65_0 ieee (gap (t / 20) (t % 20)))) 400) = some (.tup [.agg M, .int .i64 c], [])) : iter (f60_L0 ieee 4096) 4096 ((0 : Int), radii, falls, x, (List.replicate 400 (.f32 (ieee.slit 0)) : List (AV ieee)), (List.replicate 400 (.f32 (ieee.slit 0)) : List (AV ieee))) = some (.tup [.agg M, .int .i64 c], [.live false true radii, .live false true falls, .live false true [.f32 x]]) := by
  have hz : tS 400 (List.replicate 400 (.f32 (ieee.slit 0)) : List (AV ieee)) = true := tS_rep 400 _
  have hu := fun t => tS_updS 400 (List.replicate 400 (.f32 (ieee.slit 0)) : List (AV ieee)) (fun t => ieee.smul (ieee.smul x (ieee.smul (ieee.sadd (m64_0 ieee ((t / 20 : Nat) : Int)) (m64_0 ieee ((t % 20 : Nat) : Int))) (ieee.sadd (m64_0 ieee ((t / 20 : Nat) : Int)) (m64_0 ieee ((t % 20 : Nat) : Int))))) (m65_0 ieee (gap (t / 20) (t % 20)))) t
  have := iter2_up (N := 4096) (by omega) (f60_L0 ieee 4096) (f60_L1 ieee 4096) (fun i => (((i : Nat) : Int), radii, falls, x, (List.replicate 400 (.f32 (ieee.slit 0)) : List (AV ieee)), updS 400 (List.replicate 400 (.f32 (ieee.slit 0)) : List (AV ieee)) (fun t => ieee.smul (ieee.smul x (ieee.smul (ieee.sadd (m64_0 ieee ((t / 20 : Nat) : Int)) (m64_0 ieee ((t % 20 : Nat) : Int))) (ieee.sadd (m64_0 ieee ((t / 20 : Nat) : Int)) (m64_0 ieee ((t % 20 : Nat) : Int))))) (m65_0 ieee (gap (t / 20) (t % 20)))) (i * 20))) (fun i j => (((i : Nat) : Int), ((i : Nat) : Int), ((j : Nat) : Int), radii, falls, x, (List.replicate 400 (.f32 (ieee.slit 0)) : List (AV ieee)), updS 400 (List.replicate 400 (.f32 (ieee.slit 0)) : List (AV ieee)) (fun t => ieee.smul (ieee.smul x (ieee.smul (ieee.sadd (m64_0 ieee ((t / 20 : Nat) : Int)) (m64_0 ieee ((t % 20 : Nat) : Int))) (ieee.sadd (m64_0 ieee ((t / 20 : Nat) : Int)) (m64_0 ieee ((t % 20 : Nat) : Int))))) (m65_0 ieee (gap (t / 20) (t % 20)))) (i * 20 + j))) (some (.tup [.agg M, .int .i64 c], [.live false true radii, .live false true falls, .live false true [.f32 x]]))
    (fun i hi s0 => by
      unfold f60_L0
      rw [dl20 hi, cond_true]
      rfl) (fun i j hi hj s0 s1 => by
      have hs := updS_set (L := (List.replicate 400 (.f32 (ieee.slit 0)) : List (AV ieee))) (g := fun t => ieee.smul (ieee.smul x (ieee.smul (ieee.sadd (m64_0 ieee ((t / 20 : Nat) : Int)) (m64_0 ieee ((t % 20 : Nat) : Int))) (ieee.sadd (m64_0 ieee ((t / 20 : Nat) : Int)) (m64_0 ieee ((t % 20 : Nat) : Int))))) (m65_0 ieee (gap (t / 20) (t % 20)))) (t := i * 20 + j) (n := 400) (by omega)
      have d1 : (i * 20 + j) / 20 = i := by omega
      have d2 : (i * 20 + j) % 20 = j := by omega
      
      unfold f60_L1
      simp (disch := omega) only [dl20, dn20, dlt, dnl, dge, wrS, Int.toNat_natCast, Nat.zero_add, Nat.add_zero, Nat.mul_one, Bool.and_true, Bool.true_and, Bool.and_self, gd_true, cond_true, cond_false, rdS_t (hu (i * 20 + j)), updS_here, wrS_t (hu (i * 20 + j)), (clos hi hj x).1, (clos hi hj x).2, d1, d2] at hs ⊢
      rw [hs]
      rfl) (fun i hi s0 s1 => by
      unfold f60_L1
      simp (disch := omega) only [dl20, dn20, dlt, dnl, dge, wrS, Int.toNat_natCast, Nat.zero_add, Nat.add_zero, Nat.mul_one, Bool.and_true, Bool.true_and, Bool.and_self, gd_true, cond_true, cond_false, Nat.succ_mul]) (fun s0 => by
      unfold f60_L0
      simp (disch := omega) only [dl20, dn20, dlt, dnl, dge, wrS, Int.toNat_natCast, Nat.zero_add, Nat.add_zero, Nat.mul_one, Bool.and_true, Bool.true_and, Bool.and_self, gd_true, cond_true, cond_false, show 20 * 20 = 400 from rfl, rdA_tS (hu 400), m71_ok, k71, m71_0, g71_0, m71_1, g71_1, told71 ieee (hu 400), e, wrA_tS hz hM, rdA_tS hM])
  rw [show (0 : Nat) * 20 = 0 from rfl, updS_0 hz] at this
  exact this
theorem main (x : ieee.S) : okS 400 (f24 ieee 4096 x) = true ∧ f25 ieee 4096 x = f24 ieee 4096 x := by
  have hz : tS 400 (List.replicate 400 (.f32 (ieee.slit 0)) : List A) = true := tS_rep 400 _
  have hy : tS 20 (List.replicate 20 (.f32 (ieee.slit 0)) : List A) = true := tS_rep 20 _
  obtain ⟨M, c, e, hM⟩ := okS_get (toldT ieee (tS_updS 400 (List.replicate 400 (.f32 (ieee.slit 0)) : List A) (fun t => ieee.smul (ieee.smul x (ieee.smul (ieee.sadd (m64_0 ieee ((t / 20 : Nat) : Int)) (m64_0 ieee ((t % 20 : Nat) : Int))) (ieee.sadd (m64_0 ieee ((t / 20 : Nat) : Int)) (m64_0 ieee ((t % 20 : Nat) : Int))))) (m65_0 ieee (gap (t / 20) (t % 20)))) 400))
  have l1 := lp24 hM e
  have l2 := lp60 hM e
  have e2 : f60 ieee 4096 x radii falls x = bif !(amtS ieee x) then some (.tup [.agg (List.replicate 400 (.f32 (ieee.slit 0)) : List A), .int .i64 (2 : Int)], [.live false true radii, .live false true falls, .live false true [.f32 x]]) else some (.tup [.agg M, .int .i64 c], [.live false true radii, .live false true falls, .live false true [.f32 x]]) := by
    unfold f60
    simp only [wrA_tS hz hz, rdA_tS hz, l2]
  have e3 : f24 ieee 4096 x = bif !(amtS ieee x) then some (.tup [.agg (List.replicate 400 (.f32 (ieee.slit 0)) : List A), .int .i64 (2 : Int)], []) else some (.tup [.agg M, .int .i64 c], []) := by
    unfold f24
    simp only [wrA_tS hz hz, rdA_tS hz, l1]
  have := iter_up (f25_L0 ieee 4096) (fun i => (((i : Nat) : Int), x, (List.replicate 400 (.f32 (ieee.slit 0)) : List A), updS 20 (List.replicate 20 (.f32 (ieee.slit 0)) : List A) (fun i => m64_0 ieee ((i : Nat) : Int)) i, updS 20 (List.replicate 20 (.f32 (ieee.slit 0)) : List A) (fun i => m54_0 ieee ((i : Nat) : Int)) i)) 20 (bif !(amtS ieee x) then some (.tup [.agg (List.replicate 400 (.f32 (ieee.slit 0)) : List A), .int .i64 (2 : Int)], []) else some (.tup [.agg M, .int .i64 c], [])) 4096 (by omega) (fun i hi s0 => by
    have h1 := updS_set (L := (List.replicate 20 (.f32 (ieee.slit 0)) : List A)) (g := fun i => m64_0 ieee ((i : Nat) : Int)) (t := i) hi
    have h2 := updS_set (L := (List.replicate 20 (.f32 (ieee.slit 0)) : List A)) (g := fun i => m54_0 ieee ((i : Nat) : Int)) (t := i) hi
    have h3 := wrS_t (tS_updS 20 (List.replicate 20 (.f32 (ieee.slit 0)) : List A) (fun i => m64_0 ieee ((i : Nat) : Int)) i) hi
    have h4 := wrS_t (tS_updS 20 (List.replicate 20 (.f32 (ieee.slit 0)) : List A) (fun i => m54_0 ieee ((i : Nat) : Int)) i) hi
    unfold f25_L0
    simp (disch := omega) only [dl20, dn20, dlt, dnl, dge, wrS, Int.toNat_natCast, Nat.zero_add, Nat.add_zero, Nat.mul_one, Bool.and_true, Bool.true_and, Bool.and_self, gd_true, cond_true, cond_false, (facts hi).2.2.1, (facts hi).2.2.2.1, (facts hi).2.2.2.2.1, (facts hi).2.2.2.2.2, h3, h4, h1, h2]) (fun s0 => by
    unfold f25_L0
    have e2' : f60 ieee 4096 x (updS 20 (List.replicate 20 (.f32 (ieee.slit 0)) : List A) (fun i => m64_0 ieee ((i : Nat) : Int)) 20) (updS 20 (List.replicate 20 (.f32 (ieee.slit 0)) : List A) (fun i => m54_0 ieee ((i : Nat) : Int)) 20) x = _ := e2
    simp (disch := omega) only [dl20, dn20, dlt, dnl, dge, wrS, Int.toNat_natCast, Nat.zero_add, Nat.add_zero, Nat.mul_one, Bool.and_true, Bool.true_and, Bool.and_self, gd_true, cond_true, cond_false, m60_ok, k60, m60_0, g60_0, m60_1, g60_1, e2']
    cases amtS ieee x
    · simp only [Bool.not_false, cond_true, gd_true, wrA_tS hz hz, rdA_tS hz]
    · simp only [Bool.not_true, cond_false, gd_true, wrA_tS hz hM, rdA_tS hM])
  have e4 : f25 ieee 4096 x = bif !(amtS ieee x) then some (.tup [.agg (List.replicate 400 (.f32 (ieee.slit 0)) : List A), .int .i64 (2 : Int)], []) else some (.tup [.agg M, .int .i64 c], []) := by
    unfold f25
    simp only [updS_0 hy] at this
    simp only [wrA_tS hy hy]
    exact this
  rw [e3, e4]
  cases amtS ieee x
  · exact ⟨hz, rfl⟩
  · exact ⟨hM, rfl⟩
theorem law_true  (x : ieee.S)  : f6 ieee x = some (.bool true, []) := by
  have hm := main  x
  obtain ⟨M, c, e, hM⟩ := okS_get hm.1
  have e2 := hm.2.trans e
  have hz : tS 400 (List.replicate 400 (.f32 (ieee.slit 0)) : List A) = true := tS_rep 400 _
  unfold f6
  simp only [m24_ok, k24, m24_0, g24_0, m24_1, g24_1, m25_ok, k25, m25_0, g25_0, m25_1, g25_1, e, e2, wrA_tS hz hM, rdA_tS hM, gd_true, eqkOk ieee hM, eqk0 ieee hM, bne_self_eq_false, cond_false, cond_true]

theorem own : ownKnob Try.prog.godebug = none := by kernel_rfl
theorem laidOut : laidOutB Try.prog = true := by kernel_rfl
set_option maxRecDepth 100000 in
theorem lifted (os : Os) (started : os.Started) (H : Type) (enc : TypeId × Value → H) :
    ReturnsInHanded {} Try.checked os 6 .any (Rows.fnExactFallKernelSpec.pre6 enc Try.prog Try.f6 Rows.fnExactFallKernelRow.domain false) (Rows.fnExactFallKernelSpec.post enc Try.prog Try.f6 false true false false) := by
  refine returnsInHanded_of_change (C := Try.checked) own started (by kernel_rfl) Try.func6
    (ChangeSpec.witness6 (enc := enc) (C := Try.checked) false ⟨#[], #[.float .f32 0], []⟩ 8 (by kernel_rfl) (by kernel_rfl) (by kernel_rfl) (by kernel_rfl)) ?_
  intro W base args ds gs before hval0 hW hcnd _
  have hval : ∀ (j : Nat) t v, Try.f6.params[j]? = some t → args[j]? = some v → Value.okWide Try.prog W .any base t v := hval0
  have hW' := hW
  obtain ⟨p, q, hA0, hV, rfl, hfz, hnd⟩ := hW
  have hA : DataW.TrodAll enc Try.prog W 0 (fun _ => true) true Try.f6.params.toList args.toList ds p := hA0
  have hA1 := hA
  rw [Try.params6] at hA hval
  obtain ⟨v0, vs0, d0, ds0, p0, q0, hargs, rfl, rfl, h0, r0'⟩ := trodAll_cons hA
  obtain ⟨rfl, rfl, rfl⟩ := trodAll_nil r0'
  obtain rfl : args = #[v0] := by cases args; simp_all
  obtain ⟨rfl, rfl⟩ := trodVars_none hV
  obtain ⟨x0, r0⟩ := okW_f32 (by kernel_rfl) (hval 0 33 v0 rfl rfl)
  clear hA0 hval0
  have hx := (eq6 ieee 4096 x0).trans (law_true x0)
  refine (law_calls0 (cok6 4096 (Nat.le_refl _)) (is6 4096) hx (L2.cons (r0 _) (L2.nil _))).mono fun e W' ⟨he, bel⟩ => ?_
  subst he
  exact ⟨_, rfl, _, _, _, [], _, [], hW', trodAll_mk1 (shut_bool (by kernel_rfl) _), trodAll_stays laidOut bel (by kernel_rfl) hA1, rfl, bel.frame _, fun h => by cases h⟩

/-- The statement. -/
theorem proved : Rows.FnExactFallKernelSaid :=
  OpenClaim.holds_of_wide 6 Try.f6 rfl rfl rfl rfl rfl rfl rfl ⟨rfl, rfl, rfl, rfl, rfl⟩ rfl rfl rfl rfl rfl (by kernel_rfl) Try.func6 (by kernel_rfl)
    (of_decide_eq_true (by kernel_rfl)) (by unfold Func.isWrapper; first | (rw [if_pos (by decide +kernel)]; kernel_rfl) | (rw [if_neg (by decide +kernel)]; exact ⟨rfl, rfl⟩))
    (fun os started H enc _ => lifted os started H enc)
end Go.Proofs.Ytbmakfcooonogaa.fnExactFallKernel
