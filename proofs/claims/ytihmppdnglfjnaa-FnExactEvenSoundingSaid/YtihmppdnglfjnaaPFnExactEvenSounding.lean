/- FnExactEvenSounding returns true for all arguments. Conditions: none. -/
import Derived.Test.YtihmppdnglfjnaaRows
import Derived.Test.YtihmppdnglfjnaaG1
set_option linter.unusedVariables false
set_option linter.unusedSimpArgs false
set_option maxRecDepth 100000
namespace Go.Proofs.Ytihmppdnglfjnaa.fnExactEvenSounding
open Go.Ab Go.RowKit Go.ChangeShapes Go.WideShapes Go.ChangeAt
theorem air (o : FO) {m off : Nat} {L : List (AV o)} (h : tS m L = true) (hi : off + 1 < m) : f67 o off L = some (.bool (m69_0 o (lkS L off) (lkS L (off + 1))), [.live false true L]) := by
  unfold f67
  simp (disch := omega) only [dlt, dnl, dge, dpo, dp0, wrS, wrP, wrQ, Int.toNat_natCast, Nat.zero_add, Nat.add_zero, Nat.add_assoc, Nat.reduceAdd, Nat.mul_one, Nat.add_sub_cancel, Bool.and_true, Bool.true_and, Bool.and_self, gd_true, cond_true, cond_false, rdS_t h]
  show _ = some ((.bool (bif m91_0 o (lkS L off) then (bif amtS o (lkS L (off + 1)) then o.sle (lkS L (off + 1)) (o.slit 1148846080) else false) else false) : AV o), _)
  cases m91_0 o (lkS L off) <;> cases amtS o (lkS L (off + 1)) <;> cases o.sle (lkS L (off + 1)) (o.slit 1148846080) <;> rfl
noncomputable def bad (o : FO) (L : List (AV o)) (i : Nat) : Bool :=
  !(m49_0 o (lkS L (i * 3)) (lkS L (i * 3 + 1)) (lkS L (i * 3 + 2)) && (bif Nat.blt 0 i then o.slt (lkS L ((i - 1) * 3)) (lkS L (i * 3)) else true))
noncomputable def vald (o : FO) (n : Nat) (L : List (AV o)) : Bool := (fnd (bad o L) n 0).isNone && m60_0 o ((n : Nat) : Int) (2 : Int) (32 : Int)
theorem vald_le (o : FO) {n : Nat} {L : List (AV o)} (h : vald o n L = true) : 2 ≤ n ∧ n ≤ 32 := by
  unfold vald at h
  rw [Bool.and_eq_true] at h
  have := h.2
  unfold m60_0 at this
  cases h1 : decide (((n : Nat) : Int) ≥ 2) with
  | false => rw [h1] at this; cases this
  | true =>
    rw [h1] at this
    have h2 := of_decide_eq_true h1
    have h3 : ((n : Nat) : Int) ≤ 32 := of_decide_eq_true this
    omega
theorem vald_bad (o : FO) {n : Nat} {L : List (AV o)} (h : vald o n L = true) {i : Nat} (hi : i < n) : bad o L i = false := by
  unfold vald at h
  rw [Bool.and_eq_true] at h
  exact fnd_none (Option.isNone_iff_eq_none.1 h.1) i (by omega) (by omega)
theorem step58 (o : FO) {n : Nat} {L : List (AV o)} (h : tS (n * 3) L = true) (hn : n ≤ 1048576) (i : Nat) (hi : i < n) (s0) :
    f58_L0 o 2000000 s0 (n, ((i : Nat) : Int), L) = bif bad o L i then some (.bool false, [.live false true L]) else s0 (n, ((i + 1 : Nat) : Int), L) := by
  have ha := air o h (off := i * 3 + 1) (by omega)
  unfold f58_L0 bad m49_0
  rcases Nat.eq_zero_or_pos i with rfl | hp
  · simp (disch := omega) only [dlt, dnl, dge, dpo, dp0, wrS, wrP, wrQ, Int.toNat_natCast, Nat.zero_add, Nat.add_zero, Nat.add_assoc, Nat.reduceAdd, Nat.mul_one, Nat.add_sub_cancel, Bool.and_true, Bool.true_and, Bool.and_self, gd_true, cond_true, cond_false, rdS_t h, Nat.zero_mul, show Nat.blt 0 0 = false from rfl, Nat.add_assoc] at ha ⊢
    try simp only [m67_ok, m67_0, k67, g67_0, ha, gd_true]
    try rw [show m86_0 o (lkS L 0) = m82_0 o (lkS L 0) from rfl]
    cases m82_0 o (lkS L 0) <;> cases m69_0 o (lkS L 1) (lkS L 2) <;> rfl
  · have hb : Nat.blt 0 i = true := by simp [Nat.blt, Nat.ble_eq]; omega
    simp (disch := omega) only [dlt, dnl, dge, dpo, dp0, wrS, wrP, wrQ, Int.toNat_natCast, Nat.zero_add, Nat.add_zero, Nat.add_assoc, Nat.reduceAdd, Nat.mul_one, Nat.add_sub_cancel, Bool.and_true, Bool.true_and, Bool.and_self, gd_true, cond_true, cond_false, rdS_t h, hb, Nat.add_assoc] at ha ⊢
    try simp only [m67_ok, m67_0, k67, g67_0, ha, gd_true]
    try rw [show m86_0 o (lkS L (i * 3)) = m82_0 o (lkS L (i * 3)) from rfl]
    cases m82_0 o (lkS L (i * 3)) <;> cases m69_0 o (lkS L (i * 3 + 1)) (lkS L (i * 3 + 2)) <;> cases o.slt (lkS L ((i - 1) * 3)) (lkS L (i * 3)) <;> rfl
theorem snd58 (o : FO) {n : Nat} {L : List (AV o)} (h : tS (n * 3) L = true) (hn : n ≤ 1048576) : f58 o 2000000 n L = some (.bool (vald o n L), [.live false true L]) := by
  have := iter_find (f58_L0 o 2000000) (fun i => (n, ((i : Nat) : Int), L)) n (bad o L) (fun _ => some (.bool false, [.live false true L])) (some (.bool (m60_0 o ((n : Nat) : Int) (2 : Int) (32 : Int)), [.live false true L]))
    (fun i hi s0 => step58 o h hn i hi s0) (fun s0 => by
      unfold f58_L0
      simp (disch := omega) only [dlt, dnl, dge, dpo, dp0, wrS, wrP, wrQ, Int.toNat_natCast, Nat.zero_add, Nat.add_zero, Nat.add_assoc, Nat.reduceAdd, Nat.mul_one, Nat.add_sub_cancel, Bool.and_true, Bool.true_and, Bool.and_self, gd_true, cond_true, cond_false, rdS_t h]) n 0 2000000 (by omega) (by omega)
  refine Eq.trans this ?_
  unfold vald
  cases fnd (bad o L) n 0 <;> rfl
theorem sndOk58 (o : FO) {n : Nat} {L : List (AV o)} (h : tS (n * 3) L = true) (hn : n ≤ 1048576) : m58_ok o n L = true := by
  unfold m58_ok
  rw [snd58 o h hn]
  rfl
theorem snd058 (o : FO) {n : Nat} {L : List (AV o)} (h : tS (n * 3) L = true) (hn : n ≤ 1048576) : m58_0 o n L = vald o n L := by
  unfold m58_0
  rw [snd58 o h hn]
  rfl
theorem step21 (o : FO) {n : Nat} {L : List (AV o)} (h : tS (n * 3) L = true) (hn : n ≤ 1048576) (i : Nat) (hi : i < n) (s0) :
    f21_L0 o 2000000 s0 (n, n, ((n : Nat) : Int), ((i : Nat) : Int), L) = bif bad o L i then some (.bool false, [.live false true L]) else s0 (n, n, ((n : Nat) : Int), ((i + 1 : Nat) : Int), L) := by
  have ha := air o h (off := i * 3 + 1) (by omega)
  unfold f21_L0 bad m49_0
  rcases Nat.eq_zero_or_pos i with rfl | hp
  · simp (disch := omega) only [dlt, dnl, dge, dpo, dp0, wrS, wrP, wrQ, Int.toNat_natCast, Nat.zero_add, Nat.add_zero, Nat.add_assoc, Nat.reduceAdd, Nat.mul_one, Nat.add_sub_cancel, Bool.and_true, Bool.true_and, Bool.and_self, gd_true, cond_true, cond_false, rdS_t h, Nat.zero_mul, show Nat.blt 0 0 = false from rfl, Nat.add_assoc] at ha ⊢
    try simp only [m67_ok, m67_0, k67, g67_0, ha, gd_true]
    try rw [show m86_0 o (lkS L 0) = m82_0 o (lkS L 0) from rfl]
    cases m82_0 o (lkS L 0) <;> cases m69_0 o (lkS L 1) (lkS L 2) <;> rfl
  · have hb : Nat.blt 0 i = true := by simp [Nat.blt, Nat.ble_eq]; omega
    simp (disch := omega) only [dlt, dnl, dge, dpo, dp0, wrS, wrP, wrQ, Int.toNat_natCast, Nat.zero_add, Nat.add_zero, Nat.add_assoc, Nat.reduceAdd, Nat.mul_one, Nat.add_sub_cancel, Bool.and_true, Bool.true_and, Bool.and_self, gd_true, cond_true, cond_false, rdS_t h, hb, Nat.add_assoc] at ha ⊢
    try simp only [m67_ok, m67_0, k67, g67_0, ha, gd_true]
    try rw [show m86_0 o (lkS L (i * 3)) = m82_0 o (lkS L (i * 3)) from rfl]
    cases m82_0 o (lkS L (i * 3)) <;> cases m69_0 o (lkS L (i * 3 + 1)) (lkS L (i * 3 + 2)) <;> cases o.slt (lkS L ((i - 1) * 3)) (lkS L (i * 3)) <;> rfl
theorem snd21 (o : FO) {n : Nat} {L : List (AV o)} (h : tS (n * 3) L = true) (hn : n ≤ 1048576) : f21 o 2000000 n L = some (.bool (vald o n L), [.live false true L]) := by
  have := iter_find (f21_L0 o 2000000) (fun i => (n, n, ((n : Nat) : Int), ((i : Nat) : Int), L)) n (bad o L) (fun _ => some (.bool false, [.live false true L])) (some (.bool (m59_0 o ((n : Nat) : Int) (2 : Int) (32 : Int)), [.live false true L]))
    (fun i hi s0 => step21 o h hn i hi s0) (fun s0 => by
      unfold f21_L0
      simp (disch := omega) only [dlt, dnl, dge, dpo, dp0, wrS, wrP, wrQ, Int.toNat_natCast, Nat.zero_add, Nat.add_zero, Nat.add_assoc, Nat.reduceAdd, Nat.mul_one, Nat.add_sub_cancel, Bool.and_true, Bool.true_and, Bool.and_self, gd_true, cond_true, cond_false, rdS_t h]) n 0 2000000 (by omega) (by omega)
  refine Eq.trans this ?_
  unfold vald
  cases fnd (bad o L) n 0 <;> rfl
theorem sndOk21 (o : FO) {n : Nat} {L : List (AV o)} (h : tS (n * 3) L = true) (hn : n ≤ 1048576) : m21_ok o n L = true := by
  unfold m21_ok
  rw [snd21 o h hn]
  rfl
theorem snd021 (o : FO) {n : Nat} {L : List (AV o)} (h : tS (n * 3) L = true) (hn : n ≤ 1048576) : m21_0 o n L = vald o n L := by
  unfold m21_0
  rw [snd21 o h hn]
  rfl
theorem same30 (o : FO) (x : o.D) : m30_0 o x x = true := by
  unfold m30_0
  cases h : o.deq x x
  · rfl
  · cases h0 : o.deq x (o.dlit 0)
    · rfl
    · simp
theorem eql (o : FO) (a b c : o.S) : m57_0 o a b c a b c = true := by
  unfold m57_0 m33_0
  simp only [same30]
  rfl
theorem eqls (o : FO) {n : Nat} {L : List (AV o)} (h : tS (n * 3) L = true) (hn : n ≤ 1048576) : f19a o 2000000 n n L L = some (.bool true, [.live false true L, .live false true L]) := by
  unfold f19a
  rw [bne_self_eq_false, cond_false]
  have := iter_up (f19a_L0 o 2000000) (fun i => (n, n, ((i : Nat) : Int), L, L)) n (some (.bool true, [.live false true L, .live false true L])) 2000000 (by omega) (fun i hi s0 => by
    unfold f19a_L0
    simp (disch := omega) only [dlt, dnl, dge, dpo, dp0, wrS, wrP, wrQ, Int.toNat_natCast, Nat.zero_add, Nat.add_zero, Nat.add_assoc, Nat.reduceAdd, Nat.mul_one, Nat.add_sub_cancel, Bool.and_true, Bool.true_and, Bool.and_self, gd_true, cond_true, cond_false, rdS_t h, eql, Bool.not_true]) (fun s0 => by
    unfold f19a_L0
    simp (disch := omega) only [dlt, dnl, dge, dpo, dp0, wrS, wrP, wrQ, Int.toNat_natCast, Nat.zero_add, Nat.add_zero, Nat.add_assoc, Nat.reduceAdd, Nat.mul_one, Nat.add_sub_cancel, Bool.and_true, Bool.true_and, Bool.and_self, gd_true, cond_true, cond_false, rdS_t h])
  exact this
theorem eqlsOk (o : FO) {n : Nat} {L : List (AV o)} (h : tS (n * 3) L = true) (hn : n ≤ 1048576) : m19a_ok o n n L L = true := by
  unfold m19a_ok
  rw [eqls o h hn]
  rfl
theorem eqls0 (o : FO) {n : Nat} {L : List (AV o)} (h : tS (n * 3) L = true) (hn : n ≤ 1048576) : m19a_0 o n n L L = true := by
  unfold m19a_0
  rw [eqls o h hn]
  rfl
theorem sq {k : Nat} (h : k < 200) : ieee.seq (ieee.sofi ((k : Nat) : Int)) (ieee.sofi ((k : Nat) : Int)) = true := by
  have hk : ((List.range 200).all fun k => ieee.seq (ieee.sofi ((k : Nat) : Int)) (ieee.sofi ((k : Nat) : Int))) = true := by kernel_rfl
  exact List.all_eq_true.1 hk k (List.mem_range.2 h)
theorem mark24a (o : FO) {n : Nat} {L : List (AV o)} (h : tS (n * 3) L = true) (hn : n ≤ 1048576) : f24a o 2000000 n (1 : Int) L = some (.int .i64 ((n * 3 + 1 : Nat) : Int), [.live true true (updS (n * 3) L (fun t => o.sofi ((t + 1 : Nat) : Int)) (n * 3))]) := by
  have := iter_up (f24a_L0 o 2000000) (fun i => (n, ((i * 3 + 1 : Nat) : Int), ((i : Nat) : Int), updS (n * 3) L (fun t => o.sofi ((t + 1 : Nat) : Int)) (i * 3))) n (some (.int .i64 ((n * 3 + 1 : Nat) : Int), [.live true true (updS (n * 3) L (fun t => o.sofi ((t + 1 : Nat) : Int)) (n * 3))])) 2000000 (by omega) (fun i hi s0 => by
    have s1 : (updS (n * 3) L (fun t => o.sofi ((t + 1 : Nat) : Int)) (i * 3)).set (i * 3) (.f32 (o.sofi ((i * 3 + 1 : Nat) : Int))) = updS (n * 3) L (fun t => o.sofi ((t + 1 : Nat) : Int)) (i * 3 + 1) := updS_set (by omega)
    have s2 : (updS (n * 3) L (fun t => o.sofi ((t + 1 : Nat) : Int)) (i * 3 + 1)).set (i * 3 + 1) (.f32 (o.sofi ((i * 3 + 1 + 1 : Nat) : Int))) = updS (n * 3) L (fun t => o.sofi ((t + 1 : Nat) : Int)) (i * 3 + 2) := updS_set (by omega)
    have s3 : (updS (n * 3) L (fun t => o.sofi ((t + 1 : Nat) : Int)) (i * 3 + 2)).set (i * 3 + 2) (.f32 (o.sofi ((i * 3 + 2 + 1 : Nat) : Int))) = updS (n * 3) L (fun t => o.sofi ((t + 1 : Nat) : Int)) (i * 3 + 3) := updS_set (by omega)
    have w1 := wrS_t (tS_updS (n * 3) L (fun t => o.sofi ((t + 1 : Nat) : Int)) (i * 3)) (show i * 3 < n * 3 by omega)
    have w2 := wrS_t (tS_updS (n * 3) L (fun t => o.sofi ((t + 1 : Nat) : Int)) (i * 3 + 1)) (show i * 3 + 1 < n * 3 by omega)
    have w3 := wrS_t (tS_updS (n * 3) L (fun t => o.sofi ((t + 1 : Nat) : Int)) (i * 3 + 2)) (show i * 3 + 2 < n * 3 by omega)
    unfold f24a_L0
    simp (disch := omega) only [dlt, dge, wrS, Int.toNat_natCast, Nat.zero_add, Nat.add_zero, Nat.add_assoc, Nat.reduceAdd, Bool.and_self, gd_true, cond_true, w1, w2, w3, Nat.succ_mul] at s1 s2 s3 ⊢
    rw [s1, w2, s2, w3, s3]) (fun s0 => by
    unfold f24a_L0
    simp (disch := omega) only [dnl, cond_false])
  rw [show (0 : Nat) * 3 = 0 from rfl, updS_0 h] at this
  exact this
theorem held25a {n : Nat} {L : List A} (hn : n ≤ 60) : f25a ieee 2000000 n (1 : Int) (updS (n * 3) L (fun t => ieee.sofi ((t + 1 : Nat) : Int)) (n * 3)) = some (.int .i64 ((n * 3 + 1 : Nat) : Int), [.live false true (updS (n * 3) L (fun t => ieee.sofi ((t + 1 : Nat) : Int)) (n * 3))]) := by
  have hM := tS_updS (n * 3) L (fun t => ieee.sofi ((t + 1 : Nat) : Int)) (n * 3)
  have lk : ∀ {t : Nat}, t < n * 3 → lkS (updS (n * 3) L (fun t => ieee.sofi ((t + 1 : Nat) : Int)) (n * 3)) t = ieee.sofi ((t + 1 : Nat) : Int) := fun ht => by rw [updS_lk ht, if_pos ht]
  generalize updS (n * 3) L (fun t => ieee.sofi ((t + 1 : Nat) : Int)) (n * 3) = M at hM lk ⊢
  have := iter_up (f25a_L0 ieee 2000000) (fun i => (n, ((i * 3 + 1 : Nat) : Int), ((i : Nat) : Int), M)) n (some (.int .i64 ((n * 3 + 1 : Nat) : Int), [.live false true M])) 2000000 (by omega) (fun i hi s0 => by
    have k1 := lk (show i * 3 < n * 3 by omega)
    have k2 := lk (show i * 3 + 1 < n * 3 by omega)
    have k3 := lk (show i * 3 + 2 < n * 3 by omega)
    have q1 := sq (k := i * 3 + 1) (by omega)
    have q2 := sq (k := i * 3 + 1 + 1) (by omega)
    have q3 := sq (k := i * 3 + 2 + 1) (by omega)
    unfold f25a_L0
    simp (disch := omega) only [dlt, dge, wrS, Int.toNat_natCast, Nat.zero_add, Nat.add_zero, Nat.add_assoc, Nat.reduceAdd, Bool.and_self, gd_true, cond_true, cond_false, Bool.not_true, rdS_t hM, Nat.succ_mul] at k1 k2 k3 q1 q2 q3 ⊢
    simp only [k1, k2, k3, q1, q2, q3, Bool.not_true, cond_false]) (fun s0 => by
    unfold f25a_L0
    simp (disch := omega) only [dnl, cond_false])
  exact this
theorem markNil (o : FO) : f24 o 2000000 (1 : Int) = some (.int .i64 (1 : Int), []) := by
  unfold f24
  rfl
theorem heldNil (o : FO) : f25 o 2000000 (1 : Int) = some (.int .i64 (1 : Int), []) := by
  unfold f25
  rfl
noncomputable def lvs (o : FO) (t f v : o.S) : Nat → List (AV o)
  | 0 => []
  | i + 1 => lvs o t f v i ++ [.f32 (o.sofi ((i : Nat) : Int)), .f32 (o.ssub t (o.smul f (o.sofi ((i : Nat) : Int)))), .f32 (o.sdiv v (o.sadd (o.slit 1065353216) (o.sofi ((i : Nat) : Int))))]
theorem tS_lvs (o : FO) (t f v : o.S) (i : Nat) : tS (i * 3) (lvs o t f v i) = true := by
  induction i with
  | zero => rfl
  | succ i ih =>
    have hl := tS_len ih
    unfold tS at ih ⊢
    rw [Bool.and_eq_true] at ih ⊢
    refine ⟨?_, ?_⟩
    · show Nat.beq (lvs o t f v i ++ _).length ((i + 1) * 3) = true
      rw [List.length_append, hl, Nat.succ_mul]
      exact Nat.beq_refl _
    · show (lvs o t f v i ++ _).all isF = true
      rw [List.all_append, ih.2]
      rfl
theorem fits {i : Nat} (h : i < 1000) : (Nat.ble (i + 1) 9223372036854775807 && Nat.ble ((i + 1) * 12) 140737488355328) = true := by
  rw [Nat.ble_eq_true_of_le (by omega), Nat.ble_eq_true_of_le (by omega)]
  rfl
theorem takeS (o : FO) (t f v : o.S) (i : Nat) : ((lvs o t f v i).drop 0).take (i * 3) = lvs o t f v i := by
  rw [List.drop_zero, List.take_of_length_le (by rw [tS_len (tS_lvs o t f v i)]; exact Nat.le_refl _)]
theorem bleS (o : FO) (t f v : o.S) (i : Nat) : Nat.ble (i * 3) (lvs o t f v i).length = true := Nat.ble_eq_true_of_le (by rw [tS_len (tS_lvs o t f v i)]; exact Nat.le_refl _)
theorem ev1 (o : FO) (t f v : o.S) {n : Nat} (hn : n ≤ 31) : iter (f22_L0 o 2000000) 2000000 (t, f, v, ((n : Nat) : Int), 0, (0 : Int), []) =
    bif !(vald o n (lvs o t f v n)) then some (.tup [.slice 0 0 0 3, .int .i64 (4 : Int)], [.live true true []]) else some (.tup [.slice 0 0 n 3, .int .i64 (0 : Int)], [.live true true (lvs o t f v n)]) := by
  have hT := tS_lvs o t f v n
  have := iter_up (f22_L0 o 2000000) (fun i => (t, f, v, ((n : Nat) : Int), i, ((i : Nat) : Int), lvs o t f v i)) n (bif !(vald o n (lvs o t f v n)) then some (.tup [.slice 0 0 0 3, .int .i64 (4 : Int)], [.live true true []]) else some (.tup [.slice 0 0 n 3, .int .i64 (0 : Int)], [.live true true (lvs o t f v n)])) 2000000 (by omega) (fun i hi s0 => by
    unfold f22_L0
    simp (disch := omega) only [dlt, wrS, Nat.zero_add, fits, bleS, takeS, gd_true, cond_true]
    rfl) (fun s0 => by
    unfold f22_L0
    simp (disch := omega) only [dnl, cond_false, sndOk58 o hT, snd058 o hT, gd_true])
  exact this
theorem ev2 (o : FO) (t f v : o.S) {n : Nat} (hn : n ≤ 31) : iter (f23_L0 o 2000000) 2000000 (t, f, v, 0, ((n : Nat) : Int), (0 : Int), []) =
    bif !(vald o n (lvs o t f v n)) then some (.tup [.nilslice, .int .i64 (4 : Int)], []) else some (.tup [.slice 0 0 n 3, .int .i64 (0 : Int)], [.live true true (lvs o t f v n)]) := by
  have hT := tS_lvs o t f v n
  have := iter_up (f23_L0 o 2000000) (fun i => (t, f, v, i, ((n : Nat) : Int), ((i : Nat) : Int), lvs o t f v i)) n (bif !(vald o n (lvs o t f v n)) then some (.tup [.nilslice, .int .i64 (4 : Int)], []) else some (.tup [.slice 0 0 n 3, .int .i64 (0 : Int)], [.live true true (lvs o t f v n)])) 2000000 (by omega) (fun i hi s0 => by
    unfold f23_L0
    simp (disch := omega) only [dlt, wrS, Nat.zero_add, fits, bleS, takeS, gd_true, cond_true]
    rfl) (fun s0 => by
    unfold f23_L0
    simp (disch := omega) only [dnl, cond_false, sndOk21 o hT, snd021 o hT, gd_true])
  exact this
theorem both (o : FO) (t f v : o.S) (p : Int) : (∃ c : Int, f22 o 2000000 t f v p = some (.tup [.slice 0 0 0 3, .int .i64 c], [.live true true []]) ∧ f23 o 2000000 t f v p = some (.tup [.nilslice, .int .i64 c], [])) ∨
    ∃ (n : Nat) (L : List (AV o)), n ≤ 31 ∧ tS (n * 3) L = true ∧ f22 o 2000000 t f v p = some (.tup [.slice 0 0 n 3, .int .i64 (0 : Int)], [.live true true L]) ∧ f23 o 2000000 t f v p = some (.tup [.slice 0 0 n 3, .int .i64 (0 : Int)], [.live true true L]) := by
  have hw : m60_0 o p (2 : Int) (31 : Int) = decide (2 ≤ p ∧ p ≤ 31) := by
    unfold m60_0
    by_cases h : p ≥ 2
    · simp [h]
    · simp [h]
  have hw2 : m59_0 o p (2 : Int) (31 : Int) = decide (2 ≤ p ∧ p ≤ 31) := hw
  unfold f22 f23
  rw [hw, hw2]
  by_cases hp : 2 ≤ p ∧ p ≤ 31
  · obtain ⟨n, rfl⟩ : ∃ n : Nat, p = ((n : Nat) : Int) := ⟨p.toNat, by omega⟩
    rw [decide_eq_true hp, ev1 o t f v (by omega), ev2 o t f v (by omega)]
    cases vald o n (lvs o t f v n)
    · exact .inl ⟨4, rfl, rfl⟩
    · exact .inr ⟨n, lvs o t f v n, by omega, tS_lvs o t f v n, rfl, rfl⟩
  · rw [decide_eq_false hp]
    exact .inl ⟨2, rfl, rfl⟩
theorem law_true (t f v : ieee.S) (p : Int) (_ : IntKind.i64.has p) : ∃ h', f5 ieee t f v p = some (.bool true, h') := by
  have e0 : f19 ieee 2000000 0 ([] : List A) = some (.bool true, [.live false true []]) := by
    unfold f19
    rfl
  have en := markNil ieee
  have eh := heldNil ieee
  refine ⟨[], ?_⟩
  unfold f5
  rcases both ieee t f v p with ⟨c, e1, e2⟩ | ⟨n, L, hn, hL, e1, e2⟩
  · simp only [m22_ok, k22, m22_0, g22_0, m22_1, g22_1, m22_2, g22_2, m23_ok, m23_ok1, k23, k23x1, m23_0, g23_0, m23_1, g23_1, m23_2, g23_2, m23_3, g23_3, e1, e2, m19_ok, m19_0, k19, g19_0, e0, m24_ok, m24_0, k24, g24_0, en, m25_ok, m25_0, k25, g25_0, eh, gd_true, cond_true, cond_false, bne_self_eq_false, show decide ((1 : Int) < 0) = false from rfl]
  · have hm := mark24a ieee hL (by omega)
    have hh := held25a (L := L) (n := n) (by omega)
    have hq := eqls ieee hL (by omega)
    have e3 : decide (((n * 3 + 1 : Nat) : Int) < (0 : Int)) = false := decide_eq_false (by omega)
    simp only [m22_ok, k22, m22_0, g22_0, m22_1, g22_1, m22_2, g22_2, m23_ok, m23_ok1, k23, k23x1, m23_0, g23_0, m23_1, g23_1, m23_2, g23_2, m23_3, g23_3, e1, e2, m19a_ok, m19a_0, k19a, g19a_0, hq, m24a_ok, m24a_0, m24a_1, k24a, g24a_0, g24a_1, hm, m25a_ok, m25a_0, k25a, g25a_0, hh, e3, gd_true, cond_true, cond_false, bne_self_eq_false]

theorem own : ownKnob Try.prog.godebug = none := by kernel_rfl
theorem laidOut : laidOutB Try.prog = true := by kernel_rfl
set_option maxRecDepth 100000 in
theorem lifted (os : Os) (started : os.Started) (H : Type) (enc : TypeId × Value → H) :
    ReturnsInHanded {} Try.checked os 5 .any (Rows.fnExactEvenSoundingSpec.pre6 enc Try.prog Try.f5 Rows.fnExactEvenSoundingRow.domain false) (Rows.fnExactEvenSoundingSpec.post enc Try.prog Try.f5 false true false false) := by
  refine returnsInHanded_of_change (C := Try.checked) own started (by kernel_rfl) Try.func5
    (ChangeSpec.witness6 (enc := enc) (C := Try.checked) false ⟨#[], #[.float .f32 0, .float .f32 0, .float .f32 0, .int .i64 0], []⟩ 8 (by kernel_rfl) (by kernel_rfl) (by kernel_rfl) (by kernel_rfl)) ?_
  intro W base args ds gs before hval0 hW hcnd _
  have hval : ∀ (j : Nat) t v, Try.f5.params[j]? = some t → args[j]? = some v → Value.okWide Try.prog W .any base t v := hval0
  have hW' := hW
  obtain ⟨p, q, hA0, hV, rfl, hfz, hnd⟩ := hW
  have hA : DataW.TrodAll enc Try.prog W 0 (fun _ => true) true Try.f5.params.toList args.toList ds p := hA0
  have hA1 := hA
  rw [Try.params5] at hA hval
  obtain ⟨v0, vs0, d0, ds0, p0, q0, hargs, rfl, rfl, h0, r0'⟩ := trodAll_cons hA
  obtain ⟨v1, vs1, d1, ds1, p1, q1, rfl, rfl, rfl, h1, r1'⟩ := trodAll_cons r0'
  obtain ⟨v2, vs2, d2, ds2, p2, q2, rfl, rfl, rfl, h2, r2'⟩ := trodAll_cons r1'
  obtain ⟨v3, vs3, d3, ds3, p3, q3, rfl, rfl, rfl, h3, r3'⟩ := trodAll_cons r2'
  obtain ⟨rfl, rfl, rfl⟩ := trodAll_nil r3'
  obtain rfl : args = #[v0, v1, v2, v3] := by cases args; simp_all
  obtain ⟨rfl, rfl⟩ := trodVars_none hV
  clear hA0 hval0
  obtain ⟨x0, r0⟩ := okW_f32 (by kernel_rfl) (hval 0 30 v0 rfl rfl)
  obtain ⟨x1, r1⟩ := okW_f32 (by kernel_rfl) (hval 1 30 v1 rfl rfl)
  obtain ⟨x2, r2⟩ := okW_f32 (by kernel_rfl) (hval 2 30 v2 rfl rfl)
  obtain ⟨x3, hx3, r3⟩ := okW_int (k := .i64) (by kernel_rfl) (hval 3 2 v3 rfl rfl)
  obtain ⟨h', hx0⟩ := law_true x0 x1 x2 x3 hx3
  have hx := (eq5 ieee 2000000 x0 x1 x2 x3).trans hx0
  refine (law_calls (cok5 2000000 (by decide)) (is5 2000000) hx (hrel_nil W) (by intro b hb fl cs e; simp at hb <;> simp_all) (L2.cons (r0 _) (L2.cons (r1 _) (L2.cons (r2 _) (L2.cons (r3 _) (L2.nil _)))))).mono fun e W' ⟨he, bel⟩ => ?_
  subst he
  exact ⟨_, rfl, _, _, _, [], _, [], hW', trodAll_mk1 (shut_bool (by kernel_rfl) _), trodAll_stays laidOut bel (by kernel_rfl) hA1, rfl, bel.frame _, fun h => by cases h⟩

/-- The statement. -/
theorem proved : Rows.FnExactEvenSoundingSaid :=
  OpenClaim.holds_of_wide 5 Try.f5 rfl rfl rfl rfl rfl rfl rfl ⟨rfl, rfl, rfl, rfl, rfl⟩ rfl rfl rfl rfl rfl (by kernel_rfl) Try.func5 (by kernel_rfl)
    (of_decide_eq_true (by kernel_rfl)) (by unfold Func.isWrapper; first | (rw [if_pos (by decide +kernel)]; kernel_rfl) | (rw [if_neg (by decide +kernel)]; exact ⟨rfl, rfl⟩))
    (fun os started H enc _ => lifted os started H enc)
end Go.Proofs.Ytihmppdnglfjnaa.fnExactEvenSounding
