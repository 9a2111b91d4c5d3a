/- FnExactSteadySounding returns true for all arguments. Conditions: none. -/
import Derived.Test.YtihmppdnglfjnaaRows
import Derived.Test.YtihmppdnglfjnaaG1
set_option linter.unusedVariables false
set_option linter.unusedSimpArgs false
set_option maxRecDepth 100000
namespace Go.Proofs.Ytihmppdnglfjnaa.fnExactSteadySounding
open Go.Ab Go.RowKit Go.ChangeShapes Go.WideShapes Go.ChangeAt
theorem to17 (o : FO) {n : Nat} {L : List (AV o)} (h : tS (n * 3) L = true) (hn : n ≤ 1048576) : f17 o 2000000 n L = some (.slice 1 0 n 3, [.live false true L, .live true true L]) := by
  have hl := tS_len h
  unfold f17
  rw [mkOk hn, gd_true, zeros_3, Int.toNat_natCast]
  have := iter_up (f17_L0 o 2000000) (fun i => (n, n, (i : Int), L, fillS L (i * 3) (n * 3))) n (some (.slice 1 0 n 3, [.live false true L, .live true true L])) 2000000 (by omega) (fun i hi s0 => by
    unfold f17_L0
    simp (disch := omega) only [dlt, dnl, dge, dpo, dp0, wrS, wrP, wrQ, Int.toNat_natCast, Nat.zero_add, Nat.add_zero, Nat.add_assoc, Nat.reduceAdd, Nat.mul_one, Nat.add_sub_cancel, Bool.and_true, Bool.true_and, Bool.and_self, gd_true, cond_true, cond_false, rdS_t h, fillS_3 h, Nat.succ_mul]) (fun s0 => by
    unfold f17_L0
    simp (disch := omega) only [dlt, dnl, dge, dpo, dp0, wrS, wrP, wrQ, Int.toNat_natCast, Nat.zero_add, Nat.add_zero, Nat.add_assoc, Nat.reduceAdd, Nat.mul_one, Nat.add_sub_cancel, Bool.and_true, Bool.true_and, Bool.and_self, gd_true, cond_true, cond_false, rdS_t h, fillS_all hl])
  rw [show (0 : Nat) * 3 = 0 from rfl, fillS_0] at this
  exact this
theorem to17a (o : FO) {n : Nat} {L : List (AV o)} (h : tS (n * 3) L = true) (hn : n ≤ 1048576) : f17a o 2000000 n L = some (.slice 1 0 n 3, [.live true true L, .live true true L]) := by
  have hl := tS_len h
  unfold f17a
  rw [mkOk hn, gd_true, zeros_3, Int.toNat_natCast]
  have := iter_up (f17a_L0 o 2000000) (fun i => (n, n, (i : Int), L, fillS L (i * 3) (n * 3))) n (some (.slice 1 0 n 3, [.live true true L, .live true true L])) 2000000 (by omega) (fun i hi s0 => by
    unfold f17a_L0
    simp (disch := omega) only [dlt, dnl, dge, dpo, dp0, wrS, wrP, wrQ, Int.toNat_natCast, Nat.zero_add, Nat.add_zero, Nat.add_assoc, Nat.reduceAdd, Nat.mul_one, Nat.add_sub_cancel, Bool.and_true, Bool.true_and, Bool.and_self, gd_true, cond_true, cond_false, rdS_t h, fillS_3 h, Nat.succ_mul]) (fun s0 => by
    unfold f17a_L0
    simp (disch := omega) only [dlt, dnl, dge, dpo, dp0, wrS, wrP, wrQ, Int.toNat_natCast, Nat.zero_add, Nat.add_zero, Nat.add_assoc, Nat.reduceAdd, Nat.mul_one, Nat.add_sub_cancel, Bool.and_true, Bool.true_and, Bool.and_self, gd_true, cond_true, cond_false, rdS_t h, fillS_all hl])
  rw [show (0 : Nat) * 3 = 0 from rfl, fillS_0] at this
  exact this
theorem to17b (o : FO) : f17b o 2000000 = some (.slice 0 0 0 3, [.live true true []]) := by
  unfold f17b
  rfl
theorem air (o : FO) {m off : Nat} {L : List (AV o)} (h : tS m L = true) (hi : off + 1 < m) : f67 o off L = some (.bool (m69_0 o (lkS L off) (lkS L (off + 1))), [.live false true L]) := by
  unfold f67
  simp (disch := omega) only [dlt, dnl, dge, dpo, dp0, wrS, wrP, wrQ, Int.toNat_natCast, Nat.zero_add, Nat.add_zero, Nat.add_assoc, Nat.reduceAdd, Nat.mul_one, Nat.add_sub_cancel, Bool.and_true, Bool.true_and, Bool.and_self, gd_true, cond_true, cond_false, rdS_t h]
  show _ = some ((.bool (bif m91_0 o (lkS L off) then (bif amtS o (lkS L (off + 1)) then o.sle (lkS L (off + 1)) (o.slit 1148846080) else false) else false) : AV o), _)
  cases m91_0 o (lkS L off) <;> cases amtS o (lkS L (off + 1)) <;> cases o.sle (lkS L (off + 1)) (o.slit 1148846080) <;> rfl
noncomputable def bad (o : FO) (L : List (AV o)) (i : Nat) : Bool :=
  !(m49_0 o (lkS L (i * 3)) (lkS L (i * 3 + 1)) (lkS L (i * 3 + 2)) && (bif Nat.blt 0 i then o.slt (lkS L ((i - 1) * 3)) (lkS L (i * 3)) else true))
noncomputable def vald (o : FO) (n : Nat) (L : List (AV o)) : Bool := (fnd (bad o L) n 0).isNone && m60_0 o ((n : Nat) : Int) (2 : Int) (32 : Int)
theorem vald_le (o : FO) {n : Nat} {L : List (AV o)} (h : vald o n L = true) : 2 ≤ n ∧ n ≤ 32 := by
  unfold vald at h
  rw [Bool.and_eq_true] at h
  have := h.2
  unfold m60_0 at this
  cases h1 : decide (((n : Nat) : Int) ≥ 2) with
  | false => rw [h1] at this; cases this
  | true =>
    rw [h1] at this
    have h2 := of_decide_eq_true h1
    have h3 : ((n : Nat) : Int) ≤ 32 := of_decide_eq_true this
    omega
theorem vald_bad (o : FO) {n : Nat} {L : List (AV o)} (h : vald o n L = true) {i : Nat} (hi : i < n) : bad o L i = false := by
  unfold vald at h
  rw [Bool.and_eq_true] at h
  exact fnd_none (Option.isNone_iff_eq_none.1 h.1) i (by omega) (by omega)
theorem step58 (o : FO) {n : Nat} {L : List (AV o)} (h : tS (n * 3) L = true) (hn : n ≤ 1048576) (i : Nat) (hi : i < n) (s0) :
    f58_L0 o 2000000 s0 (n, ((i : Nat) : Int), L) = bif bad o L i then some (.bool false, [.live false true L]) else s0 (n, ((i + 1 : Nat) : Int), L) := by
  have ha := air o h (off := i * 3 + 1) (by omega)
  unfold f58_L0 bad m49_0
  rcases Nat.eq_zero_or_pos i with rfl | hp
  · simp (disch := omega) only [dlt, dnl, dge, dpo, dp0, wrS, wrP, wrQ, Int.toNat_natCast, Nat.zero_add, Nat.add_zero, Nat.add_assoc, Nat.reduceAdd, Nat.mul_one, Nat.add_sub_cancel, Bool.and_true, Bool.true_and, Bool.and_self, gd_true, cond_true, cond_false, rdS_t h, Nat.zero_mul, show Nat.blt 0 0 = false from rfl, Nat.add_assoc] at ha ⊢
    try simp only [m67_ok, m67_0, k67, g67_0, ha, gd_true]
    try rw [show m86_0 o (lkS L 0) = m82_0 o (lkS L 0) from rfl]
    cases m82_0 o (lkS L 0) <;> cases m69_0 o (lkS L 1) (lkS L 2) <;> rfl
  · have hb : Nat.blt 0 i = true := by simp [Nat.blt, Nat.ble_eq]; omega
    simp (disch := omega) only [dlt, dnl, dge, dpo, dp0, wrS, wrP, wrQ, Int.toNat_natCast, Nat.zero_add, Nat.add_zero, Nat.add_assoc, Nat.reduceAdd, Nat.mul_one, Nat.add_sub_cancel, Bool.and_true, Bool.true_and, Bool.and_self, gd_true, cond_true, cond_false, rdS_t h, hb, Nat.add_assoc] at ha ⊢
    try simp only [m67_ok, m67_0, k67, g67_0, ha, gd_true]
    try rw [show m86_0 o (lkS L (i * 3)) = m82_0 o (lkS L (i * 3)) from rfl]
    cases m82_0 o (lkS L (i * 3)) <;> cases m69_0 o (lkS L (i * 3 + 1)) (lkS L (i * 3 + 2)) <;> cases o.slt (lkS L ((i - 1) * 3)) (lkS L (i * 3)) <;> rfl
theorem snd58 (o : FO) {n : Nat} {L : List (AV o)} (h : tS (n * 3) L = true) (hn : n ≤ 1048576) : f58 o 2000000 n L = some (.bool (vald o n L), [.live false true L]) := by
  have := iter_find (f58_L0 o 2000000) (fun i => (n, ((i : Nat) : Int), L)) n (bad o L) (fun _ => some (.bool false, [.live false true L])) (some (.bool (m60_0 o ((n : Nat) : Int) (2 : Int) (32 : Int)), [.live false true L]))
    (fun i hi s0 => step58 o h hn i hi s0) (fun s0 => by
      unfold f58_L0
      simp (disch := omega) only [dlt, dnl, dge, dpo, dp0, wrS, wrP, wrQ, Int.toNat_natCast, Nat.zero_add, Nat.add_zero, Nat.add_assoc, Nat.reduceAdd, Nat.mul_one, Nat.add_sub_cancel, Bool.and_true, Bool.true_and, Bool.and_self, gd_true, cond_true, cond_false, rdS_t h]) n 0 2000000 (by omega) (by omega)
  refine Eq.trans this ?_
  unfold vald
  cases fnd (bad o L) n 0 <;> rfl
theorem sndOk58 (o : FO) {n : Nat} {L : List (AV o)} (h : tS (n * 3) L = true) (hn : n ≤ 1048576) : m58_ok o n L = true := by
  unfold m58_ok
  rw [snd58 o h hn]
  rfl
theorem snd058 (o : FO) {n : Nat} {L : List (AV o)} (h : tS (n * 3) L = true) (hn : n ≤ 1048576) : m58_0 o n L = vald o n L := by
  unfold m58_0
  rw [snd58 o h hn]
  rfl
theorem step21 (o : FO) {n : Nat} {L : List (AV o)} (h : tS (n * 3) L = true) (hn : n ≤ 1048576) (i : Nat) (hi : i < n) (s0) :
    f21_L0 o 2000000 s0 (n, n, ((n : Nat) : Int), ((i : Nat) : Int), L) = bif bad o L i then some (.bool false, [.live false true L]) else s0 (n, n, ((n : Nat) : Int), ((i + 1 : Nat) : Int), L) := by
  have ha := air o h (off := i * 3 + 1) (by omega)
  unfold f21_L0 bad m49_0
  rcases Nat.eq_zero_or_pos i with rfl | hp
  · simp (disch := omega) only [dlt, dnl, dge, dpo, dp0, wrS, wrP, wrQ, Int.toNat_natCast, Nat.zero_add, Nat.add_zero, Nat.add_assoc, Nat.reduceAdd, Nat.mul_one, Nat.add_sub_cancel, Bool.and_true, Bool.true_and, Bool.and_self, gd_true, cond_true, cond_false, rdS_t h, Nat.zero_mul, show Nat.blt 0 0 = false from rfl, Nat.add_assoc] at ha ⊢
    try simp only [m67_ok, m67_0, k67, g67_0, ha, gd_true]
    try rw [show m86_0 o (lkS L 0) = m82_0 o (lkS L 0) from rfl]
    cases m82_0 o (lkS L 0) <;> cases m69_0 o (lkS L 1) (lkS L 2) <;> rfl
  · have hb : Nat.blt 0 i = true := by simp [Nat.blt, Nat.ble_eq]; omega
    simp (disch := omega) only [dlt, dnl, dge, dpo, dp0, wrS, wrP, wrQ, Int.toNat_natCast, Nat.zero_add, Nat.add_zero, Nat.add_assoc, Nat.reduceAdd, Nat.mul_one, Nat.add_sub_cancel, Bool.and_true, Bool.true_and, Bool.and_self, gd_true, cond_true, cond_false, rdS_t h, hb, Nat.add_assoc] at ha ⊢
    try simp only [m67_ok, m67_0, k67, g67_0, ha, gd_true]
    try rw [show m86_0 o (lkS L (i * 3)) = m82_0 o (lkS L (i * 3)) from rfl]
    cases m82_0 o (lkS L (i * 3)) <;> cases m69_0 o (lkS L (i * 3 + 1)) (lkS L (i * 3 + 2)) <;> cases o.slt (lkS L ((i - 1) * 3)) (lkS L (i * 3)) <;> rfl
theorem snd21 (o : FO) {n : Nat} {L : List (AV o)} (h : tS (n * 3) L = true) (hn : n ≤ 1048576) : f21 o 2000000 n L = some (.bool (vald o n L), [.live false true L]) := by
  have := iter_find (f21_L0 o 2000000) (fun i => (n, n, ((n : Nat) : Int), ((i : Nat) : Int), L)) n (bad o L) (fun _ => some (.bool false, [.live false true L])) (some (.bool (m59_0 o ((n : Nat) : Int) (2 : Int) (32 : Int)), [.live false true L]))
    (fun i hi s0 => step21 o h hn i hi s0) (fun s0 => by
      unfold f21_L0
      simp (disch := omega) only [dlt, dnl, dge, dpo, dp0, wrS, wrP, wrQ, Int.toNat_natCast, Nat.zero_add, Nat.add_zero, Nat.add_assoc, Nat.reduceAdd, Nat.mul_one, Nat.add_sub_cancel, Bool.and_true, Bool.true_and, Bool.and_self, gd_true, cond_true, cond_false, rdS_t h]) n 0 2000000 (by omega) (by omega)
  refine Eq.trans this ?_
  unfold vald
  cases fnd (bad o L) n 0 <;> rfl
theorem sndOk21 (o : FO) {n : Nat} {L : List (AV o)} (h : tS (n * 3) L = true) (hn : n ≤ 1048576) : m21_ok o n L = true := by
  unfold m21_ok
  rw [snd21 o h hn]
  rfl
theorem snd021 (o : FO) {n : Nat} {L : List (AV o)} (h : tS (n * 3) L = true) (hn : n ≤ 1048576) : m21_0 o n L = vald o n L := by
  unfold m21_0
  rw [snd21 o h hn]
  rfl
theorem same30 (o : FO) (x : o.D) : m30_0 o x x = true := by
  unfold m30_0
  cases h : o.deq x x
  · rfl
  · cases h0 : o.deq x (o.dlit 0)
    · rfl
    · simp
theorem eql (o : FO) (a b c : o.S) : m57_0 o a b c a b c = true := by
  unfold m57_0 m33_0
  simp only [same30]
  rfl
theorem eqls (o : FO) {n : Nat} {L : List (AV o)} (h : tS (n * 3) L = true) (hn : n ≤ 1048576) : f19a o 2000000 n n L L = some (.bool true, [.live false true L, .live false true L]) := by
  unfold f19a
  rw [bne_self_eq_false, cond_false]
  have := iter_up (f19a_L0 o 2000000) (fun i => (n, n, ((i : Nat) : Int), L, L)) n (some (.bool true, [.live false true L, .live false true L])) 2000000 (by omega) (fun i hi s0 => by
    unfold f19a_L0
    simp (disch := omega) only [dlt, dnl, dge, dpo, dp0, wrS, wrP, wrQ, Int.toNat_natCast, Nat.zero_add, Nat.add_zero, Nat.add_assoc, Nat.reduceAdd, Nat.mul_one, Nat.add_sub_cancel, Bool.and_true, Bool.true_and, Bool.and_self, gd_true, cond_true, cond_false, rdS_t h, eql, Bool.not_true]) (fun s0 => by
    unfold f19a_L0
    simp (disch := omega) only [dlt, dnl, dge, dpo, dp0, wrS, wrP, wrQ, Int.toNat_natCast, Nat.zero_add, Nat.add_zero, Nat.add_assoc, Nat.reduceAdd, Nat.mul_one, Nat.add_sub_cancel, Bool.and_true, Bool.true_and, Bool.and_self, gd_true, cond_true, cond_false, rdS_t h])
  exact this
theorem eqlsOk (o : FO) {n : Nat} {L : List (AV o)} (h : tS (n * 3) L = true) (hn : n ≤ 1048576) : m19a_ok o n n L L = true := by
  unfold m19a_ok
  rw [eqls o h hn]
  rfl
theorem eqls0 (o : FO) {n : Nat} {L : List (AV o)} (h : tS (n * 3) L = true) (hn : n ≤ 1048576) : m19a_0 o n n L L = true := by
  unfold m19a_0
  rw [eqls o h hn]
  rfl
theorem sq {k : Nat} (h : k < 200) : ieee.seq (ieee.sofi ((k : Nat) : Int)) (ieee.sofi ((k : Nat) : Int)) = true := by
  have hk : ((List.range 200).all fun k => ieee.seq (ieee.sofi ((k : Nat) : Int)) (ieee.sofi ((k : Nat) : Int))) = true := by kernel_rfl
  exact List.all_eq_true.1 hk k (List.mem_range.2 h)
theorem mark24 (o : FO) {n : Nat} {L : List (AV o)} (h : tS (n * 3) L = true) (hn : n ≤ 1048576) : f24 o 2000000 n (1 : Int) L = some (.int .i64 ((n * 3 + 1 : Nat) : Int), [.live true true (updS (n * 3) L (fun t => o.sofi ((t + 1 : Nat) : Int)) (n * 3))]) := by
  have := iter_up (f24_L0 o 2000000) (fun i => (n, ((i * 3 + 1 : Nat) : Int), ((i : Nat) : Int), updS (n * 3) L (fun t => o.sofi ((t + 1 : Nat) : Int)) (i * 3))) n (some (.int .i64 ((n * 3 + 1 : Nat) : Int), [.live true true (updS (n * 3) L (fun t => o.sofi ((t + 1 : Nat) : Int)) (n * 3))])) 2000000 (by omega) (fun i hi s0 => by
    have s1 : (updS (n * 3) L (fun t => o.sofi ((t + 1 : Nat) : Int)) (i * 3)).set (i * 3) (.f32 (o.sofi ((i * 3 + 1 : Nat) : Int))) = updS (n * 3) L (fun t => o.sofi ((t + 1 : Nat) : Int)) (i * 3 + 1) := updS_set (by omega)
    have s2 : (updS (n * 3) L (fun t => o.sofi ((t + 1 : Nat) : Int)) (i * 3 + 1)).set (i * 3 + 1) (.f32 (o.sofi ((i * 3 + 1 + 1 : Nat) : Int))) = updS (n * 3) L (fun t => o.sofi ((t + 1 : Nat) : Int)) (i * 3 + 2) := updS_set (by omega)
    have s3 : (updS (n * 3) L (fun t => o.sofi ((t + 1 : Nat) : Int)) (i * 3 + 2)).set (i * 3 + 2) (.f32 (o.sofi ((i * 3 + 2 + 1 : Nat) : Int))) = updS (n * 3) L (fun t => o.sofi ((t + 1 : Nat) : Int)) (i * 3 + 3) := updS_set (by omega)
    have w1 := wrS_t (tS_updS (n * 3) L (fun t => o.sofi ((t + 1 : Nat) : Int)) (i * 3)) (show i * 3 < n * 3 by omega)
    have w2 := wrS_t (tS_updS (n * 3) L (fun t => o.sofi ((t + 1 : Nat) : Int)) (i * 3 + 1)) (show i * 3 + 1 < n * 3 by omega)
    have w3 := wrS_t (tS_updS (n * 3) L (fun t => o.sofi ((t + 1 : Nat) : Int)) (i * 3 + 2)) (show i * 3 + 2 < n * 3 by omega)
    unfold f24_L0
    simp (disch := omega) only [dlt, dge, wrS, Int.toNat_natCast, Nat.zero_add, Nat.add_zero, Nat.add_assoc, Nat.reduceAdd, Bool.and_self, gd_true, cond_true, w1, w2, w3, Nat.succ_mul] at s1 s2 s3 ⊢
    rw [s1, w2, s2, w3, s3]) (fun s0 => by
    unfold f24_L0
    simp (disch := omega) only [dnl, cond_false])
  rw [show (0 : Nat) * 3 = 0 from rfl, updS_0 h] at this
  exact this
theorem held25a {n : Nat} {L : List A} (hn : n ≤ 60) : f25a ieee 2000000 n (1 : Int) (updS (n * 3) L (fun t => ieee.sofi ((t + 1 : Nat) : Int)) (n * 3)) = some (.int .i64 ((n * 3 + 1 : Nat) : Int), [.live false true (updS (n * 3) L (fun t => ieee.sofi ((t + 1 : Nat) : Int)) (n * 3))]) := by
  have hM := tS_updS (n * 3) L (fun t => ieee.sofi ((t + 1 : Nat) : Int)) (n * 3)
  have lk : ∀ {t : Nat}, t < n * 3 → lkS (updS (n * 3) L (fun t => ieee.sofi ((t + 1 : Nat) : Int)) (n * 3)) t = ieee.sofi ((t + 1 : Nat) : Int) := fun ht => by rw [updS_lk ht, if_pos ht]
  generalize updS (n * 3) L (fun t => ieee.sofi ((t + 1 : Nat) : Int)) (n * 3) = M at hM lk ⊢
  have := iter_up (f25a_L0 ieee 2000000) (fun i => (n, ((i * 3 + 1 : Nat) : Int), ((i : Nat) : Int), M)) n (some (.int .i64 ((n * 3 + 1 : Nat) : Int), [.live false true M])) 2000000 (by omega) (fun i hi s0 => by
    have k1 := lk (show i * 3 < n * 3 by omega)
    have k2 := lk (show i * 3 + 1 < n * 3 by omega)
    have k3 := lk (show i * 3 + 2 < n * 3 by omega)
    have q1 := sq (k := i * 3 + 1) (by omega)
    have q2 := sq (k := i * 3 + 1 + 1) (by omega)
    have q3 := sq (k := i * 3 + 2 + 1) (by omega)
    unfold f25a_L0
    simp (disch := omega) only [dlt, dge, wrS, Int.toNat_natCast, Nat.zero_add, Nat.add_zero, Nat.add_assoc, Nat.reduceAdd, Bool.and_self, gd_true, cond_true, cond_false, Bool.not_true, rdS_t hM, Nat.succ_mul] at k1 k2 k3 q1 q2 q3 ⊢
    simp only [k1, k2, k3, q1, q2, q3, Bool.not_true, cond_false]) (fun s0 => by
    unfold f25a_L0
    simp (disch := omega) only [dnl, cond_false])
  exact this
theorem markNil (o : FO) : f24a o 2000000 (1 : Int) = some (.int .i64 (1 : Int), []) := by
  unfold f24a
  rfl
theorem heldNil (o : FO) : f25 o 2000000 (1 : Int) = some (.int .i64 (1 : Int), []) := by
  unfold f25
  rfl
noncomputable def uns (o : FO) (L : List (AV o)) (i : Nat) : Bool := o.slt (o.smul (o.slit 1092616192) (o.ssub (lkS L ((i + 1) * 3)) (lkS L (i * 3)))) (o.ssub (lkS L (i * 3 + 1)) (lkS L ((i + 1) * 3 + 1)))
noncomputable def unsR (o : FO) (n : Nat) (L : List (AV o)) : R o := onFnd (fnd (uns o L) (n - 1) 0) (fun j => some (.int .i64 ((j : Nat) : Int), [.live false true L])) (some (.int .i64 (-1 : Int), [.live false true L]))
theorem uns61 (o : FO) {n : Nat} {L : List (AV o)} (h : tS (n * 3) L = true) (hn : n ≤ 1048576) (h1 : 1 ≤ n) : f61 o 2000000 n L = unsR o n L := by
  have := iter_find (f61_L0 o 2000000) (fun i => (n, ((i : Nat) : Int), L)) (n - 1) (uns o L) (fun j => some (.int .i64 ((j : Nat) : Int), [.live false true L])) (some (.int .i64 (-1 : Int), [.live false true L]))
    (fun i hi s0 => by
      unfold f61_L0 uns
      simp (disch := omega) only [dlt, dnl, dge, dpo, dp0, wrS, wrP, wrQ, Int.toNat_natCast, Nat.zero_add, Nat.add_zero, Nat.add_assoc, Nat.reduceAdd, Nat.mul_one, Nat.add_sub_cancel, Bool.and_true, Bool.true_and, Bool.and_self, gd_true, cond_true, cond_false, rdS_t h]) (fun s0 => by
      unfold f61_L0
      simp (disch := omega) only [dlt, dnl, dge, dpo, dp0, wrS, wrP, wrQ, Int.toNat_natCast, Nat.zero_add, Nat.add_zero, Nat.add_assoc, Nat.reduceAdd, Nat.mul_one, Nat.add_sub_cancel, Bool.and_true, Bool.true_and, Bool.and_self, gd_true, cond_true, cond_false, rdS_t h]) (n - 1) 0 2000000 (by omega) (by omega)
  exact this
theorem uns62 (o : FO) {n : Nat} {L : List (AV o)} (h : tS (n * 3) L = true) (hn : n ≤ 1048576) (h1 : 1 ≤ n) : f62 o 2000000 n L = unsR o n L := by
  have := iter_find (f62_L0 o 2000000) (fun i => (n, ((i + 1 : Nat) : Int), L)) (n - 1) (uns o L) (fun j => some (.int .i64 ((j : Nat) : Int), [.live false true L])) (some (.int .i64 (-1 : Int), [.live false true L]))
    (fun i hi s0 => by
      unfold f62_L0 uns
      simp (disch := omega) only [dlt, dnl, dge, dpo, dp0, wrS, wrP, wrQ, Int.toNat_natCast, Nat.zero_add, Nat.add_zero, Nat.add_assoc, Nat.reduceAdd, Nat.mul_one, Nat.add_sub_cancel, Bool.and_true, Bool.true_and, Bool.and_self, gd_true, cond_true, cond_false, rdS_t h]) (fun s0 => by
      unfold f62_L0
      simp (disch := omega) only [dlt, dnl, dge, dpo, dp0, wrS, wrP, wrQ, Int.toNat_natCast, Nat.zero_add, Nat.add_zero, Nat.add_assoc, Nat.reduceAdd, Nat.mul_one, Nat.add_sub_cancel, Bool.and_true, Bool.true_and, Bool.and_self, gd_true, cond_true, cond_false, rdS_t h]) (n - 1) 0 2000000 (by omega) (by omega)
  exact this
noncomputable def wr2 (o : FO) (C : List (AV o)) (p : Nat) (x y : o.S) : List (AV o) := C.take p ++ ([.f32 x, .f32 y] ++ C.drop (p + 2))
theorem wr2_of (o : FO) {m p : Nat} {C : List (AV o)} (h : tS m C = true) (hp : p + 2 ≤ m) (x y : o.S) (k : List (AV o) → R o) : wrA C p 2 [.f32 x, .f32 y] k = k (wr2 o C p x y) := wrA_of (n := 2) (vs := [.f32 x, .f32 y]) rfl (by rw [tS_len h]; exact hp) k
theorem tS_wr2 (o : FO) {m p : Nat} {C : List (AV o)} (h : tS m C = true) (hp : p + 2 ≤ m) (x y : o.S) : tS m (wr2 o C p x y) = true := by
  have hl := tS_len h
  unfold tS wr2 at *
  rw [Bool.and_eq_true] at h ⊢
  have ha := List.all_eq_true.1 h.2
  refine ⟨?_, ?_⟩
  · have : (C.take p ++ (([.f32 x, .f32 y] : List (AV o)) ++ C.drop (p + 2))).length = m := by
      rw [List.length_append, List.length_append, List.length_take, List.length_drop]
      show min p C.length + (2 + _) = m
      omega
    rw [this]
    exact Nat.beq_refl m
  · rw [List.all_append, List.all_append, Bool.and_eq_true, Bool.and_eq_true]
    exact ⟨List.all_eq_true.2 fun z hz => ha z (List.mem_of_mem_take hz), rfl, List.all_eq_true.2 fun z hz => ha z (List.mem_of_mem_drop hz)⟩
noncomputable def nxt (o : FO) (C : List (AV o)) (j : Nat) : List (AV o) := wr2 o (wr2 o C (j * 3 + 1) (o.sadd (o.smul (o.slit 1056964608) (o.sadd (lkS C (j * 3 + 1)) (lkS C ((j + 1) * 3 + 1)))) (o.smul (o.slit 1084227584) (o.ssub (lkS C ((j + 1) * 3)) (lkS C (j * 3))))) (o.smul (o.slit 1056964608) (o.sadd (lkS C (j * 3 + 2)) (lkS C ((j + 1) * 3 + 2))))) ((j + 1) * 3 + 1) (o.ssub (o.smul (o.slit 1056964608) (o.sadd (lkS C (j * 3 + 1)) (lkS C ((j + 1) * 3 + 1)))) (o.smul (o.slit 1084227584) (o.ssub (lkS C ((j + 1) * 3)) (lkS C (j * 3))))) (o.smul (o.slit 1056964608) (o.sadd (lkS C (j * 3 + 2)) (lkS C ((j + 1) * 3 + 2))))
theorem tS_nxt (o : FO) {n j : Nat} {C : List (AV o)} (h : tS (n * 3) C = true) (hj : j + 1 < n) : tS (n * 3) (nxt o C j) = true := tS_wr2 o (tS_wr2 o h (by omega) _ _) (by omega) _ _
noncomputable def atI (o : FO) (n : Nat) (C : List (AV o)) : Int := match fnd (uns o C) (n - 1) 0 with | some j => ((j : Nat) : Int) | none => -1
theorem at1 (o : FO) {n : Nat} {C : List (AV o)} (h : tS (n * 3) C = true) (hn : n ≤ 1048576) (h1 : 1 ≤ n) : m61_ok o n C = true ∧ m61_0 o n C = atI o n C := by
  unfold m61_ok m61_0
  rw [uns61 o h hn h1]
  unfold unsR atI
  cases fnd (uns o C) (n - 1) 0 <;> exact ⟨rfl, rfl⟩
theorem at2 (o : FO) {n : Nat} {C : List (AV o)} (h : tS (n * 3) C = true) (hn : n ≤ 1048576) (h1 : 1 ≤ n) : m62_ok o n C = true ∧ m62_0 o n C = atI o n C := by
  unfold m62_ok m62_0
  rw [uns62 o h hn h1]
  unfold unsR atI
  cases fnd (uns o C) (n - 1) 0 <;> exact ⟨rfl, rfl⟩
theorem st1 (o : FO) {n j dn : Nat} {C L : List (AV o)} (h : tS (n * 3) C = true) (hn : n ≤ 32) (hj : j + 1 < n) (hd : dn < 200) (s0) : f41_L0 o 2000000 s0 (n, ((dn : Nat) : Int), ((j : Nat) : Int), L, C) =
    bif m69_0 o (lkS (nxt o C j) (j * 3 + 1)) (lkS (nxt o C j) (j * 3 + 2)) then (bif m69_0 o (lkS (nxt o C j) ((j + 1) * 3 + 1)) (lkS (nxt o C j) ((j + 1) * 3 + 2)) then s0 (n, ((dn + 1 : Nat) : Int), atI o n (nxt o C j), L, nxt o C j) else some (.tup [.slice 1 0 0 3, .int .i64 (0 : Int), .int .i64 (4 : Int)], [.live true true L, .live true true []])) else some (.tup [.slice 1 0 0 3, .int .i64 (0 : Int), .int .i64 (4 : Int)], [.live true true L, .live true true []]) := by
  have e1 : decide (((j : Nat) : Int) ≥ (0 : Int)) = true := decide_eq_true (by omega)
  have e2 : (((dn : Nat) : Int) == (200 : Int)) = false := by simp; omega
  have hN := tS_nxt o h hj
  have hW := tS_wr2 o h (p := j * 3 + 1) (by omega) (o.sadd (o.smul (o.slit 1056964608) (o.sadd (lkS C (j * 3 + 1)) (lkS C ((j + 1) * 3 + 1)))) (o.smul (o.slit 1084227584) (o.ssub (lkS C ((j + 1) * 3)) (lkS C (j * 3))))) (o.smul (o.slit 1056964608) (o.sadd (lkS C (j * 3 + 2)) (lkS C ((j + 1) * 3 + 2))))
  have a1 := air o hN (off := j * 3 + 1) (by omega)
  have a2 := air o hN (off := (j + 1) * 3 + 1) (by omega)
  have ht := at1 o hN (by omega) (by omega)
  have w1 := wr2_of o h (p := j * 3 + 1) (by omega) (o.sadd (o.smul (o.slit 1056964608) (o.sadd (lkS C (j * 3 + 1)) (lkS C ((j + 1) * 3 + 1)))) (o.smul (o.slit 1084227584) (o.ssub (lkS C ((j + 1) * 3)) (lkS C (j * 3))))) (o.smul (o.slit 1056964608) (o.sadd (lkS C (j * 3 + 2)) (lkS C ((j + 1) * 3 + 2))))
  have w2 := wr2_of o hW (p := (j + 1) * 3 + 1) (by omega) (o.ssub (o.smul (o.slit 1056964608) (o.sadd (lkS C (j * 3 + 1)) (lkS C ((j + 1) * 3 + 1)))) (o.smul (o.slit 1084227584) (o.ssub (lkS C ((j + 1) * 3)) (lkS C (j * 3))))) (o.smul (o.slit 1056964608) (o.sadd (lkS C (j * 3 + 2)) (lkS C ((j + 1) * 3 + 2))))
  unfold f41_L0
  simp (disch := omega) only [e1, e2, dlt, dnl, dge, dpo, dp0, wrS, wrP, wrQ, Int.toNat_natCast, Nat.zero_add, Nat.add_zero, Nat.add_assoc, Nat.reduceAdd, Nat.mul_one, Nat.add_sub_cancel, Bool.and_true, Bool.true_and, Bool.and_self, gd_true, cond_true, cond_false, rdS_t h] at a1 a2 w1 w2 ⊢
  rw [w1, w2]
  rw [show wr2 o (wr2 o C (j * 3 + 1) (o.sadd (o.smul (o.slit 1056964608) (o.sadd (lkS C (j * 3 + 1)) (lkS C ((j + 1) * 3 + 1)))) (o.smul (o.slit 1084227584) (o.ssub (lkS C ((j + 1) * 3)) (lkS C (j * 3))))) (o.smul (o.slit 1056964608) (o.sadd (lkS C (j * 3 + 2)) (lkS C ((j + 1) * 3 + 2))))) ((j + 1) * 3 + 1) (o.ssub (o.smul (o.slit 1056964608) (o.sadd (lkS C (j * 3 + 1)) (lkS C ((j + 1) * 3 + 1)))) (o.smul (o.slit 1084227584) (o.ssub (lkS C ((j + 1) * 3)) (lkS C (j * 3))))) (o.smul (o.slit 1056964608) (o.sadd (lkS C (j * 3 + 2)) (lkS C ((j + 1) * 3 + 2)))) = nxt o C j from rfl]
  simp only [m67_ok, m67_0, k67, g67_0, a1, a2, gd_true, ht.1, ht.2]
theorem st2 (o : FO) {n j dn : Nat} {C L : List (AV o)} (h : tS (n * 3) C = true) (hn : n ≤ 32) (hj : j + 1 < n) (hd : dn < 200) (ha : atI o n C = ((j : Nat) : Int)) (s0) : f42_L0 o 2000000 s0 (n, ((dn : Nat) : Int), L, C) =
    bif m69_0 o (lkS (nxt o C j) (j * 3 + 1)) (lkS (nxt o C j) (j * 3 + 2)) then (bif m69_0 o (lkS (nxt o C j) ((j + 1) * 3 + 1)) (lkS (nxt o C j) ((j + 1) * 3 + 2)) then s0 (n, ((dn + 1 : Nat) : Int), L, nxt o C j) else some (.tup [.nilslice, .int .i64 (0 : Int), .int .i64 (4 : Int)], [.live true true L])) else some (.tup [.nilslice, .int .i64 (0 : Int), .int .i64 (4 : Int)], [.live true true L]) := by
  have e1 : decide (((j : Nat) : Int) < (0 : Int)) = false := decide_eq_false (by omega)
  have e2 : (((dn : Nat) : Int) == (200 : Int)) = false := by simp; omega
  have hN := tS_nxt o h hj
  have hW := tS_wr2 o h (p := j * 3 + 1) (by omega) (o.sadd (o.smul (o.slit 1056964608) (o.sadd (lkS C (j * 3 + 1)) (lkS C ((j + 1) * 3 + 1)))) (o.smul (o.slit 1084227584) (o.ssub (lkS C ((j + 1) * 3)) (lkS C (j * 3))))) (o.smul (o.slit 1056964608) (o.sadd (lkS C (j * 3 + 2)) (lkS C ((j + 1) * 3 + 2))))
  have ht := at2 o h (by omega) (by omega)
  have w1 := wr2_of o h (p := j * 3 + 1) (by omega) (o.sadd (o.smul (o.slit 1056964608) (o.sadd (lkS C (j * 3 + 1)) (lkS C ((j + 1) * 3 + 1)))) (o.smul (o.slit 1084227584) (o.ssub (lkS C ((j + 1) * 3)) (lkS C (j * 3))))) (o.smul (o.slit 1056964608) (o.sadd (lkS C (j * 3 + 2)) (lkS C ((j + 1) * 3 + 2))))
  have w2 := wr2_of o hW (p := (j + 1) * 3 + 1) (by omega) (o.ssub (o.smul (o.slit 1056964608) (o.sadd (lkS C (j * 3 + 1)) (lkS C ((j + 1) * 3 + 1)))) (o.smul (o.slit 1084227584) (o.ssub (lkS C ((j + 1) * 3)) (lkS C (j * 3))))) (o.smul (o.slit 1056964608) (o.sadd (lkS C (j * 3 + 2)) (lkS C ((j + 1) * 3 + 2))))
  have r1 := rdS_t hN (i := j * 3 + 1) (by omega)
  have r2 := rdS_t hN (i := j * 3 + 2) (by omega)
  have r3 := rdS_t hN (i := (j + 1) * 3 + 1) (by omega)
  have r4 := rdS_t hN (i := (j + 1) * 3 + 2) (by omega)
  unfold f42_L0
  simp (disch := omega) only [ht.1, ht.2, ha, e1, e2, dlt, dnl, dge, dpo, dp0, wrS, wrP, wrQ, Int.toNat_natCast, Nat.zero_add, Nat.add_zero, Nat.add_assoc, Nat.reduceAdd, Nat.mul_one, Nat.add_sub_cancel, Bool.and_true, Bool.true_and, Bool.and_self, gd_true, cond_true, cond_false, rdS_t h] at w1 w2 ⊢
  rw [w1, w2]
  rw [show wr2 o (wr2 o C (j * 3 + 1) (o.sadd (o.smul (o.slit 1056964608) (o.sadd (lkS C (j * 3 + 1)) (lkS C ((j + 1) * 3 + 1)))) (o.smul (o.slit 1084227584) (o.ssub (lkS C ((j + 1) * 3)) (lkS C (j * 3))))) (o.smul (o.slit 1056964608) (o.sadd (lkS C (j * 3 + 2)) (lkS C ((j + 1) * 3 + 2))))) ((j + 1) * 3 + 1) (o.ssub (o.smul (o.slit 1056964608) (o.sadd (lkS C (j * 3 + 1)) (lkS C ((j + 1) * 3 + 1)))) (o.smul (o.slit 1084227584) (o.ssub (lkS C ((j + 1) * 3)) (lkS C (j * 3))))) (o.smul (o.slit 1056964608) (o.sadd (lkS C (j * 3 + 2)) (lkS C ((j + 1) * 3 + 2)))) = nxt o C j from rfl]
  simp only [r1, r2, r3, r4]
theorem run (o : FO) {n : Nat} (hn : n ≤ 32) (h1 : 1 ≤ n) (L : List (AV o)) : ∀ (d M dn : Nat) (C : List (AV o)), tS (n * 3) C = true → dn + d = 200 → d < M →
    (∃ c : Int, iter (f41_L0 o 2000000) M (n, ((dn : Nat) : Int), atI o n C, L, C) = some (.tup [.slice 1 0 0 3, .int .i64 (0 : Int), .int .i64 c], [.live true true L, .live true true []]) ∧ iter (f42_L0 o 2000000) M (n, ((dn : Nat) : Int), L, C) = some (.tup [.nilslice, .int .i64 (0 : Int), .int .i64 c], [.live true true L])) ∨ ∃ (D : List (AV o)) (w : Int), tS (n * 3) D = true ∧ iter (f41_L0 o 2000000) M (n, ((dn : Nat) : Int), atI o n C, L, C) = some (.tup [.slice 1 0 n 3, .int .i64 w, .int .i64 (0 : Int)], [.live true true L, .live true true D]) ∧ iter (f42_L0 o 2000000) M (n, ((dn : Nat) : Int), L, C) = some (.tup [.slice 1 0 n 3, .int .i64 w, .int .i64 (0 : Int)], [.live true true L, .live true true D]) := by
  intro d
  induction d with
  | zero =>
    intro M dn C h hd hM
    cases M with
    | zero => omega
    | succ M =>
      have hd' : dn = 200 := by omega
      subst hd'
      have ht := at2 o h (by omega) h1
      rw [iter_succ, iter_succ]
      generalize iter (f41_L0 o 2000000) M = t0
      generalize iter (f42_L0 o 2000000) M = t1
      unfold f41_L0 f42_L0
      simp only [ht.1, ht.2, gd_true]
      unfold atI
      cases fnd (uns o C) (n - 1) 0 with
      | none => exact .inr ⟨C, _, h, rfl, rfl⟩
      | some j =>
        have e1 : decide (((j : Nat) : Int) ≥ (0 : Int)) = true := decide_eq_true (by omega)
        have e2 : decide (((j : Nat) : Int) < (0 : Int)) = false := decide_eq_false (by omega)
        simp only [e1, e2, cond_true, cond_false]
        exact .inl ⟨7, rfl, rfl⟩
  | succ d ih =>
    intro M dn C h hd hM
    cases M with
    | zero => omega
    | succ M =>
      have ht := at2 o h (by omega) h1
      cases hf : fnd (uns o C) (n - 1) 0 with
      | none =>
        have ha : atI o n C = -1 := by unfold atI; rw [hf]
        rw [iter_succ, iter_succ]
        generalize iter (f41_L0 o 2000000) M = t0
        generalize iter (f42_L0 o 2000000) M = t1
        unfold f41_L0 f42_L0
        simp only [ht.1, ht.2, gd_true, ha]
        exact .inr ⟨C, _, h, rfl, rfl⟩
      | some j =>
        have ha : atI o n C = ((j : Nat) : Int) := by unfold atI; rw [hf]
        obtain ⟨_, hj, _, _⟩ := fnd_some hf
        have hN := tS_nxt o h (show j + 1 < n by omega)
        have := ih M (dn + 1) (nxt o C j) hN (by omega) (by omega)
        rw [iter_succ, iter_succ, ha, st1 o h hn (by omega) (by omega), st2 o h hn (by omega) (by omega) ha]
        cases m69_0 o (lkS (nxt o C j) (j * 3 + 1)) (lkS (nxt o C j) (j * 3 + 2))
        · exact .inl ⟨4, rfl, rfl⟩
        · cases m69_0 o (lkS (nxt o C j) ((j + 1) * 3 + 1)) (lkS (nxt o C j) ((j + 1) * 3 + 2))
          · exact .inl ⟨4, rfl, rfl⟩
          · exact this
theorem both (o : FO) {n : Nat} {L : List (AV o)} (h : tS (n * 3) L = true) (hn : n ≤ 1048576) : (∃ c : Int, f41 o 2000000 n L = some (.tup [.slice 1 0 0 3, .int .i64 (0 : Int), .int .i64 c], [.live true true L, .live true true []]) ∧ f42 o 2000000 n L = some (.tup [.nilslice, .int .i64 (0 : Int), .int .i64 c], [.live true true L])) ∨
    ∃ (D : List (AV o)) (w : Int), n ≤ 32 ∧ tS (n * 3) D = true ∧ f41 o 2000000 n L = some (.tup [.slice 1 0 n 3, .int .i64 w, .int .i64 (0 : Int)], [.live true true L, .live true true D]) ∧ f42 o 2000000 n L = some (.tup [.slice 1 0 n 3, .int .i64 w, .int .i64 (0 : Int)], [.live true true L, .live true true D]) := by
  unfold f41 f42
  simp only [sndOk58 o h hn, sndOk21 o h hn, snd058 o h hn, snd021 o h hn, gd_true]
  cases hv : vald o n L
  · exact .inl ⟨1, rfl, rfl⟩
  obtain ⟨h2, h32⟩ := vald_le o hv
  have hl := tS_len h
  have b1 : Nat.ble (n * 3) L.length = true := Nat.ble_eq_true_of_le (by omega)
  have b2 : (Nat.ble n 9223372036854775807 && Nat.ble (n * 12) 140737488355328) = true := by
    rw [Nat.ble_eq_true_of_le (by omega), Nat.ble_eq_true_of_le (by omega)]
    rfl
  have b4 : L.take (n * 3) = L := List.take_of_length_le (by omega)
  have ht := at1 o h hn (by omega)
  have hr := run o (n := n) h32 (by omega) L 200 2000000 0 L h (by omega) (by omega)
  simp only [m68a_ok, m68a_0, m68a_1, Nat.zero_add, List.nil_append, List.drop_zero, b1, b2, b4, Bool.not_true, cond_true, cond_false, gd_true, ht.1, ht.2]
  rcases hr with ⟨c, g1, g2⟩ | ⟨D, w, hD, g1, g2⟩
  · exact .inl ⟨c, g1, g2⟩
  · exact .inr ⟨D, w, h32, hD, g1, g2⟩
theorem to17_ok (o : FO) {n : Nat} {L : List (AV o)} (h : tS (n * 3) L = true) (hn : n ≤ 1048576) : m17_ok o n L = true := by
  unfold m17_ok
  rw [to17 o h hn]
  rfl
theorem to17_0 (o : FO) {n : Nat} {L : List (AV o)} (h : tS (n * 3) L = true) (hn : n ≤ 1048576) : m17_0 o n L = n := by
  unfold m17_0
  rw [to17 o h hn]
  rfl
theorem to17_1 (o : FO) {n : Nat} {L : List (AV o)} (h : tS (n * 3) L = true) (hn : n ≤ 1048576) : m17_1 o n L = L := by
  unfold m17_1
  rw [to17 o h hn]
  rfl
theorem to17_2 (o : FO) {n : Nat} {L : List (AV o)} (h : tS (n * 3) L = true) (hn : n ≤ 1048576) : m17_2 o n L = L := by
  unfold m17_2
  rw [to17 o h hn]
  rfl
theorem to17a_ok (o : FO) {n : Nat} {L : List (AV o)} (h : tS (n * 3) L = true) (hn : n ≤ 1048576) : m17a_ok o n L = true := by
  unfold m17a_ok
  rw [to17a o h hn]
  rfl
theorem to17a_0 (o : FO) {n : Nat} {L : List (AV o)} (h : tS (n * 3) L = true) (hn : n ≤ 1048576) : m17a_0 o n L = n := by
  unfold m17a_0
  rw [to17a o h hn]
  rfl
theorem to17a_1 (o : FO) {n : Nat} {L : List (AV o)} (h : tS (n * 3) L = true) (hn : n ≤ 1048576) : m17a_1 o n L = L := by
  unfold m17a_1
  rw [to17a o h hn]
  rfl
theorem to17a_2 (o : FO) {n : Nat} {L : List (AV o)} (h : tS (n * 3) L = true) (hn : n ≤ 1048576) : m17a_2 o n L = L := by
  unfold m17a_2
  rw [to17a o h hn]
  rfl
theorem to17b_ok (o : FO) : m17b_ok o = true := by
  unfold m17b_ok
  rw [to17b o]
  rfl
theorem to17b_0 (o : FO) : m17b_0 o = 0 := by
  unfold m17b_0
  rw [to17b o]
  rfl
theorem sz15 (o : FO) {n : Nat} (L : List (AV o)) (left : Nat) (hn : n ≤ maxLen) (hl : left ≤ 1048576) : m15_0 o n ((left : Nat) : Int) L = if n ≤ left then ((left - n : Nat) : Int) else -1 := by
  unfold m15_0
  have hm : maxLen = 9223372036854775807 := by decide
  rw [wrap64 (by omega) (by omega)]
  show (bif decide (((left : Nat) : Int) - ((n : Nat) : Int) < 0) then (-1 : Int) else ((left : Nat) : Int) - ((n : Nat) : Int)) = _
  by_cases h : n ≤ left
  · rw [if_pos h, decide_eq_false (by omega), cond_false]
    omega
  · rw [if_neg h, decide_eq_true (by omega), cond_true]
theorem sz15a (o : FO) : m15a_0 o (1048576 : Int) = 1048576 := by
  unfold m15a_0
  rfl
theorem law_true (n : Nat) (L : List A) (hx : n ≤ maxLen) (hL : L2 CK.is (List.replicate (n * 3) .f32) L) : ∃ h', f12 ieee n L = some (.bool true, h') := by
  have h := tS_of hL
  have e0 : f19 ieee 2000000 0 ([] : List A) = some (.bool true, [.live false true []]) := by
    unfold f19
    rfl
  have en := markNil ieee
  have eh := heldNil ieee
  have hz' : m15_0 ieee n (1048576 : Int) L = if n ≤ 1048576 then ((1048576 - n : Nat) : Int) else -1 := sz15 ieee L 1048576 hx (Nat.le_refl _)
  refine ⟨[.live false true L], ?_⟩
  unfold f12
  by_cases hn : n ≤ 1048576
  · rw [if_pos hn] at hz'
    have e : decide (((1048576 - n : Nat) : Int) < (0 : Int)) = false := decide_eq_false (by omega)
    have hq := eqls ieee h hn
    have hm := mark24 ieee h hn
    have e3 : decide (((n * 3 + 1 : Nat) : Int) < (0 : Int)) = false := decide_eq_false (by omega)
    rcases both ieee h hn with ⟨c, e1, e2⟩ | ⟨C, w, hn2, hC, e1, e2⟩
    · simp only [hz', e, to17_ok ieee h hn, to17_0 ieee h hn, to17_1 ieee h hn, to17_2 ieee h hn, to17a_ok ieee h hn, to17a_0 ieee h hn, to17a_1 ieee h hn, to17a_2 ieee h hn, m41_ok, k41, m41_0, g41_0, m41_1, g41_1, m41_2, g41_2, m41_3, g41_3, m41_4, g41_4, m42_ok, m42_ok1, k42, k42x1, m42_0, g42_0, m42_1, g42_1, m42_2, g42_2, m42_3, g42_3, m42_4, g42_4, m42_5, g42_5, m42_6, g42_6, m42_7, g42_7, e1, e2, hq, hm, e3, m19_ok, m19_0, k19, g19_0, e0, m24a_ok, m24a_0, k24a, g24a_0, en, m25_ok, m25_0, k25, g25_0, eh, m19a_ok, m19a_0, k19a, g19a_0, m24_ok, m24_0, m24_1, k24, g24_0, g24_1, m25a_ok, m25a_0, k25a, g25a_0, gd_true, cond_true, cond_false, Bool.not_true, bne_self_eq_false, show decide ((1 : Int) < 0) = false from rfl]
    · have hqC := eqls ieee hC hn
      have hmC := mark24 ieee hC hn
      have hhC := held25a (L := C) (n := n) (by omega)
      simp only [hz', e, to17_ok ieee h hn, to17_0 ieee h hn, to17_1 ieee h hn, to17_2 ieee h hn, to17a_ok ieee h hn, to17a_0 ieee h hn, to17a_1 ieee h hn, to17a_2 ieee h hn, m41_ok, k41, m41_0, g41_0, m41_1, g41_1, m41_2, g41_2, m41_3, g41_3, m41_4, g41_4, m42_ok, m42_ok1, k42, k42x1, m42_0, g42_0, m42_1, g42_1, m42_2, g42_2, m42_3, g42_3, m42_4, g42_4, m42_5, g42_5, m42_6, g42_6, m42_7, g42_7, e1, e2, hq, hm, e3, hqC, hmC, hhC, m19_ok, m19_0, k19, g19_0, e0, m24a_ok, m24a_0, k24a, g24a_0, en, m25_ok, m25_0, k25, g25_0, eh, m19a_ok, m19a_0, k19a, g19a_0, m24_ok, m24_0, m24_1, k24, g24_0, g24_1, m25a_ok, m25a_0, k25a, g25a_0, gd_true, cond_true, cond_false, Bool.not_true, bne_self_eq_false, show decide ((1 : Int) < 0) = false from rfl]
  · rw [if_neg hn] at hz'
    rw [hz']
    rfl
theorem law_truea : ∃ h', f12a ieee = some (.bool true, h') := by
  have h : tS (0 * 3) ([] : List A) = true := rfl
  have hn : 0 ≤ 1048576 := by omega
  have e0 : f19 ieee 2000000 0 ([] : List A) = some (.bool true, [.live false true []]) := by
    unfold f19
    rfl
  have en := markNil ieee
  have eh := heldNil ieee
  refine ⟨[], ?_⟩
  unfold f12a
  rw [sz15a]
  have e : decide ((1048576 : Int) < (0 : Int)) = false := rfl
  have hq := eqls ieee h hn
  have hm := mark24 ieee h hn
  have e3 : decide (((0 * 3 + 1 : Nat) : Int) < (0 : Int)) = false := decide_eq_false (by omega)
  rcases both ieee h hn with ⟨c, e1, e2⟩ | ⟨C, w, hn2, hC, e1, e2⟩
  · simp only [e, to17b_ok, to17b_0, m41_ok, k41, m41_0, g41_0, m41_1, g41_1, m41_2, g41_2, m41_3, g41_3, m41_4, g41_4, m42_ok, m42_ok1, k42, k42x1, m42_0, g42_0, m42_1, g42_1, m42_2, g42_2, m42_3, g42_3, m42_4, g42_4, m42_5, g42_5, m42_6, g42_6, m42_7, g42_7, e1, e2, hq, hm, e3, m19_ok, m19_0, k19, g19_0, e0, m24a_ok, m24a_0, k24a, g24a_0, en, m25_ok, m25_0, k25, g25_0, eh, m19a_ok, m19a_0, k19a, g19a_0, m24_ok, m24_0, m24_1, k24, g24_0, g24_1, m25a_ok, m25a_0, k25a, g25a_0, gd_true, cond_true, cond_false, Bool.not_true, bne_self_eq_false, show decide ((1 : Int) < 0) = false from rfl]
  · have hqC := eqls ieee hC hn
    have hmC := mark24 ieee hC hn
    have hhC := held25a (L := C) (n := 0) (by omega)
    simp only [e, to17b_ok, to17b_0, m41_ok, k41, m41_0, g41_0, m41_1, g41_1, m41_2, g41_2, m41_3, g41_3, m41_4, g41_4, m42_ok, m42_ok1, k42, k42x1, m42_0, g42_0, m42_1, g42_1, m42_2, g42_2, m42_3, g42_3, m42_4, g42_4, m42_5, g42_5, m42_6, g42_6, m42_7, g42_7, e1, e2, hq, hm, e3, hqC, hmC, hhC, m19_ok, m19_0, k19, g19_0, e0, m24a_ok, m24a_0, k24a, g24a_0, en, m25_ok, m25_0, k25, g25_0, eh, m19a_ok, m19a_0, k19a, g19a_0, m24_ok, m24_0, m24_1, k24, g24_0, g24_1, m25a_ok, m25a_0, k25a, g25a_0, gd_true, cond_true, cond_false, Bool.not_true, bne_self_eq_false, show decide ((1 : Int) < 0) = false from rfl]

theorem own : ownKnob Try.prog.godebug = none := by kernel_rfl
theorem laidOut : laidOutB Try.prog = true := by kernel_rfl
set_option maxRecDepth 100000 in
theorem lifted (os : Os) (started : os.Started) (H : Type) (enc : TypeId × Value → H) :
    ReturnsInHanded {} Try.checked os 12 .any (Rows.fnExactSteadySoundingSpec.pre6 enc Try.prog Try.f12 Rows.fnExactSteadySoundingRow.domain false) (Rows.fnExactSteadySoundingSpec.post enc Try.prog Try.f12 false true false false) := by
  refine returnsInHanded_of_change (C := Try.checked) own started (by kernel_rfl) Try.func12
    (ChangeSpec.witness6 (enc := enc) (C := Try.checked) false ⟨#[], #[.slice none 0 0], []⟩ 8 (by kernel_rfl) (by kernel_rfl) (by kernel_rfl) (by kernel_rfl)) ?_
  intro W base args ds gs before hval0 hW hcnd _
  have hval : ∀ (j : Nat) t v, Try.f12.params[j]? = some t → args[j]? = some v → Value.okWide Try.prog W .any base t v := hval0
  have hW' := hW
  obtain ⟨p, q, hA0, hV, rfl, hfz, hnd⟩ := hW
  have hA : DataW.TrodAll enc Try.prog W 0 (fun _ => true) true Try.f12.params.toList args.toList ds p := hA0
  have hA1 := hA
  rw [Try.params12] at hA hval
  obtain ⟨v0, vs0, d0, ds0, p0, q0, hargs, rfl, rfl, h0, r0'⟩ := trodAll_cons hA
  obtain ⟨rfl, rfl, rfl⟩ := trodAll_nil r0'
  obtain rfl : args = #[v0] := by cases args; simp_all
  obtain ⟨rfl, rfl⟩ := trodVars_none hV
  clear hA0 hval0
  rcases open_blk (e := 73) (n0 := 6) (k0 := .f32) (es := 3) (by kernel_rfl) (by kernel_rfl) (by kernel_rfl) (by decide) h0 (hval 0 22 v0 rfl rfl) with hnil0 | ⟨g0, n0, L0, hB0, hL0, hn0, hV0⟩
  · obtain ⟨h', hx0⟩ := law_truea 
    have hx := (eq12a ieee 2000000 ).trans hx0
    refine (law_calls (cok12a 2000000 (by decide)) (is12a 2000000) hx (hrel_nil W) (by intro b hb fl cs e; simp at hb <;> simp_all) (L2.cons (show VRel _ (.nilslice : A) v0 from hnil0) (L2.nil _))).mono fun e W' ⟨he, bel⟩ => ?_
    subst he
    exact ⟨_, rfl, _, _, _, [], _, [], hW', trodAll_mk1 (shut_bool (by kernel_rfl) _), trodAll_stays laidOut bel (by kernel_rfl) hA1, rfl, bel.frame _, fun h => by cases h⟩
  · obtain ⟨h', hx0⟩ := law_true n0 L0 hn0 hL0
    have hx := (eq12 ieee 2000000 n0 L0).trans hx0
    refine (law_calls (cok12 2000000 (by decide)) (is12 2000000) hx (hrel_one hB0) (by intro b hb fl cs e; simp at hb <;> simp_all) (L2.cons (hV0 _ 0 rfl) (L2.nil _))).mono fun e W' ⟨he, bel⟩ => ?_
    subst he
    exact ⟨_, rfl, _, _, _, [], _, [], hW', trodAll_mk1 (shut_bool (by kernel_rfl) _), trodAll_stays laidOut bel (by kernel_rfl) hA1, rfl, bel.frame _, fun h => by cases h⟩

/-- The statement. -/
theorem proved : Rows.FnExactSteadySoundingSaid :=
  OpenClaim.holds_of_wide 12 Try.f12 rfl rfl rfl rfl rfl rfl rfl ⟨rfl, rfl, rfl, rfl, rfl⟩ rfl rfl rfl rfl rfl (by kernel_rfl) Try.func12 (by kernel_rfl)
    (of_decide_eq_true (by kernel_rfl)) (by unfold Func.isWrapper; first | (rw [if_pos (by decide +kernel)]; kernel_rfl) | (rw [if_neg (by decide +kernel)]; exact ⟨rfl, rfl⟩))
    (fun os started H enc _ => lifted os started H enc)
end Go.Proofs.Ytihmppdnglfjnaa.fnExactSteadySounding
