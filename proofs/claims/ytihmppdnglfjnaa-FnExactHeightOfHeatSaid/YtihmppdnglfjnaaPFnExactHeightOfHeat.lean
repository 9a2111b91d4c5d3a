/- FnExactHeightOfHeat returns true for all arguments. Conditions: none. -/
import Derived.Test.YtihmppdnglfjnaaRows
import Derived.Test.YtihmppdnglfjnaaG1
set_option linter.unusedVariables false
set_option linter.unusedSimpArgs false
set_option maxRecDepth 100000
namespace Go.Proofs.Ytihmppdnglfjnaa.fnExactHeightOfHeat
open Go.Ab Go.RowKit Go.ChangeShapes Go.WideShapes Go.ChangeAt
theorem to17 (o : FO) {n : Nat} {L : List (AV o)} (h : tS (n * 3) L = true) (hn : n ≤ 1048576) : f17 o 2000000 n L = some (.slice 1 0 n 3, [.live false true L, .live true true L]) := by
  have hl := tS_len h
  unfold f17
  rw [mkOk hn, gd_true, zeros_3, Int.toNat_natCast]
  have := iter_up (f17_L0 o 2000000) (fun i => (n, n, (i : Int), L, fillS L (i * 3) (n * 3))) n (some (.slice 1 0 n 3, [.live false true L, .live true true L])) 2000000 (by omega) (fun i hi s0 => by
    unfold f17_L0
    simp (disch := omega) only [dlt, dnl, dge, dpo, dp0, wrS, wrP, wrQ, Int.toNat_natCast, Nat.zero_add, Nat.add_zero, Nat.add_assoc, Nat.reduceAdd, Nat.mul_one, Nat.add_sub_cancel, Bool.and_true, Bool.true_and, Bool.and_self, gd_true, cond_true, cond_false, rdS_t h, fillS_3 h, Nat.succ_mul]) (fun s0 => by
    unfold f17_L0
    simp (disch := omega) only [dlt, dnl, dge, dpo, dp0, wrS, wrP, wrQ, Int.toNat_natCast, Nat.zero_add, Nat.add_zero, Nat.add_assoc, Nat.reduceAdd, Nat.mul_one, Nat.add_sub_cancel, Bool.and_true, Bool.true_and, Bool.and_self, gd_true, cond_true, cond_false, rdS_t h, fillS_all hl])
  rw [show (0 : Nat) * 3 = 0 from rfl, fillS_0] at this
  exact this
theorem to17a (o : FO) {n : Nat} {L : List (AV o)} (h : tS (n * 3) L = true) (hn : n ≤ 1048576) : f17a o 2000000 n L = some (.slice 1 0 n 3, [.live true true L, .live true true L]) := by
  have hl := tS_len h
  unfold f17a
  rw [mkOk hn, gd_true, zeros_3, Int.toNat_natCast]
  have := iter_up (f17a_L0 o 2000000) (fun i => (n, n, (i : Int), L, fillS L (i * 3) (n * 3))) n (some (.slice 1 0 n 3, [.live true true L, .live true true L])) 2000000 (by omega) (fun i hi s0 => by
    unfold f17a_L0
    simp (disch := omega) only [dlt, dnl, dge, dpo, dp0, wrS, wrP, wrQ, Int.toNat_natCast, Nat.zero_add, Nat.add_zero, Nat.add_assoc, Nat.reduceAdd, Nat.mul_one, Nat.add_sub_cancel, Bool.and_true, Bool.true_and, Bool.and_self, gd_true, cond_true, cond_false, rdS_t h, fillS_3 h, Nat.succ_mul]) (fun s0 => by
    unfold f17a_L0
    simp (disch := omega) only [dlt, dnl, dge, dpo, dp0, wrS, wrP, wrQ, Int.toNat_natCast, Nat.zero_add, Nat.add_zero, Nat.add_assoc, Nat.reduceAdd, Nat.mul_one, Nat.add_sub_cancel, Bool.and_true, Bool.true_and, Bool.and_self, gd_true, cond_true, cond_false, rdS_t h, fillS_all hl])
  rw [show (0 : Nat) * 3 = 0 from rfl, fillS_0] at this
  exact this
theorem to17b (o : FO) : f17b o 2000000 = some (.slice 0 0 0 3, [.live true true []]) := by
  unfold f17b
  rfl
theorem air (o : FO) {m off : Nat} {L : List (AV o)} (h : tS m L = true) (hi : off + 1 < m) : f67 o off L = some (.bool (m69_0 o (lkS L off) (lkS L (off + 1))), [.live false true L]) := by
  unfold f67
  simp (disch := omega) only [dlt, dnl, dge, dpo, dp0, wrS, wrP, wrQ, Int.toNat_natCast, Nat.zero_add, Nat.add_zero, Nat.add_assoc, Nat.reduceAdd, Nat.mul_one, Nat.add_sub_cancel, Bool.and_true, Bool.true_and, Bool.and_self, gd_true, cond_true, cond_false, rdS_t h]
  show _ = some ((.bool (bif m91_0 o (lkS L off) then (bif amtS o (lkS L (off + 1)) then o.sle (lkS L (off + 1)) (o.slit 1148846080) else false) else false) : AV o), _)
  cases m91_0 o (lkS L off) <;> cases amtS o (lkS L (off + 1)) <;> cases o.sle (lkS L (off + 1)) (o.slit 1148846080) <;> rfl
noncomputable def bad (o : FO) (L : List (AV o)) (i : Nat) : Bool :=
  !(m49_0 o (lkS L (i * 3)) (lkS L (i * 3 + 1)) (lkS L (i * 3 + 2)) && (bif Nat.blt 0 i then o.slt (lkS L ((i - 1) * 3)) (lkS L (i * 3)) else true))
noncomputable def vald (o : FO) (n : Nat) (L : List (AV o)) : Bool := (fnd (bad o L) n 0).isNone && m60_0 o ((n : Nat) : Int) (2 : Int) (32 : Int)
theorem vald_le (o : FO) {n : Nat} {L : List (AV o)} (h : vald o n L = true) : 2 ≤ n ∧ n ≤ 32 := by
  unfold vald at h
  rw [Bool.and_eq_true] at h
  have := h.2
  unfold m60_0 at this
  cases h1 : decide (((n : Nat) : Int) ≥ 2) with
  | false => rw [h1] at this; cases this
  | true =>
    rw [h1] at this
    have h2 := of_decide_eq_true h1
    have h3 : ((n : Nat) : Int) ≤ 32 := of_decide_eq_true this
    omega
theorem vald_bad (o : FO) {n : Nat} {L : List (AV o)} (h : vald o n L = true) {i : Nat} (hi : i < n) : bad o L i = false := by
  unfold vald at h
  rw [Bool.and_eq_true] at h
  exact fnd_none (Option.isNone_iff_eq_none.1 h.1) i (by omega) (by omega)
theorem step58 (o : FO) {n : Nat} {L : List (AV o)} (h : tS (n * 3) L = true) (hn : n ≤ 1048576) (i : Nat) (hi : i < n) (s0) :
    f58_L0 o 2000000 s0 (n, ((i : Nat) : Int), L) = bif bad o L i then some (.bool false, [.live false true L]) else s0 (n, ((i + 1 : Nat) : Int), L) := by
  have ha := air o h (off := i * 3 + 1) (by omega)
  unfold f58_L0 bad m49_0
  rcases Nat.eq_zero_or_pos i with rfl | hp
  · simp (disch := omega) only [dlt, dnl, dge, dpo, dp0, wrS, wrP, wrQ, Int.toNat_natCast, Nat.zero_add, Nat.add_zero, Nat.add_assoc, Nat.reduceAdd, Nat.mul_one, Nat.add_sub_cancel, Bool.and_true, Bool.true_and, Bool.and_self, gd_true, cond_true, cond_false, rdS_t h, Nat.zero_mul, show Nat.blt 0 0 = false from rfl, Nat.add_assoc] at ha ⊢
    try simp only [m67_ok, m67_0, k67, g67_0, ha, gd_true]
    try rw [show m86_0 o (lkS L 0) = m82_0 o (lkS L 0) from rfl]
    cases m82_0 o (lkS L 0) <;> cases m69_0 o (lkS L 1) (lkS L 2) <;> rfl
  · have hb : Nat.blt 0 i = true := by simp [Nat.blt, Nat.ble_eq]; omega
    simp (disch := omega) only [dlt, dnl, dge, dpo, dp0, wrS, wrP, wrQ, Int.toNat_natCast, Nat.zero_add, Nat.add_zero, Nat.add_assoc, Nat.reduceAdd, Nat.mul_one, Nat.add_sub_cancel, Bool.and_true, Bool.true_and, Bool.and_self, gd_true, cond_true, cond_false, rdS_t h, hb, Nat.add_assoc] at ha ⊢
    try simp only [m67_ok, m67_0, k67, g67_0, ha, gd_true]
    try rw [show m86_0 o (lkS L (i * 3)) = m82_0 o (lkS L (i * 3)) from rfl]
    cases m82_0 o (lkS L (i * 3)) <;> cases m69_0 o (lkS L (i * 3 + 1)) (lkS L (i * 3 + 2)) <;> cases o.slt (lkS L ((i - 1) * 3)) (lkS L (i * 3)) <;> rfl
theorem snd58 (o : FO) {n : Nat} {L : List (AV o)} (h : tS (n * 3) L = true) (hn : n ≤ 1048576) : f58 o 2000000 n L = some (.bool (vald o n L), [.live false true L]) := by
  have := iter_find (f58_L0 o 2000000) (fun i => (n, ((i : Nat) : Int), L)) n (bad o L) (fun _ => some (.bool false, [.live false true L])) (some (.bool (m60_0 o ((n : Nat) : Int) (2 : Int) (32 : Int)), [.live false true L]))
    (fun i hi s0 => step58 o h hn i hi s0) (fun s0 => by
      unfold f58_L0
      simp (disch := omega) only [dlt, dnl, dge, dpo, dp0, wrS, wrP, wrQ, Int.toNat_natCast, Nat.zero_add, Nat.add_zero, Nat.add_assoc, Nat.reduceAdd, Nat.mul_one, Nat.add_sub_cancel, Bool.and_true, Bool.true_and, Bool.and_self, gd_true, cond_true, cond_false, rdS_t h]) n 0 2000000 (by omega) (by omega)
  refine Eq.trans this ?_
  unfold vald
  cases fnd (bad o L) n 0 <;> rfl
theorem sndOk58 (o : FO) {n : Nat} {L : List (AV o)} (h : tS (n * 3) L = true) (hn : n ≤ 1048576) : m58_ok o n L = true := by
  unfold m58_ok
  rw [snd58 o h hn]
  rfl
theorem snd058 (o : FO) {n : Nat} {L : List (AV o)} (h : tS (n * 3) L = true) (hn : n ≤ 1048576) : m58_0 o n L = vald o n L := by
  unfold m58_0
  rw [snd58 o h hn]
  rfl
theorem step21 (o : FO) {n : Nat} {L : List (AV o)} (h : tS (n * 3) L = true) (hn : n ≤ 1048576) (i : Nat) (hi : i < n) (s0) :
    f21_L0 o 2000000 s0 (n, n, ((n : Nat) : Int), ((i : Nat) : Int), L) = bif bad o L i then some (.bool false, [.live false true L]) else s0 (n, n, ((n : Nat) : Int), ((i + 1 : Nat) : Int), L) := by
  have ha := air o h (off := i * 3 + 1) (by omega)
  unfold f21_L0 bad m49_0
  rcases Nat.eq_zero_or_pos i with rfl | hp
  · simp (disch := omega) only [dlt, dnl, dge, dpo, dp0, wrS, wrP, wrQ, Int.toNat_natCast, Nat.zero_add, Nat.add_zero, Nat.add_assoc, Nat.reduceAdd, Nat.mul_one, Nat.add_sub_cancel, Bool.and_true, Bool.true_and, Bool.and_self, gd_true, cond_true, cond_false, rdS_t h, Nat.zero_mul, show Nat.blt 0 0 = false from rfl, Nat.add_assoc] at ha ⊢
    try simp only [m67_ok, m67_0, k67, g67_0, ha, gd_true]
    try rw [show m86_0 o (lkS L 0) = m82_0 o (lkS L 0) from rfl]
    cases m82_0 o (lkS L 0) <;> cases m69_0 o (lkS L 1) (lkS L 2) <;> rfl
  · have hb : Nat.blt 0 i = true := by simp [Nat.blt, Nat.ble_eq]; omega
    simp (disch := omega) only [dlt, dnl, dge, dpo, dp0, wrS, wrP, wrQ, Int.toNat_natCast, Nat.zero_add, Nat.add_zero, Nat.add_assoc, Nat.reduceAdd, Nat.mul_one, Nat.add_sub_cancel, Bool.and_true, Bool.true_and, Bool.and_self, gd_true, cond_true, cond_false, rdS_t h, hb, Nat.add_assoc] at ha ⊢
    try simp only [m67_ok, m67_0, k67, g67_0, ha, gd_true]
    try rw [show m86_0 o (lkS L (i * 3)) = m82_0 o (lkS L (i * 3)) from rfl]
    cases m82_0 o (lkS L (i * 3)) <;> cases m69_0 o (lkS L (i * 3 + 1)) (lkS L (i * 3 + 2)) <;> cases o.slt (lkS L ((i - 1) * 3)) (lkS L (i * 3)) <;> rfl
theorem snd21 (o : FO) {n : Nat} {L : List (AV o)} (h : tS (n * 3) L = true) (hn : n ≤ 1048576) : f21 o 2000000 n L = some (.bool (vald o n L), [.live false true L]) := by
  have := iter_find (f21_L0 o 2000000) (fun i => (n, n, ((n : Nat) : Int), ((i : Nat) : Int), L)) n (bad o L) (fun _ => some (.bool false, [.live false true L])) (some (.bool (m59_0 o ((n : Nat) : Int) (2 : Int) (32 : Int)), [.live false true L]))
    (fun i hi s0 => step21 o h hn i hi s0) (fun s0 => by
      unfold f21_L0
      simp (disch := omega) only [dlt, dnl, dge, dpo, dp0, wrS, wrP, wrQ, Int.toNat_natCast, Nat.zero_add, Nat.add_zero, Nat.add_assoc, Nat.reduceAdd, Nat.mul_one, Nat.add_sub_cancel, Bool.and_true, Bool.true_and, Bool.and_self, gd_true, cond_true, cond_false, rdS_t h]) n 0 2000000 (by omega) (by omega)
  refine Eq.trans this ?_
  unfold vald
  cases fnd (bad o L) n 0 <;> rfl
theorem sndOk21 (o : FO) {n : Nat} {L : List (AV o)} (h : tS (n * 3) L = true) (hn : n ≤ 1048576) : m21_ok o n L = true := by
  unfold m21_ok
  rw [snd21 o h hn]
  rfl
theorem snd021 (o : FO) {n : Nat} {L : List (AV o)} (h : tS (n * 3) L = true) (hn : n ≤ 1048576) : m21_0 o n L = vald o n L := by
  unfold m21_0
  rw [snd21 o h hn]
  rfl
theorem same30 (o : FO) (x : o.D) : m30_0 o x x = true := by
  unfold m30_0
  cases h : o.deq x x
  · rfl
  · cases h0 : o.deq x (o.dlit 0)
    · rfl
    · simp
theorem eql (o : FO) (a b c : o.S) : m57_0 o a b c a b c = true := by
  unfold m57_0 m33_0
  simp only [same30]
  rfl
theorem eqls (o : FO) {n : Nat} {L : List (AV o)} (h : tS (n * 3) L = true) (hn : n ≤ 1048576) : f19 o 2000000 n n L L = some (.bool true, [.live false true L, .live false true L]) := by
  unfold f19
  rw [bne_self_eq_false, cond_false]
  have := iter_up (f19_L0 o 2000000) (fun i => (n, n, ((i : Nat) : Int), L, L)) n (some (.bool true, [.live false true L, .live false true L])) 2000000 (by omega) (fun i hi s0 => by
    unfold f19_L0
    simp (disch := omega) only [dlt, dnl, dge, dpo, dp0, wrS, wrP, wrQ, Int.toNat_natCast, Nat.zero_add, Nat.add_zero, Nat.add_assoc, Nat.reduceAdd, Nat.mul_one, Nat.add_sub_cancel, Bool.and_true, Bool.true_and, Bool.and_self, gd_true, cond_true, cond_false, rdS_t h, eql, Bool.not_true]) (fun s0 => by
    unfold f19_L0
    simp (disch := omega) only [dlt, dnl, dge, dpo, dp0, wrS, wrP, wrQ, Int.toNat_natCast, Nat.zero_add, Nat.add_zero, Nat.add_assoc, Nat.reduceAdd, Nat.mul_one, Nat.add_sub_cancel, Bool.and_true, Bool.true_and, Bool.and_self, gd_true, cond_true, cond_false, rdS_t h])
  exact this
theorem eqlsOk (o : FO) {n : Nat} {L : List (AV o)} (h : tS (n * 3) L = true) (hn : n ≤ 1048576) : m19_ok o n n L L = true := by
  unfold m19_ok
  rw [eqls o h hn]
  rfl
theorem eqls0 (o : FO) {n : Nat} {L : List (AV o)} (h : tS (n * 3) L = true) (hn : n ≤ 1048576) : m19_0 o n n L L = true := by
  unfold m19_0
  rw [eqls o h hn]
  rfl
theorem fine {L : List A} {i : Nat} (hb : bad ieee L i = false) : m82_0 ieee (lkS L (i * 3)) = true ∧ m69_0 ieee (lkS L (i * 3 + 1)) (lkS L (i * 3 + 2)) = true ∧ (0 < i → ieee.slt (lkS L ((i - 1) * 3)) (lkS L (i * 3)) = true) := by
  unfold bad m49_0 at hb
  revert hb
  cases m82_0 ieee (lkS L (i * 3))
  · intro hb; cases hb
  · cases m69_0 ieee (lkS L (i * 3 + 1)) (lkS L (i * 3 + 2))
    · intro hb; cases hb
    · intro hb
      refine ⟨rfl, rfl, fun hi => ?_⟩
      have : Nat.blt 0 i = true := by simp [Nat.blt, Nat.ble_eq]; omega
      rw [this] at hb
      simpa using hb
theorem numH {x : ieee.S} (h : m82_0 ieee x = true) : num x := by
  unfold m82_0 at h
  cases ha : amtS ieee x with
  | false => rw [ha] at h; cases h
  | true =>
    unfold amtS at ha
    cases hf : finS ieee x with
    | false => rw [hf] at ha; cases ha
    | true => exact num_of_fin hf
theorem numT {x y : ieee.S} (h : m69_0 ieee x y = true) : num x := by
  unfold m69_0 at h
  cases ht : m93_0 ieee x with
  | false => rw [ht] at h; cases h
  | true =>
    unfold m93_0 at ht
    cases hs : ieee.sle (ieee.slit 3262119936) x with
    | false => rw [hs] at ht; cases ht
    | true => exact (num_of_le hs).2
theorem hnum {n : Nat} {L : List A} (hv : vald ieee n L = true) {i : Nat} (hi : i < n) : num (lkS L (i * 3)) := numH (fine (vald_bad ieee hv hi)).1
theorem tnum {n : Nat} {L : List A} (hv : vald ieee n L = true) {i : Nat} (hi : i < n) : num (lkS L (i * 3 + 1)) := numT (fine (vald_bad ieee hv hi)).2.1
theorem rise1 {n : Nat} {L : List A} (hv : vald ieee n L = true) {i : Nat} (hi : i + 1 < n) : rk (lkS L (i * 3)) < rk (lkS L ((i + 1) * 3)) := by
  have h := (fine (vald_bad ieee hv hi)).2.2 (by omega)
  rw [show i + 1 - 1 = i from rfl, slt_rk (hnum hv (by omega)) (hnum hv hi)] at h
  exact of_decide_eq_true h
theorem rise {n : Nat} {L : List A} (hv : vald ieee n L = true) : ∀ (d i : Nat), i + d + 1 < n → rk (lkS L (i * 3)) < rk (lkS L ((i + d + 1) * 3)) := by
  intro d
  induction d with
  | zero => intro i hi; exact rise1 hv hi
  | succ d ih => intro i hi; exact Int.lt_trans (ih i (by omega)) (rise1 hv (i := i + d + 1) hi)
theorem rises {n : Nat} {L : List A} (hv : vald ieee n L = true) {i j : Nat} (hij : i < j) (hj : j < n) : rk (lkS L (i * 3)) < rk (lkS L (j * 3)) := by
  have := rise hv (j - i - 1) i (by omega)
  rw [show i + (j - i - 1) + 1 = j by omega] at this
  exact this
noncomputable def hit (o : FO) (L : List (AV o)) (x : o.S) (i : Nat) : Bool := (o.sle (lkS L (i * 3 + 1)) x && o.sle x (lkS L ((i + 1) * 3 + 1))) || (o.sle (lkS L ((i + 1) * 3 + 1)) x && o.sle x (lkS L (i * 3 + 1)))
noncomputable def hit2 (o : FO) (L : List (AV o)) (x : o.S) (i : Nat) : Bool := !(o.slt x (o.smin (lkS L (i * 3 + 1)) (lkS L ((i + 1) * 3 + 1)))) && !(o.slt (o.smax (lkS L (i * 3 + 1)) (lkS L ((i + 1) * 3 + 1))) x)
noncomputable def hgt (o : FO) (L : List (AV o)) (x : o.S) (i : Nat) : o.S := o.sadd (lkS L (i * 3)) (o.smul (o.ssub (lkS L ((i + 1) * 3)) (lkS L (i * 3))) (bif o.seq (lkS L (i * 3 + 1)) (lkS L ((i + 1) * 3 + 1)) then o.slit 0 else o.sdiv (o.ssub x (lkS L (i * 3 + 1))) (o.ssub (lkS L ((i + 1) * 3 + 1)) (lkS L (i * 3 + 1)))))
noncomputable def hohR (o : FO) (p : Nat → Bool) (n : Nat) (L : List (AV o)) (x : o.S) : R o := onFnd (fnd p (n - 1) 0) (fun i => some (.tup [.f32 (hgt o L x i), .int .i64 (0 : Int)], [.live false true L])) (some (.tup [.f32 (o.slit 0), .int .i64 (6 : Int)], [.live false true L]))
theorem lp28 (o : FO) {n : Nat} {L : List (AV o)} (h : tS (n * 3) L = true) (hn : n ≤ 1048576) (h1 : 1 ≤ n) (x : o.S) : iter (f28_L0 o 2000000) 2000000 (n, x, ((0 : Nat) : Int), L) = hohR o (hit o L x) n L x := by
  have := iter_find (f28_L0 o 2000000) (fun i => (n, x, ((i : Nat) : Int), L)) (n - 1) (hit o L x) (fun i => some (.tup [.f32 (hgt o L x i), .int .i64 (0 : Int)], [.live false true L])) (some (.tup [.f32 (o.slit 0), .int .i64 (6 : Int)], [.live false true L]))
    (fun i hi s0 => by
      unfold f28_L0 hit hgt
      simp (disch := omega) only [dlt, dnl, dge, dpo, dp0, wrS, wrP, wrQ, Int.toNat_natCast, Nat.zero_add, Nat.add_zero, Nat.add_assoc, Nat.reduceAdd, Nat.mul_one, Nat.add_sub_cancel, Bool.and_true, Bool.true_and, Bool.and_self, gd_true, cond_true, cond_false, rdS_t h]
      cases o.sle (lkS L (i * 3 + 1)) x <;> cases o.sle x (lkS L ((i + 1) * 3 + 1)) <;> cases o.sle (lkS L ((i + 1) * 3 + 1)) x <;> cases o.sle x (lkS L (i * 3 + 1)) <;> cases o.seq (lkS L (i * 3 + 1)) (lkS L ((i + 1) * 3 + 1)) <;> rfl) (fun s0 => by
      unfold f28_L0
      simp (disch := omega) only [dlt, dnl, dge, dpo, dp0, wrS, wrP, wrQ, Int.toNat_natCast, Nat.zero_add, Nat.add_zero, Nat.add_assoc, Nat.reduceAdd, Nat.mul_one, Nat.add_sub_cancel, Bool.and_true, Bool.true_and, Bool.and_self, gd_true, cond_true, cond_false, rdS_t h]) (n - 1) 0 2000000 (by omega) (by omega)
  exact this
theorem lp29 (o : FO) {n : Nat} {L : List (AV o)} (h : tS (n * 3) L = true) (hn : n ≤ 1048576) (h1 : 1 ≤ n) (x : o.S) : iter (f29_L0 o 2000000) 2000000 (n, x, ((1 : Nat) : Int), L) = hohR o (hit2 o L x) n L x := by
  have := iter_find (f29_L0 o 2000000) (fun i => (n, x, ((i + 1 : Nat) : Int), L)) (n - 1) (hit2 o L x) (fun i => some (.tup [.f32 (hgt o L x i), .int .i64 (0 : Int)], [.live false true L])) (some (.tup [.f32 (o.slit 0), .int .i64 (6 : Int)], [.live false true L]))
    (fun i hi s0 => by
      unfold f29_L0 hit2 hgt
      simp (disch := omega) only [dlt, dnl, dge, dpo, dp0, wrS, wrP, wrQ, Int.toNat_natCast, Nat.zero_add, Nat.add_zero, Nat.add_assoc, Nat.reduceAdd, Nat.mul_one, Nat.add_sub_cancel, Bool.and_true, Bool.true_and, Bool.and_self, gd_true, cond_true, cond_false, rdS_t h]
      cases o.slt x (o.smin (lkS L (i * 3 + 1)) (lkS L ((i + 1) * 3 + 1))) <;> cases o.slt (o.smax (lkS L (i * 3 + 1)) (lkS L ((i + 1) * 3 + 1))) x <;> cases o.seq (lkS L (i * 3 + 1)) (lkS L ((i + 1) * 3 + 1)) <;> rfl) (fun s0 => by
      unfold f29_L0
      simp (disch := omega) only [dlt, dnl, dge, dpo, dp0, wrS, wrP, wrQ, Int.toNat_natCast, Nat.zero_add, Nat.add_zero, Nat.add_assoc, Nat.reduceAdd, Nat.mul_one, Nat.add_sub_cancel, Bool.and_true, Bool.true_and, Bool.and_self, gd_true, cond_true, cond_false, rdS_t h]) (n - 1) 0 2000000 (by omega) (by omega)
  exact this
theorem hits {n : Nat} {L : List A} (hv : vald ieee n L = true) {x : ieee.S} (hx : num x) {i : Nat} (hi : i + 1 < n) : hit2 ieee L x i = hit ieee L x i := by
  have ha := tnum hv (i := i) (by omega)
  have hb := tnum hv (i := i + 1) hi
  unfold hit2 hit
  obtain ⟨m1, m2⟩ := smin_rk ha hb
  obtain ⟨m3, m4⟩ := smax_rk ha hb
  rw [slt_rk hx m1, slt_rk m3 hx, sle_rk ha hx, sle_rk hx hb, sle_rk hb hx, sle_rk hx ha, m2, m4]
  rw [Bool.eq_iff_iff]
  simp only [Bool.and_eq_true, Bool.or_eq_true, Bool.not_eq_true', decide_eq_true_eq, decide_eq_false_iff_not]
  omega
theorem main {n : Nat} {L : List A} (h : tS (n * 3) L = true) (hn : n ≤ 1048576) (x : ieee.S) : m28_ok ieee n x L = true ∧ m29_ok ieee n x L = true ∧ m29_0 ieee n x L = m28_0 ieee n x L ∧ m29_1 ieee n x L = m28_1 ieee n x L := by
  have e1 : f29 ieee 2000000 n x L = f28 ieee 2000000 n x L ∧ k28 ieee (f28 ieee 2000000 n x L) = true := by
    unfold f28 f29
    have hs : segF ([.f32 x] : List A) 0 1 = true := rfl
    have hf : finSeg ([.f32 x] : List A) 0 1 = finS ieee x := Bool.and_true _
    have hf2 : m63_0 ieee x = finS ieee x := rfl
    simp only [sndOk58 ieee h hn, sndOk21 ieee h hn, snd058 ieee h hn, snd021 ieee h hn, gd_true, hs, hf, hf2]
    cases hv : vald ieee n L
    · exact ⟨rfl, rfl⟩
    · cases hx : finS ieee x
      · exact ⟨rfl, rfl⟩
      · obtain ⟨h2, _⟩ := vald_le ieee hv
        simp only [Bool.not_true, cond_false]
        have l1 := lp28 ieee h hn (by omega) x
        have l2 := lp29 ieee h hn (by omega) x
        have l3 : hohR ieee (hit2 ieee L x) n L x = hohR ieee (hit ieee L x) n L x := by
          unfold hohR
          rw [fnd_congr (fun j _ hj => hits hv (num_of_fin hx) (by omega))]
        refine ⟨l2.trans (l3.trans l1.symm), ?_⟩
        rw [show iter (f28_L0 ieee 2000000) 2000000 (n, x, (0 : Int), L) = _ from l1]
        unfold hohR
        cases fnd (hit ieee L x) (n - 1) 0 <;> rfl
  have g : ∀ r, k29 ieee r = k28 ieee r := fun _ => rfl
  have g0 : ∀ r, g29_0 ieee r = g28_0 ieee r := fun _ => rfl
  have g1 : ∀ r, g29_1 ieee r = g28_1 ieee r := fun _ => rfl
  unfold m28_ok m29_ok m28_0 m29_0 m28_1 m29_1
  rw [g, g0, g1, e1.1]
  exact ⟨e1.2, e1.2, rfl, rfl⟩
theorem to17_ok (o : FO) {n : Nat} {L : List (AV o)} (h : tS (n * 3) L = true) (hn : n ≤ 1048576) : m17_ok o n L = true := by
  unfold m17_ok
  rw [to17 o h hn]
  rfl
theorem to17_0 (o : FO) {n : Nat} {L : List (AV o)} (h : tS (n * 3) L = true) (hn : n ≤ 1048576) : m17_0 o n L = n := by
  unfold m17_0
  rw [to17 o h hn]
  rfl
theorem to17_1 (o : FO) {n : Nat} {L : List (AV o)} (h : tS (n * 3) L = true) (hn : n ≤ 1048576) : m17_1 o n L = L := by
  unfold m17_1
  rw [to17 o h hn]
  rfl
theorem to17_2 (o : FO) {n : Nat} {L : List (AV o)} (h : tS (n * 3) L = true) (hn : n ≤ 1048576) : m17_2 o n L = L := by
  unfold m17_2
  rw [to17 o h hn]
  rfl
theorem to17a_ok (o : FO) {n : Nat} {L : List (AV o)} (h : tS (n * 3) L = true) (hn : n ≤ 1048576) : m17a_ok o n L = true := by
  unfold m17a_ok
  rw [to17a o h hn]
  rfl
theorem to17a_0 (o : FO) {n : Nat} {L : List (AV o)} (h : tS (n * 3) L = true) (hn : n ≤ 1048576) : m17a_0 o n L = n := by
  unfold m17a_0
  rw [to17a o h hn]
  rfl
theorem to17a_1 (o : FO) {n : Nat} {L : List (AV o)} (h : tS (n * 3) L = true) (hn : n ≤ 1048576) : m17a_1 o n L = L := by
  unfold m17a_1
  rw [to17a o h hn]
  rfl
theorem to17a_2 (o : FO) {n : Nat} {L : List (AV o)} (h : tS (n * 3) L = true) (hn : n ≤ 1048576) : m17a_2 o n L = L := by
  unfold m17a_2
  rw [to17a o h hn]
  rfl
theorem to17b_ok (o : FO) : m17b_ok o = true := by
  unfold m17b_ok
  rw [to17b o]
  rfl
theorem to17b_0 (o : FO) : m17b_0 o = 0 := by
  unfold m17b_0
  rw [to17b o]
  rfl
theorem sz15 (o : FO) {n : Nat} (L : List (AV o)) (left : Nat) (hn : n ≤ maxLen) (hl : left ≤ 1048576) : m15_0 o n ((left : Nat) : Int) L = if n ≤ left then ((left - n : Nat) : Int) else -1 := by
  unfold m15_0
  have hm : maxLen = 9223372036854775807 := by decide
  rw [wrap64 (by omega) (by omega)]
  show (bif decide (((left : Nat) : Int) - ((n : Nat) : Int) < 0) then (-1 : Int) else ((left : Nat) : Int) - ((n : Nat) : Int)) = _
  by_cases h : n ≤ left
  · rw [if_pos h, decide_eq_false (by omega), cond_false]
    omega
  · rw [if_neg h, decide_eq_true (by omega), cond_true]
theorem sz15a (o : FO) : m15a_0 o (1048576 : Int) = 1048576 := by
  unfold m15a_0
  rfl
theorem law_true  (n : Nat) (x : ieee.S) (L : List A) (hx : n ≤ maxLen) (hL : L2 CK.is (List.replicate (n * 3) .f32) L) : ∃ h', f7 ieee n x L = some (.bool true, h') := by
  have h := tS_of hL
  unfold f7
  have hz := sz15 ieee L 1048576 hx (Nat.le_refl _)
  have hz' : m15_0 ieee n (1048576 : Int) L = if n ≤ 1048576 then ((1048576 - n : Nat) : Int) else -1 := hz
  by_cases hn : n ≤ 1048576
  · rw [if_pos hn] at hz'
    have e : decide (((1048576 - n : Nat) : Int) < (0 : Int)) = false := decide_eq_false (by omega)
    have hm := main h hn x
    refine ⟨[.live false true L], ?_⟩
    simp only [hz', e, cond_false, to17_ok ieee h hn, to17_0 ieee h hn, to17_1 ieee h hn, to17_2 ieee h hn, to17a_ok ieee h hn, to17a_0 ieee h hn, to17a_1 ieee h hn, to17a_2 ieee h hn, hm, gd_true, bne_self_eq_false, beq_self_eq_true, Bool.not_true, same30, cond_true, eqlsOk ieee h hn, eqls0 ieee h hn]
  · rw [if_neg hn] at hz'
    refine ⟨[.live false true L], ?_⟩
    rw [hz']
    rfl
theorem law_truea  (x : ieee.S) : ∃ h', f7a ieee x = some (.bool true, h') := by
  have h : tS (0 * 3) ([] : List A) = true := rfl
  have hn : 0 ≤ 1048576 := by omega
  have hm := main h hn x
  unfold f7a
  rw [sz15a]
  refine ⟨[], ?_⟩
  have e : decide ((1048576 : Int) < (0 : Int)) = false := rfl
  simp only [e, cond_false, to17b_ok, to17b_0, hm, gd_true, bne_self_eq_false, beq_self_eq_true, Bool.not_true, same30, cond_true, eqlsOk ieee h hn, eqls0 ieee h hn]

theorem own : ownKnob Try.prog.godebug = none := by kernel_rfl
theorem laidOut : laidOutB Try.prog = true := by kernel_rfl
set_option maxRecDepth 100000 in
theorem lifted (os : Os) (started : os.Started) (H : Type) (enc : TypeId × Value → H) :
    ReturnsInHanded {} Try.checked os 7 .any (Rows.fnExactHeightOfHeatSpec.pre6 enc Try.prog Try.f7 Rows.fnExactHeightOfHeatRow.domain false) (Rows.fnExactHeightOfHeatSpec.post enc Try.prog Try.f7 false true false false) := by
  refine returnsInHanded_of_change (C := Try.checked) own started (by kernel_rfl) Try.func7
    (ChangeSpec.witness6 (enc := enc) (C := Try.checked) false ⟨#[], #[.slice none 0 0, .float .f32 0], []⟩ 8 (by kernel_rfl) (by kernel_rfl) (by kernel_rfl) (by kernel_rfl)) ?_
  intro W base args ds gs before hval0 hW hcnd _
  have hval : ∀ (j : Nat) t v, Try.f7.params[j]? = some t → args[j]? = some v → Value.okWide Try.prog W .any base t v := hval0
  have hW' := hW
  obtain ⟨p, q, hA0, hV, rfl, hfz, hnd⟩ := hW
  have hA : DataW.TrodAll enc Try.prog W 0 (fun _ => true) true Try.f7.params.toList args.toList ds p := hA0
  have hA1 := hA
  rw [Try.params7] at hA hval
  obtain ⟨v0, vs0, d0, ds0, p0, q0, hargs, rfl, rfl, h0, r0'⟩ := trodAll_cons hA
  obtain ⟨v1, vs1, d1, ds1, p1, q1, rfl, rfl, rfl, h1, r1'⟩ := trodAll_cons r0'
  obtain ⟨rfl, rfl, rfl⟩ := trodAll_nil r1'
  obtain rfl : args = #[v0, v1] := by cases args; simp_all
  obtain ⟨rfl, rfl⟩ := trodVars_none hV
  clear hA0 hval0
  rcases open_blk (e := 73) (n0 := 6) (k0 := .f32) (es := 3) (by kernel_rfl) (by kernel_rfl) (by kernel_rfl) (by decide) h0 (hval 0 22 v0 rfl rfl) with hnil0 | ⟨g0, n0, L0, hB0, hL0, hn0, hV0⟩
  · obtain ⟨x1, r1⟩ := okW_f32 (by kernel_rfl) (hval 1 30 v1 rfl rfl)
    obtain ⟨h', hx0⟩ := law_truea x1
    have hx := (eq7a ieee 2000000 x1).trans hx0
    refine (law_calls (cok7a 2000000 (by decide)) (is7a 2000000) hx (hrel_nil W) (by intro b hb fl cs e; simp at hb <;> simp_all) (L2.cons (show VRel _ (.nilslice : A) v0 from hnil0) (L2.cons (r1 _) (L2.nil _)))).mono fun e W' ⟨he, bel⟩ => ?_
    subst he
    exact ⟨_, rfl, _, _, _, [], _, [], hW', trodAll_mk1 (shut_bool (by kernel_rfl) _), trodAll_stays laidOut bel (by kernel_rfl) hA1, rfl, bel.frame _, fun h => by cases h⟩
  · obtain ⟨x1, r1⟩ := okW_f32 (by kernel_rfl) (hval 1 30 v1 rfl rfl)
    obtain ⟨h', hx0⟩ := law_true n0 x1 L0 hn0 hL0
    have hx := (eq7 ieee 2000000 n0 x1 L0).trans hx0
    refine (law_calls (cok7 2000000 (by decide)) (is7 2000000) hx (hrel_one hB0) (by intro b hb fl cs e; simp at hb <;> simp_all) (L2.cons (hV0 _ 0 rfl) (L2.cons (r1 _) (L2.nil _)))).mono fun e W' ⟨he, bel⟩ => ?_
    subst he
    exact ⟨_, rfl, _, _, _, [], _, [], hW', trodAll_mk1 (shut_bool (by kernel_rfl) _), trodAll_stays laidOut bel (by kernel_rfl) hA1, rfl, bel.frame _, fun h => by cases h⟩

/-- The statement. -/
theorem proved : Rows.FnExactHeightOfHeatSaid :=
  OpenClaim.holds_of_wide 7 Try.f7 rfl rfl rfl rfl rfl rfl rfl ⟨rfl, rfl, rfl, rfl, rfl⟩ rfl rfl rfl rfl rfl (by kernel_rfl) Try.func7 (by kernel_rfl)
    (of_decide_eq_true (by kernel_rfl)) (by unfold Func.isWrapper; first | (rw [if_pos (by decide +kernel)]; kernel_rfl) | (rw [if_neg (by decide +kernel)]; exact ⟨rfl, rfl⟩))
    (fun os started H enc _ => lifted os started H enc)
end Go.Proofs.Ytihmppdnglfjnaa.fnExactHeightOfHeat
