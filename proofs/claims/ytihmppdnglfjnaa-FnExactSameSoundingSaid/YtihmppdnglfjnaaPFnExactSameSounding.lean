/- FnExactSameSounding returns true for all arguments. Conditions: none. -/
import Derived.Test.YtihmppdnglfjnaaRows
import Derived.Test.YtihmppdnglfjnaaG1
set_option linter.unusedVariables false
set_option linter.unusedSimpArgs false
set_option maxRecDepth 100000
namespace Go.Proofs.Ytihmppdnglfjnaa.fnExactSameSounding
open Go.Ab Go.RowKit Go.ChangeShapes Go.WideShapes Go.ChangeAt
theorem to17 (o : FO) {n : Nat} {L : List (AV o)} (h : tS (n * 3) L = true) (hn : n ≤ 1048576) : f17 o 2000000 n L = some (.slice 1 0 n 3, [.live false true L, .live true true L]) := by
  have hl := tS_len h
  unfold f17
  rw [mkOk hn, gd_true, zeros_3, Int.toNat_natCast]
  have := iter_up (f17_L0 o 2000000) (fun i => (n, n, (i : Int), L, fillS L (i * 3) (n * 3))) n (some (.slice 1 0 n 3, [.live false true L, .live true true L])) 2000000 (by omega) (fun i hi s0 => by
    unfold f17_L0
    simp (disch := omega) only [dlt, dnl, dge, dpo, dp0, wrS, wrP, wrQ, Int.toNat_natCast, Nat.zero_add, Nat.add_zero, Nat.add_assoc, Nat.reduceAdd, Nat.mul_one, Nat.add_sub_cancel, Bool.and_true, Bool.true_and, Bool.and_self, gd_true, cond_true, cond_false, rdS_t h, fillS_3 h, Nat.succ_mul]) (fun s0 => by
    unfold f17_L0
    simp (disch := omega) only [dlt, dnl, dge, dpo, dp0, wrS, wrP, wrQ, Int.toNat_natCast, Nat.zero_add, Nat.add_zero, Nat.add_assoc, Nat.reduceAdd, Nat.mul_one, Nat.add_sub_cancel, Bool.and_true, Bool.true_and, Bool.and_self, gd_true, cond_true, cond_false, rdS_t h, fillS_all hl])
  rw [show (0 : Nat) * 3 = 0 from rfl, fillS_0] at this
  exact this
theorem to17a (o : FO) {n : Nat} {L : List (AV o)} (h : tS (n * 3) L = true) (hn : n ≤ 1048576) : f17a o 2000000 n L = some (.slice 1 0 n 3, [.live true true L, .live true true L]) := by
  have hl := tS_len h
  unfold f17a
  rw [mkOk hn, gd_true, zeros_3, Int.toNat_natCast]
  have := iter_up (f17a_L0 o 2000000) (fun i => (n, n, (i : Int), L, fillS L (i * 3) (n * 3))) n (some (.slice 1 0 n 3, [.live true true L, .live true true L])) 2000000 (by omega) (fun i hi s0 => by
    unfold f17a_L0
    simp (disch := omega) only [dlt, dnl, dge, dpo, dp0, wrS, wrP, wrQ, Int.toNat_natCast, Nat.zero_add, Nat.add_zero, Nat.add_assoc, Nat.reduceAdd, Nat.mul_one, Nat.add_sub_cancel, Bool.and_true, Bool.true_and, Bool.and_self, gd_true, cond_true, cond_false, rdS_t h, fillS_3 h, Nat.succ_mul]) (fun s0 => by
    unfold f17a_L0
    simp (disch := omega) only [dlt, dnl, dge, dpo, dp0, wrS, wrP, wrQ, Int.toNat_natCast, Nat.zero_add, Nat.add_zero, Nat.add_assoc, Nat.reduceAdd, Nat.mul_one, Nat.add_sub_cancel, Bool.and_true, Bool.true_and, Bool.and_self, gd_true, cond_true, cond_false, rdS_t h, fillS_all hl])
  rw [show (0 : Nat) * 3 = 0 from rfl, fillS_0] at this
  exact this
theorem to17b (o : FO) : f17b o 2000000 = some (.slice 0 0 0 3, [.live true true []]) := by
  unfold f17b
  rfl
theorem same30 (o : FO) (x : o.D) : m30_0 o x x = true := by
  unfold m30_0
  cases h : o.deq x x
  · rfl
  · cases h0 : o.deq x (o.dlit 0)
    · rfl
    · simp
theorem eql (o : FO) (a b c : o.S) : m57_0 o a b c a b c = true := by
  unfold m57_0 m33_0
  simp only [same30]
  rfl
theorem eqls (o : FO) {n : Nat} {L : List (AV o)} (h : tS (n * 3) L = true) (hn : n ≤ 1048576) : f19 o 2000000 n n L L = some (.bool true, [.live false true L, .live false true L]) := by
  unfold f19
  rw [bne_self_eq_false, cond_false]
  have := iter_up (f19_L0 o 2000000) (fun i => (n, n, ((i : Nat) : Int), L, L)) n (some (.bool true, [.live false true L, .live false true L])) 2000000 (by omega) (fun i hi s0 => by
    unfold f19_L0
    simp (disch := omega) only [dlt, dnl, dge, dpo, dp0, wrS, wrP, wrQ, Int.toNat_natCast, Nat.zero_add, Nat.add_zero, Nat.add_assoc, Nat.reduceAdd, Nat.mul_one, Nat.add_sub_cancel, Bool.and_true, Bool.true_and, Bool.and_self, gd_true, cond_true, cond_false, rdS_t h, eql, Bool.not_true]) (fun s0 => by
    unfold f19_L0
    simp (disch := omega) only [dlt, dnl, dge, dpo, dp0, wrS, wrP, wrQ, Int.toNat_natCast, Nat.zero_add, Nat.add_zero, Nat.add_assoc, Nat.reduceAdd, Nat.mul_one, Nat.add_sub_cancel, Bool.and_true, Bool.true_and, Bool.and_self, gd_true, cond_true, cond_false, rdS_t h])
  exact this
theorem eqlsOk (o : FO) {n : Nat} {L : List (AV o)} (h : tS (n * 3) L = true) (hn : n ≤ 1048576) : m19_ok o n n L L = true := by
  unfold m19_ok
  rw [eqls o h hn]
  rfl
theorem eqls0 (o : FO) {n : Nat} {L : List (AV o)} (h : tS (n * 3) L = true) (hn : n ≤ 1048576) : m19_0 o n n L L = true := by
  unfold m19_0
  rw [eqls o h hn]
  rfl
theorem num (o : FO) (x y : o.S) : m84_0 o x y = m51_0 o x y := rfl
theorem clos (o : FO) (a b c x y z : o.S) : m55_0 o a b c x y z = bif m51_0 o a x then (bif m51_0 o b y then m51_0 o c z else false) else false := rfl
theorem two (o : FO) {m off : Nat} {L K : List (AV o)} (h : tS m L = true) (h' : tS m K = true) (hi : off + 1 < m) : f52 o off off L K = some (.bool (bif m51_0 o (lkS L off) (lkS K off) then m51_0 o (lkS L (off + 1)) (lkS K (off + 1)) else false), [.live false true L, .live false true K]) := by
  unfold f52
  simp (disch := omega) only [dlt, dnl, dge, dpo, dp0, wrS, wrP, wrQ, Int.toNat_natCast, Nat.zero_add, Nat.add_zero, Nat.add_assoc, Nat.reduceAdd, Nat.mul_one, Nat.add_sub_cancel, Bool.and_true, Bool.true_and, Bool.and_self, gd_true, cond_true, cond_false, rdS_t h, rdS_t h']
  cases m51_0 o (lkS L off) (lkS K off) <;> cases m51_0 o (lkS L (off + 1)) (lkS K (off + 1)) <;> rfl
noncomputable def dif (o : FO) (L K : List (AV o)) (i : Nat) : Bool := !(bif m51_0 o (lkS L (i * 3)) (lkS K (i * 3)) then (bif m51_0 o (lkS L (i * 3 + 1)) (lkS K (i * 3 + 1)) then m51_0 o (lkS L (i * 3 + 2)) (lkS K (i * 3 + 2)) else false) else false)
noncomputable def samR (o : FO) (n : Nat) (L K : List (AV o)) : R o := onFnd (fnd (dif o L K) n 0) (fun _ => some (.bool false, [.live false true L, .live false true K])) (some (.bool true, [.live false true L, .live false true K]))
theorem lp16 (o : FO) {n : Nat} {L K : List (AV o)} (h : tS (n * 3) L = true) (h' : tS (n * 3) K = true) (hn : n ≤ 1048576) : iter (f16_L0 o 2000000) 2000000 (n, n, (0 : Int), L, K) = samR o n L K := by
  have := iter_find (f16_L0 o 2000000) (fun i => (n, n, ((i : Nat) : Int), L, K)) n (dif o L K) (fun _ => some (.bool false, [.live false true L, .live false true K])) (some (.bool true, [.live false true L, .live false true K]))
    (fun i hi s0 => by
      have ht := two o h h' (off := i * 3 + 1) (by omega)
      unfold f16_L0 dif
      simp (disch := omega) only [dlt, dnl, dge, dpo, dp0, wrS, wrP, wrQ, Int.toNat_natCast, Nat.zero_add, Nat.add_zero, Nat.add_assoc, Nat.reduceAdd, Nat.mul_one, Nat.add_sub_cancel, Bool.and_true, Bool.true_and, Bool.and_self, gd_true, cond_true, cond_false, rdS_t h, rdS_t h'] at ht ⊢
      simp only [m52_ok, k52, m52_0, g52_0, ht, gd_true]
      cases m51_0 o (lkS L (i * 3)) (lkS K (i * 3)) <;> cases m51_0 o (lkS L (i * 3 + 1)) (lkS K (i * 3 + 1)) <;> cases m51_0 o (lkS L (i * 3 + 2)) (lkS K (i * 3 + 2)) <;> rfl) (fun s0 => by
      unfold f16_L0
      simp (disch := omega) only [dlt, dnl, dge, dpo, dp0, wrS, wrP, wrQ, Int.toNat_natCast, Nat.zero_add, Nat.add_zero, Nat.add_assoc, Nat.reduceAdd, Nat.mul_one, Nat.add_sub_cancel, Bool.and_true, Bool.true_and, Bool.and_self, gd_true, cond_true, cond_false, rdS_t h]) n 0 2000000 (by omega) (by omega)
  exact this
theorem lp54 (o : FO) {n : Nat} {L K : List (AV o)} (h : tS (n * 3) L = true) (h' : tS (n * 3) K = true) (hn : n ≤ 1048576) : iter (f54_L0 o 2000000) 2000000 (n, n, ((n : Nat) : Int), (0 : Int), L, K) = samR o n L K := by
  have := iter_find (f54_L0 o 2000000) (fun i => (n, n, ((n : Nat) : Int), ((i : Nat) : Int), L, K)) n (dif o L K) (fun _ => some (.bool false, [.live false true L, .live false true K])) (some (.bool true, [.live false true L, .live false true K]))
    (fun i hi s0 => by
      unfold f54_L0 dif
      simp (disch := omega) only [dlt, dnl, dge, dpo, dp0, wrS, wrP, wrQ, Int.toNat_natCast, Nat.zero_add, Nat.add_zero, Nat.add_assoc, Nat.reduceAdd, Nat.mul_one, Nat.add_sub_cancel, Bool.and_true, Bool.true_and, Bool.and_self, gd_true, cond_true, cond_false, rdS_t h, rdS_t h', clos]) (fun s0 => by
      unfold f54_L0
      simp (disch := omega) only [dlt, dnl, dge, dpo, dp0, wrS, wrP, wrQ, Int.toNat_natCast, Nat.zero_add, Nat.add_zero, Nat.add_assoc, Nat.reduceAdd, Nat.mul_one, Nat.add_sub_cancel, Bool.and_true, Bool.true_and, Bool.and_self, gd_true, cond_true, cond_false, rdS_t h]) n 0 2000000 (by omega) (by omega)
  exact this
theorem main (o : FO) {n m : Nat} {L K : List (AV o)} (h : tS (n * 3) L = true) (h' : tS (m * 3) K = true) (hn : n ≤ 1048576) : m16_ok o n m L K = true ∧ m18_ok o n m L K = true ∧ m18_0 o n m L K = m16_0 o n m L K := by
  unfold m18_ok m18_0
  have e1 : f54 o 2000000 n m L K = f16 o 2000000 n m L K ∧ k16 o (f16 o 2000000 n m L K) = true := by
    unfold f54 f16
    by_cases hnm : n = m
    · subst hnm
      simp only [bne_self_eq_false, cond_false, lp16 o h h' hn, lp54 o h h' hn]
      unfold samR
      cases fnd (dif o L K) n 0 <;> exact ⟨trivial, rfl⟩
    · have : (((n : Nat) : Int) != ((m : Nat) : Int)) = true := by simp; omega
      simp only [this, cond_true]
      exact ⟨trivial, rfl⟩
  have g : ∀ r, k54 o r = k16 o r := fun _ => rfl
  have g2 : ∀ r, g54_0 o r = g16_0 o r := fun _ => rfl
  simp only [m54_ok, m54_0, m16_ok, m16_0, e1.1, e1.2, g, g2, cond_true, and_self]
theorem to17_ok (o : FO) {n : Nat} {L : List (AV o)} (h : tS (n * 3) L = true) (hn : n ≤ 1048576) : m17_ok o n L = true := by
  unfold m17_ok
  rw [to17 o h hn]
  rfl
theorem to17_0 (o : FO) {n : Nat} {L : List (AV o)} (h : tS (n * 3) L = true) (hn : n ≤ 1048576) : m17_0 o n L = n := by
  unfold m17_0
  rw [to17 o h hn]
  rfl
theorem to17_1 (o : FO) {n : Nat} {L : List (AV o)} (h : tS (n * 3) L = true) (hn : n ≤ 1048576) : m17_1 o n L = L := by
  unfold m17_1
  rw [to17 o h hn]
  rfl
theorem to17_2 (o : FO) {n : Nat} {L : List (AV o)} (h : tS (n * 3) L = true) (hn : n ≤ 1048576) : m17_2 o n L = L := by
  unfold m17_2
  rw [to17 o h hn]
  rfl
theorem to17a_ok (o : FO) {n : Nat} {L : List (AV o)} (h : tS (n * 3) L = true) (hn : n ≤ 1048576) : m17a_ok o n L = true := by
  unfold m17a_ok
  rw [to17a o h hn]
  rfl
theorem to17a_0 (o : FO) {n : Nat} {L : List (AV o)} (h : tS (n * 3) L = true) (hn : n ≤ 1048576) : m17a_0 o n L = n := by
  unfold m17a_0
  rw [to17a o h hn]
  rfl
theorem to17a_1 (o : FO) {n : Nat} {L : List (AV o)} (h : tS (n * 3) L = true) (hn : n ≤ 1048576) : m17a_1 o n L = L := by
  unfold m17a_1
  rw [to17a o h hn]
  rfl
theorem to17a_2 (o : FO) {n : Nat} {L : List (AV o)} (h : tS (n * 3) L = true) (hn : n ≤ 1048576) : m17a_2 o n L = L := by
  unfold m17a_2
  rw [to17a o h hn]
  rfl
theorem to17b_ok (o : FO) : m17b_ok o = true := by
  unfold m17b_ok
  rw [to17b o]
  rfl
theorem to17b_0 (o : FO) : m17b_0 o = 0 := by
  unfold m17b_0
  rw [to17b o]
  rfl
theorem sz15 (o : FO) {n : Nat} (L : List (AV o)) (left : Nat) (hn : n ≤ maxLen) (hl : left ≤ 1048576) : m15_0 o n ((left : Nat) : Int) L = if n ≤ left then ((left - n : Nat) : Int) else -1 := by
  unfold m15_0
  have hm : maxLen = 9223372036854775807 := by decide
  rw [wrap64 (by omega) (by omega)]
  show (bif decide (((left : Nat) : Int) - ((n : Nat) : Int) < 0) then (-1 : Int) else ((left : Nat) : Int) - ((n : Nat) : Int)) = _
  by_cases h : n ≤ left
  · rw [if_pos h, decide_eq_false (by omega), cond_false]
    omega
  · rw [if_neg h, decide_eq_true (by omega), cond_true]
theorem sz15a (o : FO) : m15a_0 o (1048576 : Int) = 1048576 := by
  unfold m15a_0
  rfl
theorem law_true (n : Nat) (m : Nat) (L : List A) (K : List A) (hx : n ≤ maxLen) (hL : L2 CK.is (List.replicate (n * 3) .f32) L) (hy : m ≤ maxLen) (hK : L2 CK.is (List.replicate (m * 3) .f32) K) : ∃ h', f3 ieee n m L K = some (.bool true, h') := by
  have h : tS (n * 3) L = true := tS_of hL
  have h' : tS (m * 3) K = true := tS_of hK
  unfold f3
  refine ⟨[.live false true L, .live false true K], ?_⟩
  have hz : m15_0 ieee n (1048576 : Int) L = if n ≤ 1048576 then ((1048576 - n : Nat) : Int) else -1 := sz15 ieee L 1048576 hx (Nat.le_refl _)
  by_cases hn : n ≤ 1048576
  case neg =>
    rw [if_neg hn] at hz
    rw [hz]
    rfl
  rw [if_pos hn] at hz
  have e : decide (((1048576 - n : Nat) : Int) < (0 : Int)) = false := decide_eq_false (by omega)
  have hz2 := sz15 ieee K (1048576 - n) hy (by omega)
  by_cases hn' : m ≤ (1048576 - n)
  case neg =>
    rw [if_neg hn'] at hz2
    simp only [hz, e, cond_false, hz2]
    rfl
  rw [if_pos hn'] at hz2
  have e2 : decide ((((1048576 - n) - m : Nat) : Int) < (0 : Int)) = false := decide_eq_false (by omega)
  replace hn' : m ≤ 1048576 := by omega
  have hm := main ieee h h' hn
  simp only [hz, e, hz2, e2, cond_false, to17_ok ieee h hn, to17_0 ieee h hn, to17_1 ieee h hn, to17_2 ieee h hn, to17a_ok ieee h hn, to17a_0 ieee h hn, to17a_1 ieee h hn, to17a_2 ieee h hn, to17_ok ieee h' hn', to17_0 ieee h' hn', to17_1 ieee h' hn', to17_2 ieee h' hn', to17a_ok ieee h' hn', to17a_0 ieee h' hn', to17a_1 ieee h' hn', to17a_2 ieee h' hn', hm, gd_true, bne_self_eq_false, beq_self_eq_true, Bool.not_true, cond_true, cond_false, eqlsOk ieee h hn, eqls0 ieee h hn, eqlsOk ieee h' hn', eqls0 ieee h' hn', to17b_ok, to17b_0]
theorem law_truea (n : Nat) (L : List A) (hx : n ≤ maxLen) (hL : L2 CK.is (List.replicate (n * 3) .f32) L) : ∃ h', f3a ieee n L = some (.bool true, h') := by
  have h : tS (n * 3) L = true := tS_of hL
  have h' : tS (0 * 3) ([] : List A) = true := rfl
  have hn' : 0 ≤ 1048576 := by omega
  unfold f3a
  refine ⟨[.live false true L], ?_⟩
  have hz : m15_0 ieee n (1048576 : Int) L = if n ≤ 1048576 then ((1048576 - n : Nat) : Int) else -1 := sz15 ieee L 1048576 hx (Nat.le_refl _)
  by_cases hn : n ≤ 1048576
  case neg =>
    rw [if_neg hn] at hz
    rw [hz]
    rfl
  rw [if_pos hn] at hz
  have e : decide (((1048576 - n : Nat) : Int) < (0 : Int)) = false := decide_eq_false (by omega)
  have hz2 : m15a_0 ieee (((1048576 - n) : Nat) : Int) = (((1048576 - n) : Nat) : Int) := by
    unfold m15a_0
    show (bif decide (IntKind.wrap .i64 ((((1048576 - n) : Nat) : Int) - (0 : Int)) < 0) then (-1 : Int) else IntKind.wrap .i64 ((((1048576 - n) : Nat) : Int) - (0 : Int))) = _
    rw [wrap64 (by omega) (by omega), decide_eq_false (by omega), cond_false]
    omega
  have e2 := e
  have hm := main ieee h h' hn
  simp only [hz, e, hz2, e2, cond_false, to17_ok ieee h hn, to17_0 ieee h hn, to17_1 ieee h hn, to17_2 ieee h hn, to17a_ok ieee h hn, to17a_0 ieee h hn, to17a_1 ieee h hn, to17a_2 ieee h hn, hm, gd_true, bne_self_eq_false, beq_self_eq_true, Bool.not_true, cond_true, cond_false, eqlsOk ieee h hn, eqls0 ieee h hn, eqlsOk ieee h' hn', eqls0 ieee h' hn', to17b_ok, to17b_0]
theorem law_trueb (m : Nat) (K : List A) (hy : m ≤ maxLen) (hK : L2 CK.is (List.replicate (m * 3) .f32) K) : ∃ h', f3b ieee m K = some (.bool true, h') := by
  have h : tS (0 * 3) ([] : List A) = true := rfl
  have hn : 0 ≤ 1048576 := by omega
  have h' : tS (m * 3) K = true := tS_of hK
  unfold f3b
  refine ⟨[.live false true K], ?_⟩
  have hz : m15a_0 ieee (1048576 : Int) = ((1048576 : Nat) : Int) := sz15a ieee
  have e : decide (((1048576 : Nat) : Int) < (0 : Int)) = false := rfl
  have hz2 := sz15 ieee K 1048576 hy (by omega)
  by_cases hn' : m ≤ 1048576
  case neg =>
    rw [if_neg hn'] at hz2
    simp only [hz, e, cond_false, hz2]
    rfl
  rw [if_pos hn'] at hz2
  have e2 : decide (((1048576 - m : Nat) : Int) < (0 : Int)) = false := decide_eq_false (by omega)
  replace hn' : m ≤ 1048576 := by omega
  have hm := main ieee h h' hn
  simp only [hz, e, hz2, e2, cond_false, to17_ok ieee h' hn', to17_0 ieee h' hn', to17_1 ieee h' hn', to17_2 ieee h' hn', to17a_ok ieee h' hn', to17a_0 ieee h' hn', to17a_1 ieee h' hn', to17a_2 ieee h' hn', hm, gd_true, bne_self_eq_false, beq_self_eq_true, Bool.not_true, cond_true, cond_false, eqlsOk ieee h hn, eqls0 ieee h hn, eqlsOk ieee h' hn', eqls0 ieee h' hn', to17b_ok, to17b_0]
theorem law_truec  : ∃ h', f3c ieee  = some (.bool true, h') := by
  have h : tS (0 * 3) ([] : List A) = true := rfl
  have hn : 0 ≤ 1048576 := by omega
  have h' : tS (0 * 3) ([] : List A) = true := rfl
  have hn' : 0 ≤ 1048576 := by omega
  unfold f3c
  refine ⟨[], ?_⟩
  have hz : m15a_0 ieee (1048576 : Int) = ((1048576 : Nat) : Int) := sz15a ieee
  have e : decide (((1048576 : Nat) : Int) < (0 : Int)) = false := rfl
  have hz2 : m15a_0 ieee ((1048576 : Nat) : Int) = ((1048576 : Nat) : Int) := by
    unfold m15a_0
    show (bif decide (IntKind.wrap .i64 (((1048576 : Nat) : Int) - (0 : Int)) < 0) then (-1 : Int) else IntKind.wrap .i64 (((1048576 : Nat) : Int) - (0 : Int))) = _
    rw [wrap64 (by omega) (by omega), decide_eq_false (by omega), cond_false]
    omega
  have e2 := e
  have hm := main ieee h h' hn
  simp only [hz, e, hz2, e2, cond_false, hm, gd_true, bne_self_eq_false, beq_self_eq_true, Bool.not_true, cond_true, cond_false, eqlsOk ieee h hn, eqls0 ieee h hn, eqlsOk ieee h' hn', eqls0 ieee h' hn', to17b_ok, to17b_0]

theorem own : ownKnob Try.prog.godebug = none := by kernel_rfl
theorem laidOut : laidOutB Try.prog = true := by kernel_rfl
set_option maxRecDepth 100000 in
theorem lifted (os : Os) (started : os.Started) (H : Type) (enc : TypeId × Value → H) :
    ReturnsInHanded {} Try.checked os 3 .any (Rows.fnExactSameSoundingSpec.pre6 enc Try.prog Try.f3 Rows.fnExactSameSoundingRow.domain false) (Rows.fnExactSameSoundingSpec.post enc Try.prog Try.f3 false true false false) := by
  refine returnsInHanded_of_change (C := Try.checked) own started (by kernel_rfl) Try.func3
    (ChangeSpec.witness6 (enc := enc) (C := Try.checked) false ⟨#[], #[.slice none 0 0, .slice none 0 0], []⟩ 8 (by kernel_rfl) (by kernel_rfl) (by kernel_rfl) (by kernel_rfl)) ?_
  intro W base args ds gs before hval0 hW hcnd _
  have hval : ∀ (j : Nat) t v, Try.f3.params[j]? = some t → args[j]? = some v → Value.okWide Try.prog W .any base t v := hval0
  have hW' := hW
  obtain ⟨p, q, hA0, hV, rfl, hfz, hnd⟩ := hW
  have hA : DataW.TrodAll enc Try.prog W 0 (fun _ => true) true Try.f3.params.toList args.toList ds p := hA0
  have hA1 := hA
  rw [Try.params3] at hA hval
  obtain ⟨v0, vs0, d0, ds0, p0, q0, hargs, rfl, rfl, h0, r0'⟩ := trodAll_cons hA
  obtain ⟨v1, vs1, d1, ds1, p1, q1, rfl, rfl, rfl, h1, r1'⟩ := trodAll_cons r0'
  obtain ⟨rfl, rfl, rfl⟩ := trodAll_nil r1'
  obtain rfl : args = #[v0, v1] := by cases args; simp_all
  obtain ⟨rfl, rfl⟩ := trodVars_none hV
  clear hA0 hval0
  rcases open_blk (e := 73) (n0 := 6) (k0 := .f32) (es := 3) (by kernel_rfl) (by kernel_rfl) (by kernel_rfl) (by decide) h0 (hval 0 22 v0 rfl rfl) with hnil0 | ⟨g0, n0, L0, hB0, hL0, hn0, hV0⟩
  · rcases open_blk (e := 73) (n0 := 6) (k0 := .f32) (es := 3) (by kernel_rfl) (by kernel_rfl) (by kernel_rfl) (by decide) h1 (hval 1 22 v1 rfl rfl) with hnil1 | ⟨g1, n1, L1, hB1, hL1, hn1, hV1⟩
    · obtain ⟨h', hx0⟩ := law_truec 
      have hx := (eq3c ieee 2000000 ).trans hx0
      refine (law_calls (cok3c 2000000 (by decide)) (is3c 2000000) hx (hrel_nil W) (by intro b hb fl cs e; simp at hb <;> simp_all) (L2.cons (show VRel _ (.nilslice : A) v0 from hnil0) (L2.cons (show VRel _ (.nilslice : A) v1 from hnil1) (L2.nil _)))).mono fun e W' ⟨he, bel⟩ => ?_
      subst he
      exact ⟨_, rfl, _, _, _, [], _, [], hW', trodAll_mk1 (shut_bool (by kernel_rfl) _), trodAll_stays laidOut bel (by kernel_rfl) hA1, rfl, bel.frame _, fun h => by cases h⟩
    · obtain ⟨h', hx0⟩ := law_trueb n1 L1 hn1 hL1
      have hx := (eq3b ieee 2000000 n1 L1).trans hx0
      refine (law_calls (cok3b 2000000 (by decide)) (is3b 2000000) hx (hrel_one hB1) (by intro b hb fl cs e; simp at hb <;> simp_all) (L2.cons (show VRel _ (.nilslice : A) v0 from hnil0) (L2.cons (hV1 _ 0 rfl) (L2.nil _)))).mono fun e W' ⟨he, bel⟩ => ?_
      subst he
      exact ⟨_, rfl, _, _, _, [], _, [], hW', trodAll_mk1 (shut_bool (by kernel_rfl) _), trodAll_stays laidOut bel (by kernel_rfl) hA1, rfl, bel.frame _, fun h => by cases h⟩
  · rcases open_blk (e := 73) (n0 := 6) (k0 := .f32) (es := 3) (by kernel_rfl) (by kernel_rfl) (by kernel_rfl) (by decide) h1 (hval 1 22 v1 rfl rfl) with hnil1 | ⟨g1, n1, L1, hB1, hL1, hn1, hV1⟩
    · obtain ⟨h', hx0⟩ := law_truea n0 L0 hn0 hL0
      have hx := (eq3a ieee 2000000 n0 L0).trans hx0
      refine (law_calls (cok3a 2000000 (by decide)) (is3a 2000000) hx (hrel_one hB0) (by intro b hb fl cs e; simp at hb <;> simp_all) (L2.cons (hV0 _ 0 rfl) (L2.cons (show VRel _ (.nilslice : A) v1 from hnil1) (L2.nil _)))).mono fun e W' ⟨he, bel⟩ => ?_
      subst he
      exact ⟨_, rfl, _, _, _, [], _, [], hW', trodAll_mk1 (shut_bool (by kernel_rfl) _), trodAll_stays laidOut bel (by kernel_rfl) hA1, rfl, bel.frame _, fun h => by cases h⟩
    · obtain ⟨h', hx0⟩ := law_true n0 n1 L0 L1 hn0 hL0 hn1 hL1
      have hx := (eq3 ieee 2000000 n0 n1 L0 L1).trans hx0
      refine (law_calls (cok3 2000000 (by decide)) (is3 2000000) hx (hrel_two hB0 hB1) (by intro b hb fl cs e; simp at hb <;> simp_all) (L2.cons (hV0 _ 0 rfl) (L2.cons (hV1 _ 1 rfl) (L2.nil _)))).mono fun e W' ⟨he, bel⟩ => ?_
      subst he
      exact ⟨_, rfl, _, _, _, [], _, [], hW', trodAll_mk1 (shut_bool (by kernel_rfl) _), trodAll_stays laidOut bel (by kernel_rfl) hA1, rfl, bel.frame _, fun h => by cases h⟩

/-- The statement. -/
theorem proved : Rows.FnExactSameSoundingSaid :=
  OpenClaim.holds_of_wide 3 Try.f3 rfl rfl rfl rfl rfl rfl rfl ⟨rfl, rfl, rfl, rfl, rfl⟩ rfl rfl rfl rfl rfl (by kernel_rfl) Try.func3 (by kernel_rfl)
    (of_decide_eq_true (by kernel_rfl)) (by unfold Func.isWrapper; first | (rw [if_pos (by decide +kernel)]; kernel_rfl) | (rw [if_neg (by decide +kernel)]; exact ⟨rfl, rfl⟩))
    (fun os started H enc _ => lifted os started H enc)
end Go.Proofs.Ytihmppdnglfjnaa.fnExactSameSounding
