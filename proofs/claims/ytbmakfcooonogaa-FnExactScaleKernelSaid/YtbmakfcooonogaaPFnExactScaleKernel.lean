/- FnExactScaleKernel returns true for all arguments. Conditions: none. -/
import Derived.Test.YtbmakfcooonogaaRows
import Derived.Test.YtbmakfcooonogaaG1
set_option linter.unusedVariables false
set_option linter.unusedSimpArgs false
set_option maxRecDepth 100000
namespace Go.Proofs.Ytbmakfcooonogaa.fnExactScaleKernel
open Go.Ab Go.RowKit Go.ChangeShapes Go.WideShapes Go.ChangeAt
theorem same20 (o : FO) (x : o.D) : m20_0 o x x = true := by
  unfold m20_0
  cases h : o.deq x x
  · rfl
  · cases h0 : o.deq x (o.dlit 0)
    · rfl
    · simp
theorem row69 (o : FO) {L : List (AV o)} (h : tS 20 L = true) : f69 o 4096 L = some (.agg L, []) := by
  have hz : tS 20 (List.replicate 20 (.f32 (o.slit 0)) : List (AV o)) = true := tS_rep 20 _
  have := iter_up (f69_L0 o 4096) (fun i => (((i : Nat) : Int), L, List.replicate 20 (.f32 (o.slit 0)), updS 20 (List.replicate 20 (.f32 (o.slit 0))) (lkS L) i)) 20 (some (.agg L, [])) 4096 (by omega) (fun i hi s0 => by
    unfold f69_L0
    simp (disch := omega) only [dl20, dn20, dlt, dnl, dge, wrS, Int.toNat_natCast, Nat.zero_add, Nat.add_zero, Nat.mul_one, Bool.and_true, Bool.true_and, Bool.and_self, gd_true, cond_true, cond_false, rdS_t h, wrS_t (tS_updS 20 _ (lkS L) i), updS_set]) (fun s0 => by
    unfold f69_L0
    simp (disch := omega) only [dl20, dn20, dlt, dnl, dge, wrS, Int.toNat_natCast, Nat.zero_add, Nat.add_zero, Nat.mul_one, Bool.and_true, Bool.true_and, Bool.and_self, gd_true, cond_true, cond_false, updS_all h, rdA_tS h, wrA_tS hz h])
  rw [updS_0 hz] at this
  exact this
theorem ker27 (o : FO) {L : List (AV o)} (h : tS 400 L = true) : f27 o 4096 L = some (.agg L, []) := by
  have hz : tS 400 (List.replicate 400 (.f32 (o.slit 0)) : List (AV o)) = true := tS_rep 400 _
  have := iter_up (f27_L0 o 4096) (fun i => (((i : Nat) : Int), L, (List.replicate 400 (.f32 (o.slit 0)) : List (AV o)), updS 400 (List.replicate 400 (.f32 (o.slit 0)) : List (AV o)) (lkS L) (i * 20))) 20 (some (.agg L, [])) 4096 (by omega) (fun i hi s0 => by
    have hs := tS_sub h (i := i * 20) (m := 20) (by omega)
    unfold f27_L0
    simp (disch := omega) only [dl20, dn20, dlt, dnl, dge, wrS, Int.toNat_natCast, Nat.zero_add, Nat.add_zero, Nat.mul_one, Bool.and_true, Bool.true_and, Bool.and_self, gd_true, cond_true, cond_false, rdA_sS h, m69_ok, k69, m69_0, g69_0, row69 o hs, wrA_row (n := 400) (g := lkS L) (t := i * 20) (k := 20) (by omega) hs (fun s h => lkS_sub h), Nat.succ_mul]) (fun s0 => by
    unfold f27_L0
    simp (disch := omega) only [dl20, dn20, dlt, dnl, dge, wrS, Int.toNat_natCast, Nat.zero_add, Nat.add_zero, Nat.mul_one, Bool.and_true, Bool.true_and, Bool.and_self, gd_true, cond_true, cond_false, show 20 * 20 = 400 from rfl, updS_all h, rdA_tS h, wrA_tS hz h])
  rw [show (0 : Nat) * 20 = 0 from rfl, updS_0 hz] at this
  exact this
theorem kerOk (o : FO) {L : List (AV o)} (h : tS 400 L = true) : m27_ok o L = true := by
  unfold m27_ok
  rw [ker27 o h]
  rfl
theorem ker0 (o : FO) {L : List (AV o)} (h : tS 400 L = true) : m27_0 o L = L := by
  unfold m27_0
  rw [ker27 o h]
  rfl
theorem eqr (o : FO) {L : List (AV o)} (h : tS 20 L = true) : f63 o 4096 L L = some (.bool true, []) := by
  have := iter_up (f63_L0 o 4096) (fun i => (((i : Nat) : Int), L, L)) 20 (some (.bool true, [])) 4096 (by omega) (fun i hi s0 => by
    unfold f63_L0
    simp (disch := omega) only [dl20, dn20, dlt, dnl, dge, wrS, Int.toNat_natCast, Nat.zero_add, Nat.add_zero, Nat.mul_one, Bool.and_true, Bool.true_and, Bool.and_self, gd_true, cond_true, cond_false, rdS_t h, same20, Bool.not_true]) (fun s0 => by
    unfold f63_L0
    simp (disch := omega) only [dl20, dn20, dlt, dnl, dge, wrS, Int.toNat_natCast, Nat.zero_add, Nat.add_zero, Nat.mul_one, Bool.and_true, Bool.true_and, Bool.and_self, gd_true, cond_true, cond_false])
  exact this
theorem eqk (o : FO) {L : List (AV o)} (h : tS 400 L = true) : f23 o 4096 L L = some (.bool true, []) := by
  have := iter_up (f23_L0 o 4096) (fun i => (((i : Nat) : Int), L, L)) 20 (some (.bool true, [])) 4096 (by omega) (fun i hi s0 => by
    have hs := tS_sub h (i := i * 20) (m := 20) (by omega)
    unfold f23_L0
    simp (disch := omega) only [dl20, dn20, dlt, dnl, dge, wrS, Int.toNat_natCast, Nat.zero_add, Nat.add_zero, Nat.mul_one, Bool.and_true, Bool.true_and, Bool.and_self, gd_true, cond_true, cond_false, rdA_sS h, m63_ok, k63, m63_0, g63_0, eqr o hs, Bool.not_true]) (fun s0 => by
    unfold f23_L0
    simp (disch := omega) only [dl20, dn20, dlt, dnl, dge, wrS, Int.toNat_natCast, Nat.zero_add, Nat.add_zero, Nat.mul_one, Bool.and_true, Bool.true_and, Bool.and_self, gd_true, cond_true, cond_false])
  exact this
theorem eqkOk (o : FO) {L : List (AV o)} (h : tS 400 L = true) : m23_ok o L L = true := by
  unfold m23_ok
  rw [eqk o h]
  rfl
theorem eqk0 (o : FO) {L : List (AV o)} (h : tS 400 L = true) : m23_0 o L L = true := by
  unfold m23_0
  rw [eqk o h]
  rfl
noncomputable def kfin (o : FO) (L : List (AV o)) : Bool := all2 fun i j => finS o (lkS L (i * 20 + j))
noncomputable def toldR (o : FO) (L : List (AV o)) : R o := bif kfin o L then some (.tup [.agg L, .int .i64 (0 : Int)], []) else some (.tup [.agg (List.replicate 400 (.f32 (o.slit 0)) : List (AV o)), .int .i64 (4 : Int)], [])
theorem told59 (o : FO) {L : List (AV o)} (h : tS 400 L = true) : f59 o 4096 L = toldR o L := by
  have hz : tS 400 (List.replicate 400 (.f32 (o.slit 0)) : List (AV o)) = true := tS_rep 400 _
  exact iter2_all (N := 4096) (by omega) (f59_L0 o 4096) (f59_L1 o 4096) (fun i => (((i : Nat) : Int), L, (List.replicate 400 (.f32 (o.slit 0)) : List (AV o)))) (fun i j => (((i : Nat) : Int), ((j : Nat) : Int), L, (List.replicate 400 (.f32 (o.slit 0)) : List (AV o)))) (fun i j => finS o (lkS L (i * 20 + j))) (some (.tup [.agg (List.replicate 400 (.f32 (o.slit 0)) : List (AV o)), .int .i64 (4 : Int)], [])) (some (.tup [.agg L, .int .i64 (0 : Int)], []))
    (fun i hi s0 => by
      unfold f59_L0
      simp (disch := omega) only [dl20, dn20, dlt, dnl, dge, wrS, Int.toNat_natCast, Nat.zero_add, Nat.add_zero, Nat.mul_one, Bool.and_true, Bool.true_and, Bool.and_self, gd_true, cond_true, cond_false]
      rfl) (fun i j hi hj s0 s1 => by
      unfold f59_L1
      simp (disch := omega) only [dl20, dn20, dlt, dnl, dge, wrS, Int.toNat_natCast, Nat.zero_add, Nat.add_zero, Nat.mul_one, Bool.and_true, Bool.true_and, Bool.and_self, gd_true, cond_true, cond_false, rdS_t h, wrA_tS hz hz, rdA_tS hz]
      show (bif !(finS o (lkS L (i * 20 + j))) then _ else _) = _
      cases finS o (lkS L (i * 20 + j)) <;> rfl) (fun i hi s0 s1 => by
      unfold f59_L1
      simp (disch := omega) only [dl20, dn20, dlt, dnl, dge, wrS, Int.toNat_natCast, Nat.zero_add, Nat.add_zero, Nat.mul_one, Bool.and_true, Bool.true_and, Bool.and_self, gd_true, cond_true, cond_false]) (fun s0 => by
      unfold f59_L0
      simp (disch := omega) only [dl20, dn20, dlt, dnl, dge, wrS, Int.toNat_natCast, Nat.zero_add, Nat.add_zero, Nat.mul_one, Bool.and_true, Bool.true_and, Bool.and_self, gd_true, cond_true, cond_false, rdA_tS h, wrA_tS hz h])
theorem told71 (o : FO) {L : List (AV o)} (h : tS 400 L = true) : f71 o 4096 L = toldR o L := by
  have hz : tS 400 (List.replicate 400 (.f32 (o.slit 0)) : List (AV o)) = true := tS_rep 400 _
  have hlen := tS_len h
  have := iter_find (f71_L0 o 4096) (fun i => (((i : Nat) : Int), L, (List.replicate 400 (.f32 (o.slit 0)) : List (AV o)))) 20 (fun i => !(finSeg L (i * 20) 20)) (fun _ => some (.tup [.agg (List.replicate 400 (.f32 (o.slit 0)) : List (AV o)), .int .i64 (4 : Int)], [])) (some (.tup [.agg L, .int .i64 (0 : Int)], []))
    (fun i hi s0 => by
      have e : Nat.ble (i * 20 + 20) L.length = true := Nat.ble_eq_true_of_le (by omega)
      unfold f71_L0
      simp (disch := omega) only [dl20, dn20, dlt, dnl, dge, wrS, Int.toNat_natCast, Nat.zero_add, Nat.add_zero, Nat.mul_one, Bool.and_true, Bool.true_and, Bool.and_self, gd_true, cond_true, cond_false, e, segF_s h, rdS_t h, wrA_tS hz hz, rdA_tS hz]) (fun s0 => by
      unfold f71_L0
      simp (disch := omega) only [dl20, dn20, dlt, dnl, dge, wrS, Int.toNat_natCast, Nat.zero_add, Nat.add_zero, Nat.mul_one, Bool.and_true, Bool.true_and, Bool.and_self, gd_true, cond_true, cond_false, rdA_tS h, wrA_tS hz h]) 20 0 4096 (by omega) (by omega)
  have e2 : f71 o 4096 L = _ := this
  rw [e2]
  unfold toldR
  cases hk : kfin o L with
  | true =>
    have hk' := all2_iff.1 hk
    rw [fnd_false (fun i _ hi => by
      rw [(finSeg_iff h (by omega)).2 (fun j hj => hk' i j (by omega) hj)]
      rfl)]
    rfl
  | false =>
    cases hf : fnd (fun i => !(finSeg L (i * 20) 20)) 20 0 with
    | some t => rfl
    | none =>
      exfalso
      have : kfin o L = true := all2_iff.2 fun i j hi hj => by
        have h1 := fnd_none hf i (by omega) (by omega)
        exact (finSeg_iff h (by omega)).1 (by simpa using h1) j hj
      rw [this] at hk
      cases hk
theorem toldT (o : FO) {L : List (AV o)} (h : tS 400 L = true) : okS 400 (toldR o L) = true := by
  unfold toldR
  cases kfin o L
  · exact tS_rep 400 _
  · exact h
noncomputable def kok (o : FO) (L : List (AV o)) : Bool := all2 fun i j => amtS o (lkS L (i * 20 + j)) && o.seq (lkS L (i * 20 + j)) (lkS L (j * 20 + i))
noncomputable def kok2 (o : FO) (L : List (AV o)) : Bool := all2 fun i j => amtS o (lkS L (i * 20 + j)) && m93_0 o (lkS L (i * 20 + j)) (lkS L (j * 20 + i))
theorem val1 (o : FO) {L : List (AV o)} (h : tS 400 L = true) : f68 o 4096 L = some (.bool (kok o L), [.live false true L]) := by
  have := iter2_all (N := 4096) (by omega) (f68_L0 o 4096) (f68_L1 o 4096) (fun i => (((i : Nat) : Int), L)) (fun i j => (((i : Nat) : Int), ((j : Nat) : Int), L)) (fun i j => amtS o (lkS L (i * 20 + j)) && o.seq (lkS L (i * 20 + j)) (lkS L (j * 20 + i))) (some (.bool false, [.live false true L])) (some (.bool true, [.live false true L]))
    (fun i hi s0 => by
      unfold f68_L0
      simp (disch := omega) only [dl20, dn20, dlt, dnl, dge, wrS, Int.toNat_natCast, Nat.zero_add, Nat.add_zero, Nat.mul_one, Bool.and_true, Bool.true_and, Bool.and_self, gd_true, cond_true, cond_false]
      rfl) (fun i j hi hj s0 s1 => by
      unfold f68_L1
      simp (disch := omega) only [dl20, dn20, dlt, dnl, dge, wrS, Int.toNat_natCast, Nat.zero_add, Nat.add_zero, Nat.mul_one, Bool.and_true, Bool.true_and, Bool.and_self, gd_true, cond_true, cond_false, rdS_t h]
      cases amtS o (lkS L (i * 20 + j)) <;> cases o.seq (lkS L (i * 20 + j)) (lkS L (j * 20 + i)) <;> rfl) (fun i hi s0 s1 => by
      unfold f68_L1
      simp (disch := omega) only [dl20, dn20, dlt, dnl, dge, wrS, Int.toNat_natCast, Nat.zero_add, Nat.add_zero, Nat.mul_one, Bool.and_true, Bool.true_and, Bool.and_self, gd_true, cond_true, cond_false]) (fun s0 => by
      unfold f68_L0
      simp (disch := omega) only [dl20, dn20, dlt, dnl, dge, wrS, Int.toNat_natCast, Nat.zero_add, Nat.add_zero, Nat.mul_one, Bool.and_true, Bool.true_and, Bool.and_self, gd_true, cond_true, cond_false])
  have e2 : f68 o 4096 L = _ := this
  rw [e2]
  unfold kok
  cases all2 (fun i j => amtS o (lkS L (i * 20 + j)) && o.seq (lkS L (i * 20 + j)) (lkS L (j * 20 + i))) <;> rfl
theorem val2 (o : FO) {L : List (AV o)} (h : tS 400 L = true) : f70 o 4096 L = some (.bool (kok2 o L), []) := by
  have := iter2_all (N := 4096) (by omega) (f70_L0 o 4096) (f70_L1 o 4096) (fun i => (((i : Nat) : Int), L)) (fun i j => (((i : Nat) : Int), ((i : Nat) : Int), ((j : Nat) : Int), L)) (fun i j => amtS o (lkS L (i * 20 + j)) && m93_0 o (lkS L (i * 20 + j)) (lkS L (j * 20 + i))) (some (.bool false, [])) (some (.bool true, []))
    (fun i hi s0 => by
      unfold f70_L0
      simp (disch := omega) only [dl20, dn20, dlt, dnl, dge, wrS, Int.toNat_natCast, Nat.zero_add, Nat.add_zero, Nat.mul_one, Bool.and_true, Bool.true_and, Bool.and_self, gd_true, cond_true, cond_false]
      rfl) (fun i j hi hj s0 s1 => by
      unfold f70_L1
      simp (disch := omega) only [dl20, dn20, dlt, dnl, dge, wrS, Int.toNat_natCast, Nat.zero_add, Nat.add_zero, Nat.mul_one, Bool.and_true, Bool.true_and, Bool.and_self, gd_true, cond_true, cond_false, rdS_t h]
      cases amtS o (lkS L (i * 20 + j)) <;> cases m93_0 o (lkS L (i * 20 + j)) (lkS L (j * 20 + i)) <;> rfl) (fun i hi s0 s1 => by
      unfold f70_L1
      simp (disch := omega) only [dl20, dn20, dlt, dnl, dge, wrS, Int.toNat_natCast, Nat.zero_add, Nat.add_zero, Nat.mul_one, Bool.and_true, Bool.true_and, Bool.and_self, gd_true, cond_true, cond_false]) (fun s0 => by
      unfold f70_L0
      simp (disch := omega) only [dl20, dn20, dlt, dnl, dge, wrS, Int.toNat_natCast, Nat.zero_add, Nat.add_zero, Nat.mul_one, Bool.and_true, Bool.true_and, Bool.and_self, gd_true, cond_true, cond_false])
  have e2 : f70 o 4096 L = _ := this
  rw [e2]
  unfold kok2
  cases all2 (fun i j => amtS o (lkS L (i * 20 + j)) && m93_0 o (lkS L (i * 20 + j)) (lkS L (j * 20 + i))) <;> rfl
theorem same_self {x : ieee.S} (h : ieee.seq x x = true) : m93_0 ieee x x = true := by
  unfold m93_0
  simp only [h, Bool.not_true, cond_false, cond_true, beq_self_eq_true]
theorem same_bits {x y : ieee.S} (hx : ieee.seq x x = true) (hy : ieee.seq y y = true) (h : m93_0 ieee x y = true) : x = y := by
  unfold m93_0 at h
  simp only [hx, hy, Bool.not_true, cond_false, cond_true, beq_iff_eq] at h
  have h2 : ((x.1 : Nat) : Int) = ((y.1 : Nat) : Int) := h
  exact Wd.eq (k := .f32) (by omega)
theorem amt_seq {x : ieee.S} (h : amtS ieee x = true) : ieee.seq x x = true := by
  unfold amtS at h
  cases hf : finS ieee x with
  | false => rw [hf] at h; cases h
  | true => exact seq_of_fin x hf
theorem kok_eq (L : List A) : kok2 ieee L = kok ieee L := by
  unfold kok kok2
  refine all2_congr ⟨fun hq => ?_, fun hq => ?_⟩
  · intro i j hi hj
    have h1 := hq i j hi hj
    have h2 := hq j i hj hi
    rw [Bool.and_eq_true] at h1 h2 ⊢
    have e := same_bits (amt_seq h1.1) (amt_seq h2.1) h1.2
    rw [← e]
    exact ⟨h1.1, amt_seq h1.1⟩
  · intro i j hi hj
    have h1 := hq i j hi hj
    have h2 := hq j i hj hi
    rw [Bool.and_eq_true] at h1 h2 ⊢
    have e := amt_eq h1.1 h2.1 h1.2
    rw [← e]
    exact ⟨h1.1, same_self (amt_seq h1.1)⟩
theorem lp29 (o : FO) {L : List (AV o)} {x : o.S} {M : List (AV o)} {c : Int} (h : tS 400 L = true) (hM : tS 400 M = true) (e : toldR o (updS 400 L (fun t => o.smul (lkS L t) x) 400) = some (.tup [.agg M, .int .i64 c], [])) : iter (f29_L0 o 4096) 4096 (x, (0 : Int), L, (List.replicate 400 (.f32 (o.slit 0)) : List (AV o))) = some (.tup [.agg M, .int .i64 c], []) := by
  have hz : tS 400 (List.replicate 400 (.f32 (o.slit 0)) : List (AV o)) = true := tS_rep 400 _
  have hu := fun t => tS_updS 400 L (fun t => o.smul (lkS L t) x) t
  have := iter2_up (N := 4096) (by omega) (f29_L0 o 4096) (f29_L1 o 4096) (fun i => (x, ((i : Nat) : Int), updS 400 L (fun t => o.smul (lkS L t) x) (i * 20), (List.replicate 400 (.f32 (o.slit 0)) : List (AV o)))) (fun i j => (x, ((i : Nat) : Int), ((j : Nat) : Int), updS 400 L (fun t => o.smul (lkS L t) x) (i * 20 + j), (List.replicate 400 (.f32 (o.slit 0)) : List (AV o)))) (some (.tup [.agg M, .int .i64 c], []))
    (fun i hi s0 => by
      unfold f29_L0
      simp (disch := omega) only [dl20, dn20, dlt, dnl, dge, wrS, Int.toNat_natCast, Nat.zero_add, Nat.add_zero, Nat.mul_one, Bool.and_true, Bool.true_and, Bool.and_self, gd_true, cond_true, cond_false]
      rfl) (fun i j hi hj s0 s1 => by
      have hs := updS_set (L := L) (g := fun t => o.smul (lkS L t) x) (t := i * 20 + j) (n := 400) (by omega)
      have d1 : (i * 20 + j) / 20 = i := by omega
      have d2 : (i * 20 + j) % 20 = j := by omega
      
      unfold f29_L1
      simp (disch := omega) only [dl20, dn20, dlt, dnl, dge, wrS, Int.toNat_natCast, Nat.zero_add, Nat.add_zero, Nat.mul_one, Bool.and_true, Bool.true_and, Bool.and_self, gd_true, cond_true, cond_false, rdS_t (hu (i * 20 + j)), updS_here, wrS_t (hu (i * 20 + j))] at hs ⊢
      rw [hs]
      rfl) (fun i hi s0 s1 => by
      unfold f29_L1
      simp (disch := omega) only [dl20, dn20, dlt, dnl, dge, wrS, Int.toNat_natCast, Nat.zero_add, Nat.add_zero, Nat.mul_one, Bool.and_true, Bool.true_and, Bool.and_self, gd_true, cond_true, cond_false, Nat.succ_mul]) (fun s0 => by
      unfold f29_L0
      simp (disch := omega) only [dl20, dn20, dlt, dnl, dge, wrS, Int.toNat_natCast, Nat.zero_add, Nat.add_zero, Nat.mul_one, Bool.and_true, Bool.true_and, Bool.and_self, gd_true, cond_true, cond_false, show 20 * 20 = 400 from rfl, rdA_tS (hu 400), m59_ok, k59, m59_0, g59_0, m59_1, g59_1, told59 o (hu 400), e, wrA_tS hz hM, rdA_tS hM])
  rw [show (0 : Nat) * 20 = 0 from rfl, updS_0 h] at this
  exact this
theorem lp30 (o : FO) {L : List (AV o)} {x : o.S} {M : List (AV o)} {c : Int} (h : tS 400 L = true) (hM : tS 400 M = true) (e : toldR o (updS 400 L (fun t => o.smul (lkS L t) x) 400) = some (.tup [.agg M, .int .i64 c], [])) : iter (f30_L0 o 4096) 4096 (x, (0 : Int), L, (List.replicate 400 (.f32 (o.slit 0)) : List (AV o))) = some (.tup [.agg M, .int .i64 c], []) := by
  have hz : tS 400 (List.replicate 400 (.f32 (o.slit 0)) : List (AV o)) = true := tS_rep 400 _
  have hu := fun t => tS_updS 400 L (fun t => o.smul (lkS L t) x) t
  have := iter2_up (N := 4096) (by omega) (f30_L0 o 4096) (f30_L1 o 4096) (fun i => (x, ((i : Nat) : Int), updS 400 L (fun t => o.smul (lkS L t) x) (i * 20), (List.replicate 400 (.f32 (o.slit 0)) : List (AV o)))) (fun i j => (x, ((i : Nat) : Int), ((i : Nat) : Int), ((j : Nat) : Int), updS 400 L (fun t => o.smul (lkS L t) x) (i * 20 + j), (List.replicate 400 (.f32 (o.slit 0)) : List (AV o)))) (some (.tup [.agg M, .int .i64 c], []))
    (fun i hi s0 => by
      unfold f30_L0
      simp (disch := omega) only [dl20, dn20, dlt, dnl, dge, wrS, Int.toNat_natCast, Nat.zero_add, Nat.add_zero, Nat.mul_one, Bool.and_true, Bool.true_and, Bool.and_self, gd_true, cond_true, cond_false]
      rfl) (fun i j hi hj s0 s1 => by
      have hs := updS_set (L := L) (g := fun t => o.smul (lkS L t) x) (t := i * 20 + j) (n := 400) (by omega)
      have d1 : (i * 20 + j) / 20 = i := by omega
      have d2 : (i * 20 + j) % 20 = j := by omega
      
      unfold f30_L1
      simp (disch := omega) only [dl20, dn20, dlt, dnl, dge, wrS, Int.toNat_natCast, Nat.zero_add, Nat.add_zero, Nat.mul_one, Bool.and_true, Bool.true_and, Bool.and_self, gd_true, cond_true, cond_false, rdS_t (hu (i * 20 + j)), updS_here, wrS_t (hu (i * 20 + j))] at hs ⊢
      rw [hs]
      rfl) (fun i hi s0 s1 => by
      unfold f30_L1
      simp (disch := omega) only [dl20, dn20, dlt, dnl, dge, wrS, Int.toNat_natCast, Nat.zero_add, Nat.add_zero, Nat.mul_one, Bool.and_true, Bool.true_and, Bool.and_self, gd_true, cond_true, cond_false, Nat.succ_mul]) (fun s0 => by
      unfold f30_L0
      simp (disch := omega) only [dl20, dn20, dlt, dnl, dge, wrS, Int.toNat_natCast, Nat.zero_add, Nat.add_zero, Nat.mul_one, Bool.and_true, Bool.true_and, Bool.and_self, gd_true, cond_true, cond_false, show 20 * 20 = 400 from rfl, rdA_tS (hu 400), m71_ok, k71, m71_0, g71_0, m71_1, g71_1, told71 o (hu 400), e, wrA_tS hz hM, rdA_tS hM])
  rw [show (0 : Nat) * 20 = 0 from rfl, updS_0 h] at this
  exact this
theorem main {L : List A} (h : tS 400 L = true) (x : ieee.S) : okS 400 (f29 ieee 4096 L x) = true ∧ f30 ieee 4096 L x = f29 ieee 4096 L x := by
  have hz : tS 400 (List.replicate 400 (.f32 (ieee.slit 0)) : List A) = true := tS_rep 400 _
  obtain ⟨M, c, e, hM⟩ := okS_get (toldT ieee (tS_updS 400 L (fun t => ieee.smul (lkS L t) x) 400))
  have l1 := lp29 ieee h hM e
  have l2 := lp30 ieee h hM e
  unfold f29 f30
  simp only [rdA_tS h, m68_ok, k68, m68_0, g68_0, m70_ok, k70, m70_0, g70_0, val1 ieee h, val2 ieee h, kok_eq, gd_true, wrA_tS hz hz, rdA_tS hz, l1, l2]
  cases kok ieee L
  · exact ⟨hz, trivial⟩
  · cases amtS ieee x
    · exact ⟨hz, trivial⟩
    · exact ⟨hM, trivial⟩
theorem law_true (L : List A) (x : ieee.S) (hL : L2 CK.is (List.replicate 400 .f32) L) : f8 ieee L x = some (.bool true, []) := by
  have tL := tS_of hL
  have hm := main tL x
  obtain ⟨M, c, e, hM⟩ := okS_get hm.1
  have e2 := hm.2.trans e
  have hz : tS 400 (List.replicate 400 (.f32 (ieee.slit 0)) : List A) = true := tS_rep 400 _
  unfold f8
  simp only [rdA_tS tL, kerOk ieee tL, ker0 ieee tL, m29_ok, k29, m29_0, g29_0, m29_1, g29_1, m30_ok, k30, m30_0, g30_0, m30_1, g30_1, e, e2, wrA_tS hz hM, rdA_tS hM, gd_true, eqkOk ieee hM, eqk0 ieee hM, bne_self_eq_false, cond_false, cond_true]

theorem own : ownKnob Try.prog.godebug = none := by kernel_rfl
theorem laidOut : laidOutB Try.prog = true := by kernel_rfl
set_option maxRecDepth 100000 in
theorem lifted (os : Os) (started : os.Started) (H : Type) (enc : TypeId × Value → H) :
    ReturnsInHanded {} Try.checked os 8 .any (Rows.fnExactScaleKernelSpec.pre6 enc Try.prog Try.f8 Rows.fnExactScaleKernelRow.domain false) (Rows.fnExactScaleKernelSpec.post enc Try.prog Try.f8 false true false false) := by
  refine returnsInHanded_of_change (C := Try.checked) own started (by kernel_rfl) Try.func8
    (ChangeSpec.witness6 (enc := enc) (C := Try.checked) false ⟨#[], #[.agg (Array.replicate 400 (.float .f32 0)), .float .f32 0], []⟩ 8 (by kernel_rfl) (by kernel_rfl) (by kernel_rfl) (by kernel_rfl)) ?_
  intro W base args ds gs before hval0 hW hcnd _
  have hval : ∀ (j : Nat) t v, Try.f8.params[j]? = some t → args[j]? = some v → Value.okWide Try.prog W .any base t v := hval0
  have hW' := hW
  obtain ⟨p, q, hA0, hV, rfl, hfz, hnd⟩ := hW
  have hA : DataW.TrodAll enc Try.prog W 0 (fun _ => true) true Try.f8.params.toList args.toList ds p := hA0
  have hA1 := hA
  rw [Try.params8] at hA hval
  obtain ⟨v0, vs0, d0, ds0, p0, q0, hargs, rfl, rfl, h0, r0'⟩ := trodAll_cons hA
  obtain ⟨v1, vs1, d1, ds1, p1, q1, rfl, rfl, rfl, h1, r1'⟩ := trodAll_cons r0'
  obtain ⟨rfl, rfl, rfl⟩ := trodAll_nil r1'
  obtain rfl : args = #[v0, v1] := by cases args; simp_all
  obtain ⟨rfl, rfl⟩ := trodVars_none hV
  obtain ⟨cs0, hl0, r0⟩ := okW_agg (List.replicate 400 (.f32)) (by kernel_rfl) (by kernel_rfl) (by kernel_rfl) (hval 0 40 v0 rfl rfl)
  obtain ⟨x1, r1⟩ := okW_f32 (by kernel_rfl) (hval 1 33 v1 rfl rfl)
  clear hA0 hval0
  have hx := (eq8 ieee 4096 cs0 x1).trans (law_true cs0 x1 hl0)
  refine (law_calls0 (cok8 4096 (Nat.le_refl _)) (is8 4096) hx (L2.cons (r0 _) (L2.cons (r1 _) (L2.nil _)))).mono fun e W' ⟨he, bel⟩ => ?_
  subst he
  exact ⟨_, rfl, _, _, _, [], _, [], hW', trodAll_mk1 (shut_bool (by kernel_rfl) _), trodAll_stays laidOut bel (by kernel_rfl) hA1, rfl, bel.frame _, fun h => by cases h⟩

/-- The statement. -/
theorem proved : Rows.FnExactScaleKernelSaid :=
  OpenClaim.holds_of_wide 8 Try.f8 rfl rfl rfl rfl rfl rfl rfl ⟨rfl, rfl, rfl, rfl, rfl⟩ rfl rfl rfl rfl rfl (by kernel_rfl) Try.func8 (by kernel_rfl)
    (of_decide_eq_true (by kernel_rfl)) (by unfold Func.isWrapper; first | (rw [if_pos (by decide +kernel)]; kernel_rfl) | (rw [if_neg (by decide +kernel)]; exact ⟨rfl, rfl⟩))
    (fun os started H enc _ => lifted os started H enc)
end Go.Proofs.Ytbmakfcooonogaa.fnExactScaleKernel
