/- FnExactSumKernel returns true for all arguments. Conditions: none. -/
import Derived.Test.YtbmakfcooonogaaRows
import Derived.Test.YtbmakfcooonogaaG1
set_option linter.unusedVariables false
set_option linter.unusedSimpArgs false
set_option maxRecDepth 100000
namespace Go.Proofs.Ytbmakfcooonogaa.fnExactSumKernel
open Go.Ab Go.RowKit Go.ChangeShapes Go.WideShapes Go.ChangeAt
theorem same20 (o : FO) (x : o.D) : m20_0 o x x = true := by
  unfold m20_0
  cases h : o.deq x x
  · rfl
  · cases h0 : o.deq x (o.dlit 0)
    · rfl
    · simp
theorem eqr (o : FO) {L : List (AV o)} (h : tS 20 L = true) : f63 o 4096 L L = some (.bool true, []) := by
  have := iter_up (f63_L0 o 4096) (fun i => (((i : Nat) : Int), L, L)) 20 (some (.bool true, [])) 4096 (by omega) (fun i hi s0 => by
    unfold f63_L0
    simp (disch := omega) only [dl20, dn20, dlt, dnl, dge, wrS, Int.toNat_natCast, Nat.zero_add, Nat.add_zero, Nat.mul_one, Bool.and_true, Bool.true_and, Bool.and_self, gd_true, cond_true, cond_false, rdS_t h, same20, Bool.not_true]) (fun s0 => by
    unfold f63_L0
    simp (disch := omega) only [dl20, dn20, dlt, dnl, dge, wrS, Int.toNat_natCast, Nat.zero_add, Nat.add_zero, Nat.mul_one, Bool.and_true, Bool.true_and, Bool.and_self, gd_true, cond_true, cond_false])
  exact this
theorem eqk (o : FO) {L : List (AV o)} (h : tS 400 L = true) : f23 o 4096 L L = some (.bool true, []) := by
  have := iter_up (f23_L0 o 4096) (fun i => (((i : Nat) : Int), L, L)) 20 (some (.bool true, [])) 4096 (by omega) (fun i hi s0 => by
    have hs := tS_sub h (i := i * 20) (m := 20) (by omega)
    unfold f23_L0
    simp (disch := omega) only [dl20, dn20, dlt, dnl, dge, wrS, Int.toNat_natCast, Nat.zero_add, Nat.add_zero, Nat.mul_one, Bool.and_true, Bool.true_and, Bool.and_self, gd_true, cond_true, cond_false, rdA_sS h, m63_ok, k63, m63_0, g63_0, eqr o hs, Bool.not_true]) (fun s0 => by
    unfold f23_L0
    simp (disch := omega) only [dl20, dn20, dlt, dnl, dge, wrS, Int.toNat_natCast, Nat.zero_add, Nat.add_zero, Nat.mul_one, Bool.and_true, Bool.true_and, Bool.and_self, gd_true, cond_true, cond_false])
  exact this
theorem eqkOk (o : FO) {L : List (AV o)} (h : tS 400 L = true) : m23_ok o L L = true := by
  unfold m23_ok
  rw [eqk o h]
  rfl
theorem eqk0 (o : FO) {L : List (AV o)} (h : tS 400 L = true) : m23_0 o L L = true := by
  unfold m23_0
  rw [eqk o h]
  rfl
noncomputable def kfin (o : FO) (L : List (AV o)) : Bool := all2 fun i j => finS o (lkS L (i * 20 + j))
noncomputable def toldR (o : FO) (L : List (AV o)) : R o := bif kfin o L then some (.tup [.agg L, .int .i64 (0 : Int)], []) else some (.tup [.agg (List.replicate 400 (.f32 (o.slit 0)) : List (AV o)), .int .i64 (4 : Int)], [])
theorem told59 (o : FO) {L : List (AV o)} (h : tS 400 L = true) : f59 o 4096 L = toldR o L := by
  have hz : tS 400 (List.replicate 400 (.f32 (o.slit 0)) : List (AV o)) = true := tS_rep 400 _
  exact iter2_all (N := 4096) (by omega) (f59_L0 o 4096) (f59_L1 o 4096) (fun i => (((i : Nat) : Int), L, (List.replicate 400 (.f32 (o.slit 0)) : List (AV o)))) (fun i j => (((i : Nat) : Int), ((j : Nat) : Int), L, (List.replicate 400 (.f32 (o.slit 0)) : List (AV o)))) (fun i j => finS o (lkS L (i * 20 + j))) (some (.tup [.agg (List.replicate 400 (.f32 (o.slit 0)) : List (AV o)), .int .i64 (4 : Int)], [])) (some (.tup [.agg L, .int .i64 (0 : Int)], []))
    (fun i hi s0 => by
      unfold f59_L0
      simp (disch := omega) only [dl20, dn20, dlt, dnl, dge, wrS, Int.toNat_natCast, Nat.zero_add, Nat.add_zero, Nat.mul_one, Bool.and_true, Bool.true_and, Bool.and_self, gd_true, cond_true, cond_false]
      rfl) (fun i j hi hj s0 s1 => by
      unfold f59_L1
      simp (disch := omega) only [dl20, dn20, dlt, dnl, dge, wrS, Int.toNat_natCast, Nat.zero_add, Nat.add_zero, Nat.mul_one, Bool.and_true, Bool.true_and, Bool.and_self, gd_true, cond_true, cond_false, rdS_t h, wrA_tS hz hz, rdA_tS hz]
      show (bif !(finS o (lkS L (i * 20 + j))) then _ else _) = _
      cases finS o (lkS L (i * 20 + j)) <;> rfl) (fun i hi s0 s1 => by
      unfold f59_L1
      simp (disch := omega) only [dl20, dn20, dlt, dnl, dge, wrS, Int.toNat_natCast, Nat.zero_add, Nat.add_zero, Nat.mul_one, Bool.and_true, Bool.true_and, Bool.and_self, gd_true, cond_true, cond_false]) (fun s0 => by
      unfold f59_L0
      simp (disch := omega) only [dl20, dn20, dlt, dnl, dge, wrS, Int.toNat_natCast, Nat.zero_add, Nat.add_zero, Nat.mul_one, Bool.and_true, Bool.true_and, Bool.and_self, gd_true, cond_true, cond_false, rdA_tS h, wrA_tS hz h])
theorem told71 (o : FO) {L : List (AV o)} (h : tS 400 L = true) : f71 o 4096 L = toldR o L := by
  have hz : tS 400 (List.replicate 400 (.f32 (o.slit 0)) : List (AV o)) = true := tS_rep 400 _
  have hlen := tS_len h
  have := iter_find (f71_L0 o 4096) (fun i => (((i : Nat) : Int), L, (List.replicate 400 (.f32 (o.slit 0)) : List (AV o)))) 20 (fun i => !(finSeg L (i * 20) 20)) (fun _ => some (.tup [.agg (List.replicate 400 (.f32 (o.slit 0)) : List (AV o)), .int .i64 (4 : Int)], [])) (some (.tup [.agg L, .int .i64 (0 : Int)], []))
    (fun i hi s0 => by
      have e : Nat.ble (i * 20 + 20) L.length = true := Nat.ble_eq_true_of_le (by omega)
      unfold f71_L0
      simp (disch := omega) only [dl20, dn20, dlt, dnl, dge, wrS, Int.toNat_natCast, Nat.zero_add, Nat.add_zero, Nat.mul_one, Bool.and_true, Bool.true_and, Bool.and_self, gd_true, cond_true, cond_false, e, segF_s h, rdS_t h, wrA_tS hz hz, rdA_tS hz]) (fun s0 => by
      unfold f71_L0
      simp (disch := omega) only [dl20, dn20, dlt, dnl, dge, wrS, Int.toNat_natCast, Nat.zero_add, Nat.add_zero, Nat.mul_one, Bool.and_true, Bool.true_and, Bool.and_self, gd_true, cond_true, cond_false, rdA_tS h, wrA_tS hz h]) 20 0 4096 (by omega) (by omega)
  have e2 : f71 o 4096 L = _ := this
  rw [e2]
  unfold toldR
  cases hk : kfin o L with
  | true =>
    have hk' := all2_iff.1 hk
    rw [fnd_false (fun i _ hi => by
      rw [(finSeg_iff h (by omega)).2 (fun j hj => hk' i j (by omega) hj)]
      rfl)]
    rfl
  | false =>
    cases hf : fnd (fun i => !(finSeg L (i * 20) 20)) 20 0 with
    | some t => rfl
    | none =>
      exfalso
      have : kfin o L = true := all2_iff.2 fun i j hi hj => by
        have h1 := fnd_none hf i (by omega) (by omega)
        exact (finSeg_iff h (by omega)).1 (by simpa using h1) j hj
      rw [this] at hk
      cases hk
theorem toldT (o : FO) {L : List (AV o)} (h : tS 400 L = true) : okS 400 (toldR o L) = true := by
  unfold toldR
  cases kfin o L
  · exact tS_rep 400 _
  · exact h
theorem wu {i : Nat} (h : i < 20) : IntKind.wrap .u64 ((i : Nat) : Int) = ((i : Nat) : Int) := (by decide : ∀ k : Fin 20, IntKind.wrap .u64 ((k.1 : Nat) : Int) = ((k.1 : Nat) : Int)) ⟨i, h⟩
theorem mass1 (o : FO) {i : Nat} (h : i < 20) : m58_ok o ((i : Nat) : Int) = true := by
  unfold m58_ok
  rw [wu h, dge]
  rfl
theorem mass2 (o : FO) {i : Nat} (h : i < 20) : m62_ok o ((i : Nat) : Int) = true := by
  unfold m62_ok
  rw [dge]
  rfl
theorem mass3 (o : FO) {i : Nat} (h : i < 20) : m62_0 o ((i : Nat) : Int) = m58_0 o ((i : Nat) : Int) := by
  unfold m58_0 m62_0
  rw [wu h]
theorem lp21 (o : FO) {x : o.S} {M : List (AV o)} {c : Int}  (hM : tS 400 M = true) (e : toldR o (updS 400 (List.replicate 400 (.f32 (o.slit 0)) : List (AV o)) (fun t => o.smul x (o.sadd (m58_0 o ((t / 20 : Nat) : Int)) (m58_0 o ((t % 20 : Nat) : Int)))) 400) = some (.tup [.agg M, .int .i64 c], [])) : iter (f21_L0 o 4096) 4096 (x, (0 : Int), (List.replicate 400 (.f32 (o.slit 0)) : List (AV o)), (List.replicate 400 (.f32 (o.slit 0)) : List (AV o))) = some (.tup [.agg M, .int .i64 c], []) := by
  have hz : tS 400 (List.replicate 400 (.f32 (o.slit 0)) : List (AV o)) = true := tS_rep 400 _
  have hu := fun t => tS_updS 400 (List.replicate 400 (.f32 (o.slit 0)) : List (AV o)) (fun t => o.smul x (o.sadd (m58_0 o ((t / 20 : Nat) : Int)) (m58_0 o ((t % 20 : Nat) : Int)))) t
  have := iter2_up (N := 4096) (by omega) (f21_L0 o 4096) (f21_L1 o 4096) (fun i => (x, ((i : Nat) : Int), (List.replicate 400 (.f32 (o.slit 0)) : List (AV o)), updS 400 (List.replicate 400 (.f32 (o.slit 0)) : List (AV o)) (fun t => o.smul x (o.sadd (m58_0 o ((t / 20 : Nat) : Int)) (m58_0 o ((t % 20 : Nat) : Int)))) (i * 20))) (fun i j => (x, ((i : Nat) : Int), ((j : Nat) : Int), (List.replicate 400 (.f32 (o.slit 0)) : List (AV o)), updS 400 (List.replicate 400 (.f32 (o.slit 0)) : List (AV o)) (fun t => o.smul x (o.sadd (m58_0 o ((t / 20 : Nat) : Int)) (m58_0 o ((t % 20 : Nat) : Int)))) (i * 20 + j))) (some (.tup [.agg M, .int .i64 c], []))
    (fun i hi s0 => by
      unfold f21_L0
      rw [dl20 hi, cond_true]
      rfl) (fun i j hi hj s0 s1 => by
      have hs := updS_set (L := (List.replicate 400 (.f32 (o.slit 0)) : List (AV o))) (g := fun t => o.smul x (o.sadd (m58_0 o ((t / 20 : Nat) : Int)) (m58_0 o ((t % 20 : Nat) : Int)))) (t := i * 20 + j) (n := 400) (by omega)
      have d1 : (i * 20 + j) / 20 = i := by omega
      have d2 : (i * 20 + j) % 20 = j := by omega
      
      unfold f21_L1
      simp (disch := omega) only [dl20, dn20, dlt, dnl, dge, wrS, Int.toNat_natCast, Nat.zero_add, Nat.add_zero, Nat.mul_one, Bool.and_true, Bool.true_and, Bool.and_self, gd_true, cond_true, cond_false, rdS_t (hu (i * 20 + j)), updS_here, wrS_t (hu (i * 20 + j)), mass1, d1, d2] at hs ⊢
      rw [hs]
      rfl) (fun i hi s0 s1 => by
      unfold f21_L1
      simp (disch := omega) only [dl20, dn20, dlt, dnl, dge, wrS, Int.toNat_natCast, Nat.zero_add, Nat.add_zero, Nat.mul_one, Bool.and_true, Bool.true_and, Bool.and_self, gd_true, cond_true, cond_false, Nat.succ_mul]) (fun s0 => by
      unfold f21_L0
      simp (disch := omega) only [dl20, dn20, dlt, dnl, dge, wrS, Int.toNat_natCast, Nat.zero_add, Nat.add_zero, Nat.mul_one, Bool.and_true, Bool.true_and, Bool.and_self, gd_true, cond_true, cond_false, show 20 * 20 = 400 from rfl, rdA_tS (hu 400), m59_ok, k59, m59_0, g59_0, m59_1, g59_1, told59 o (hu 400), e, wrA_tS hz hM, rdA_tS hM])
  rw [show (0 : Nat) * 20 = 0 from rfl, updS_0 hz] at this
  exact this
theorem clos (o : FO) {i j : Nat} (hi : i < 20) (hj : j < 20) (x : o.S) : m61_ok o ((i : Nat) : Int) ((j : Nat) : Int) x = true ∧ m61_0 o ((i : Nat) : Int) ((j : Nat) : Int) x = o.smul x (o.sadd (m58_0 o ((i : Nat) : Int)) (m58_0 o ((j : Nat) : Int))) := by
  unfold m61_ok m61_0
  rw [mass2 o hi, mass2 o hj, mass3 o hi, mass3 o hj]
  exact ⟨rfl, rfl⟩
theorem lp60 (o : FO) {x : o.S} {M : List (AV o)} {c : Int}  (hM : tS 400 M = true) (e : toldR o (updS 400 (List.replicate 400 (.f32 (o.slit 0)) : List (AV o)) (fun t => o.smul x (o.sadd (m58_0 o ((t / 20 : Nat) : Int)) (m58_0 o ((t % 20 : Nat) : Int)))) 400) = some (.tup [.agg M, .int .i64 c], [])) : iter (f60_L0 o 4096) 4096 ((0 : Int), x, (List.replicate 400 (.f32 (o.slit 0)) : List (AV o)), (List.replicate 400 (.f32 (o.slit 0)) : List (AV o))) = some (.tup [.agg M, .int .i64 c], [.live false true [.f32 x]]) := by
  have hz : tS 400 (List.replicate 400 (.f32 (o.slit 0)) : List (AV o)) = true := tS_rep 400 _
  have hu := fun t => tS_updS 400 (List.replicate 400 (.f32 (o.slit 0)) : List (AV o)) (fun t => o.smul x (o.sadd (m58_0 o ((t / 20 : Nat) : Int)) (m58_0 o ((t % 20 : Nat) : Int)))) t
  have := iter2_up (N := 4096) (by omega) (f60_L0 o 4096) (f60_L1 o 4096) (fun i => (((i : Nat) : Int), x, (List.replicate 400 (.f32 (o.slit 0)) : List (AV o)), updS 400 (List.replicate 400 (.f32 (o.slit 0)) : List (AV o)) (fun t => o.smul x (o.sadd (m58_0 o ((t / 20 : Nat) : Int)) (m58_0 o ((t % 20 : Nat) : Int)))) (i * 20))) (fun i j => (((i : Nat) : Int), ((i : Nat) : Int), ((j : Nat) : Int), x, (List.replicate 400 (.f32 (o.slit 0)) : List (AV o)), updS 400 (List.replicate 400 (.f32 (o.slit 0)) : List (AV o)) (fun t => o.smul x (o.sadd (m58_0 o ((t / 20 : Nat) : Int)) (m58_0 o ((t % 20 : Nat) : Int)))) (i * 20 + j))) (some (.tup [.agg M, .int .i64 c], [.live false true [.f32 x]]))
    (fun i hi s0 => by
      unfold f60_L0
      rw [dl20 hi, cond_true]
      rfl) (fun i j hi hj s0 s1 => by
      have hs := updS_set (L := (List.replicate 400 (.f32 (o.slit 0)) : List (AV o))) (g := fun t => o.smul x (o.sadd (m58_0 o ((t / 20 : Nat) : Int)) (m58_0 o ((t % 20 : Nat) : Int)))) (t := i * 20 + j) (n := 400) (by omega)
      have d1 : (i * 20 + j) / 20 = i := by omega
      have d2 : (i * 20 + j) % 20 = j := by omega
      
      unfold f60_L1
      simp (disch := omega) only [dl20, dn20, dlt, dnl, dge, wrS, Int.toNat_natCast, Nat.zero_add, Nat.add_zero, Nat.mul_one, Bool.and_true, Bool.true_and, Bool.and_self, gd_true, cond_true, cond_false, rdS_t (hu (i * 20 + j)), updS_here, wrS_t (hu (i * 20 + j)), (clos o hi hj x).1, (clos o hi hj x).2, d1, d2] at hs ⊢
      rw [hs]
      rfl) (fun i hi s0 s1 => by
      unfold f60_L1
      simp (disch := omega) only [dl20, dn20, dlt, dnl, dge, wrS, Int.toNat_natCast, Nat.zero_add, Nat.add_zero, Nat.mul_one, Bool.and_true, Bool.true_and, Bool.and_self, gd_true, cond_true, cond_false, Nat.succ_mul]) (fun s0 => by
      unfold f60_L0
      simp (disch := omega) only [dl20, dn20, dlt, dnl, dge, wrS, Int.toNat_natCast, Nat.zero_add, Nat.add_zero, Nat.mul_one, Bool.and_true, Bool.true_and, Bool.and_self, gd_true, cond_true, cond_false, show 20 * 20 = 400 from rfl, rdA_tS (hu 400), m71_ok, k71, m71_0, g71_0, m71_1, g71_1, told71 o (hu 400), e, wrA_tS hz hM, rdA_tS hM])
  rw [show (0 : Nat) * 20 = 0 from rfl, updS_0 hz] at this
  exact this
theorem main (x : ieee.S) : okS 400 (f21 ieee 4096 x) = true ∧ f22 ieee x = f21 ieee 4096 x := by
  have hz : tS 400 (List.replicate 400 (.f32 (ieee.slit 0)) : List A) = true := tS_rep 400 _
  obtain ⟨M, c, e, hM⟩ := okS_get (toldT ieee (tS_updS 400 (List.replicate 400 (.f32 (ieee.slit 0))) (fun t => ieee.smul x (ieee.sadd (m58_0 ieee ((t / 20 : Nat) : Int)) (m58_0 ieee ((t % 20 : Nat) : Int)))) 400))
  have l1 := lp21 ieee hM e
  have l2 := lp60 ieee hM e
  unfold f21 f22
  have e2 : f60 ieee 4096 x x = bif !(amtS ieee x) then some (.tup [.agg (List.replicate 400 (.f32 (ieee.slit 0))), .int .i64 (2 : Int)], [.live false true [.f32 x]]) else some (.tup [.agg M, .int .i64 c], [.live false true [.f32 x]]) := by
    unfold f60
    simp only [wrA_tS hz hz, rdA_tS hz, l2]
  simp only [m60_ok, k60, m60_0, g60_0, m60_1, g60_1, e2, wrA_tS hz hz, rdA_tS hz, l1]
  cases amtS ieee x
  · simp only [Bool.not_false, cond_true, gd_true, wrA_tS hz hz, rdA_tS hz, and_true]
    exact hz
  · simp only [Bool.not_true, cond_false, gd_true, wrA_tS hz hM, rdA_tS hM, and_true]
    exact hM
theorem law_true  (x : ieee.S)  : f5 ieee x = some (.bool true, []) := by
  have hm := main  x
  obtain ⟨M, c, e, hM⟩ := okS_get hm.1
  have e2 := hm.2.trans e
  have hz : tS 400 (List.replicate 400 (.f32 (ieee.slit 0)) : List A) = true := tS_rep 400 _
  unfold f5
  simp only [m21_ok, k21, m21_0, g21_0, m21_1, g21_1, m22_ok, k22, m22_0, g22_0, m22_1, g22_1, e, e2, wrA_tS hz hM, rdA_tS hM, gd_true, eqkOk ieee hM, eqk0 ieee hM, bne_self_eq_false, cond_false, cond_true]

theorem own : ownKnob Try.prog.godebug = none := by kernel_rfl
theorem laidOut : laidOutB Try.prog = true := by kernel_rfl
set_option maxRecDepth 100000 in
theorem lifted (os : Os) (started : os.Started) (H : Type) (enc : TypeId × Value → H) :
    ReturnsInHanded {} Try.checked os 5 .any (Rows.fnExactSumKernelSpec.pre6 enc Try.prog Try.f5 Rows.fnExactSumKernelRow.domain false) (Rows.fnExactSumKernelSpec.post enc Try.prog Try.f5 false true false false) := by
  refine returnsInHanded_of_change (C := Try.checked) own started (by kernel_rfl) Try.func5
    (ChangeSpec.witness6 (enc := enc) (C := Try.checked) false ⟨#[], #[.float .f32 0], []⟩ 8 (by kernel_rfl) (by kernel_rfl) (by kernel_rfl) (by kernel_rfl)) ?_
  intro W base args ds gs before hval0 hW hcnd _
  have hval : ∀ (j : Nat) t v, Try.f5.params[j]? = some t → args[j]? = some v → Value.okWide Try.prog W .any base t v := hval0
  have hW' := hW
  obtain ⟨p, q, hA0, hV, rfl, hfz, hnd⟩ := hW
  have hA : DataW.TrodAll enc Try.prog W 0 (fun _ => true) true Try.f5.params.toList args.toList ds p := hA0
  have hA1 := hA
  rw [Try.params5] at hA hval
  obtain ⟨v0, vs0, d0, ds0, p0, q0, hargs, rfl, rfl, h0, r0'⟩ := trodAll_cons hA
  obtain ⟨rfl, rfl, rfl⟩ := trodAll_nil r0'
  obtain rfl : args = #[v0] := by cases args; simp_all
  obtain ⟨rfl, rfl⟩ := trodVars_none hV
  obtain ⟨x0, r0⟩ := okW_f32 (by kernel_rfl) (hval 0 33 v0 rfl rfl)
  clear hA0 hval0
  have hx := (eq5 ieee 4096 x0).trans (law_true x0)
  refine (law_calls0 (cok5 4096 (Nat.le_refl _)) (is5 4096) hx (L2.cons (r0 _) (L2.nil _))).mono fun e W' ⟨he, bel⟩ => ?_
  subst he
  exact ⟨_, rfl, _, _, _, [], _, [], hW', trodAll_mk1 (shut_bool (by kernel_rfl) _), trodAll_stays laidOut bel (by kernel_rfl) hA1, rfl, bel.frame _, fun h => by cases h⟩

/-- The statement. -/
theorem proved : Rows.FnExactSumKernelSaid :=
  OpenClaim.holds_of_wide 5 Try.f5 rfl rfl rfl rfl rfl rfl rfl ⟨rfl, rfl, rfl, rfl, rfl⟩ rfl rfl rfl rfl rfl (by kernel_rfl) Try.func5 (by kernel_rfl)
    (of_decide_eq_true (by kernel_rfl)) (by unfold Func.isWrapper; first | (rw [if_pos (by decide +kernel)]; kernel_rfl) | (rw [if_neg (by decide +kernel)]; exact ⟨rfl, rfl⟩))
    (fun os started H enc _ => lifted os started H enc)
end Go.Proofs.Ytbmakfcooonogaa.fnExactSumKernel
