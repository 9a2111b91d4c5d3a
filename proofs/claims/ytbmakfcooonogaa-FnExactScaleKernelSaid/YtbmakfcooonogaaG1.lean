import Derived.Test.YtbmakfcooonogaaG0
set_option linter.unusedVariables false
set_option maxRecDepth 100000
namespace Go.Proofs.Ytbmakfcooonogaa
open Go.Ab Go.RowKit

/-! loop.example/g01224/laws.toFloat32A20 -/
noncomputable def f69_L0 (o : FO) (N : Nat) (s0 : Int × List (AV o) × List (AV o) × List (AV o) → R o) (a : Int × List (AV o) × List (AV o) × List (AV o)) : R o :=
  bif decide (a.1 < (20 : Int)) then
    gd (decide (0 ≤ a.1) && decide (a.1 < ((20 : Nat) : Int))) (
    rdS a.2.1 (0 + (((a.1).toNat) * 1)) fun x1 =>
    gd (decide (0 ≤ a.1) && decide (a.1 < ((20 : Nat) : Int))) (
    wr1 a.2.2.2 (0 + (((a.1).toNat) * 1)) (.f32 x1) fun c2 =>
    s0 (IntKind.wrap .i64 (a.1 + (1 : Int)), a.2.1, a.2.2.1, c2)))
  else
    rdA a.2.2.2 0 20 fun c3 =>
    wrA a.2.2.1 0 20 c3 fun c4 =>
    rdA c4 0 20 fun c5 =>
    some (.agg c5, [])
noncomputable def f69_D0 (o : FO) (vs : List (AV o)) (h : Heap o) : Option (Int × List (AV o) × List (AV o) × List (AV o)) :=
  match vs, h with
  | [.ptr 0 0, .ptr 1 0, .ptr 2 0, .int .i64 a0_0], [.live true true a0_1, .live true true a0_2, .live true true a0_3] => some (a0_0, a0_1, a0_2, a0_3)
  | _, _ => none
noncomputable def f69_E0 (o : FO) (a : Int × List (AV o) × List (AV o) × List (AV o)) : List (AV o) × Heap o := ([.ptr 0 0, .ptr 1 0, .ptr 2 0, .int .i64 a.1], [.live true true a.2.1, .live true true a.2.2.1, .live true true a.2.2.2])
theorem f69_DE0 (o : FO) : ∀ vs h a, f69_D0 o vs h = some a → f69_E0 o a = (vs, h) := by
  intro vs h a hx
  unfold f69_D0 at hx
  split at hx
  · cases hx; rfl
  · cases hx
noncomputable def f69 (o : FO) (N : Nat) (p0 : List (AV o)) : R o :=
  iter (f69_L0 o N) N ((0 : Int), p0, List.replicate 20 (.f32 (o.slit 0)), List.replicate 20 (.f32 (o.slit 0)))
noncomputable def c69 (o : FO) (N : Nat) : Cx o :=
  { ty := tab [(33, ty33 o), (39, ty39 o)]
    fn := tab []
    rounds := N, nt := 15, base := 0
    loops := [loopD [1, 2, 3, 4] (f69_D0 o) (f69_E0 o)] }
noncomputable def b69 : Code := match Try.f69.body with | some b => b | none => .skip
theorem is69 (N : Nat) : FnIs Try.prog (c69 ieee N) 69 Try.f69 b69 := ⟨by kernel_rfl, by kernel_rfl, by kernel_rfl, by kernel_rfl⟩
theorem eq69 (o : FO) (N : Nat) (p0 : List (AV o)) : afun (c69 o N) Try.f69.results.toList b69 [.agg p0] [] = f69 o N p0 := by kernel_rfl
theorem cok69 (N : Nat) (hN : 4096 ≤ N) : CtxOk Try.prog (c69 ieee N) := by
  refine ctxOk ?_ ?_ mixed ?_
  · intro p hp
    simp only [List.mem_cons, List.not_mem_nil, or_false] at hp
    rcases hp with rfl | rfl
    · exact tyOk33
    · exact tyOk39
  · intro p hp; cases hp
  · intro p hp
    simp only [List.mem_cons, List.not_mem_nil, or_false] at hp
    subst hp; exact loopD_ok _ _ _ (f69_DE0 ieee)
noncomputable def k69 (o : FO) : R o → Bool := fun r => match r with | some (.agg _, _) => true | _ => false
theorem k69_c (o : FO) (b : Bool) (x y : R o) : k69 o (bif b then x else y) = bif b then k69 o x else k69 o y := by cases b <;> rfl
noncomputable def m69_ok (o : FO) (p0 : List (AV o)) : Bool := k69 o (f69 o 4096 p0)
noncomputable def g69_0 (o : FO) : R o → List (AV o) := fun r => match r with | some (.agg r0, _) => r0 | _ => []
theorem g69_0c (o : FO) (b : Bool) (x y : R o) : g69_0 o (bif b then x else y) = bif b then g69_0 o x else g69_0 o y := by cases b <;> rfl
noncomputable def m69_0 (o : FO) (p0 : List (AV o)) : List (AV o) := g69_0 o (f69 o 4096 p0)
noncomputable def m69_h (o : FO) (p0 : List (AV o)) : Heap o := match f69 o 4096 p0 with | some (_, h) => h | _ => []
theorem val69 (o : FO) (p0 : List (AV o)) (h : m69_ok o p0 = true) : f69 o 4096 p0 = some (.agg (m69_0 o p0), m69_h o p0) := by
  unfold m69_ok k69 at h
  unfold m69_0 g69_0 m69_h
  generalize f69 o 4096 p0 = r at h ⊢
  split at h
  · rfl
  · cases h

noncomputable def e69 (o : FO) : List (AV o) → Tr (AV o)
  | [.agg p0] => .br (m69_ok o p0) (.leaf (.agg (m69_0 o p0))) .fail
  | _ => .fail
theorem ok69 (N : Nat) (hN : 4096 ≤ N) : CalOk Try.prog 69 (.pure (e69 ieee)) := by
  refine calOk_pure (cok69 4096 (by decide)) (is69 4096) ?_
  intro args av hg
  unfold e69 at hg
  split at hg
  · obtain ⟨h0, hg⟩ := br_get hg
    cases hg
    exact ⟨rfl, rfl, _, (eq69 ieee 4096 _).trans (val69 ieee _ h0)⟩
  · cases hg

/-! loop.example/g01224/laws.toKernel -/
noncomputable def f27_L0 (o : FO) (N : Nat) (s0 : Int × List (AV o) × List (AV o) × List (AV o) → R o) (a : Int × List (AV o) × List (AV o) × List (AV o)) : R o :=
  bif decide (a.1 < (20 : Int)) then
    gd (decide (0 ≤ a.1) && decide (a.1 < ((20 : Nat) : Int))) (
    rdA a.2.1 (0 + (((a.1).toNat) * 20)) 20 fun c1 =>
    gd (m69_ok o c1) (
    gd (decide (0 ≤ a.1) && decide (a.1 < ((20 : Nat) : Int))) (
    wrA a.2.2.2 (0 + (((a.1).toNat) * 20)) 20 (m69_0 o c1) fun c2 =>
    s0 (IntKind.wrap .i64 (a.1 + (1 : Int)), a.2.1, a.2.2.1, c2))))
  else
    rdA a.2.2.2 0 400 fun c3 =>
    wrA a.2.2.1 0 400 c3 fun c4 =>
    rdA c4 0 400 fun c5 =>
    some (.agg c5, [])
noncomputable def f27_D0 (o : FO) (vs : List (AV o)) (h : Heap o) : Option (Int × List (AV o) × List (AV o) × List (AV o)) :=
  match vs, h with
  | [.ptr 0 0, .ptr 1 0, .ptr 2 0, .int .i64 a0_0], [.live true true a0_1, .live true true a0_2, .live true true a0_3] => some (a0_0, a0_1, a0_2, a0_3)
  | _, _ => none
noncomputable def f27_E0 (o : FO) (a : Int × List (AV o) × List (AV o) × List (AV o)) : List (AV o) × Heap o := ([.ptr 0 0, .ptr 1 0, .ptr 2 0, .int .i64 a.1], [.live true true a.2.1, .live true true a.2.2.1, .live true true a.2.2.2])
theorem f27_DE0 (o : FO) : ∀ vs h a, f27_D0 o vs h = some a → f27_E0 o a = (vs, h) := by
  intro vs h a hx
  unfold f27_D0 at hx
  split at hx
  · cases hx; rfl
  · cases hx
noncomputable def f27 (o : FO) (N : Nat) (p0 : List (AV o)) : R o :=
  iter (f27_L0 o N) N ((0 : Int), p0, List.replicate 400 (.f32 (o.slit 0)), List.replicate 400 (.f32 (o.slit 0)))
noncomputable def c27 (o : FO) (N : Nat) : Cx o :=
  { ty := tab [(39, ty39 o), (40, ty40 o), (41, ty41 o)]
    fn := tab [(69, .pure (e69 o))]
    rounds := N, nt := 16, base := 0
    loops := [loopD [1, 2, 3, 4] (f27_D0 o) (f27_E0 o)] }
noncomputable def b27 : Code := match Try.f27.body with | some b => b | none => .skip
theorem is27 (N : Nat) : FnIs Try.prog (c27 ieee N) 27 Try.f27 b27 := ⟨by kernel_rfl, by kernel_rfl, by kernel_rfl, by kernel_rfl⟩
theorem eq27 (o : FO) (N : Nat) (p0 : List (AV o)) : afun (c27 o N) Try.f27.results.toList b27 [.agg p0] [] = f27 o N p0 := by kernel_rfl
theorem cok27 (N : Nat) (hN : 4096 ≤ N) : CtxOk Try.prog (c27 ieee N) := by
  refine ctxOk ?_ ?_ mixed ?_
  · intro p hp
    simp only [List.mem_cons, List.not_mem_nil, or_false] at hp
    rcases hp with rfl | rfl | rfl
    · exact tyOk39
    · exact tyOk40
    · exact tyOk41
  · intro p hp
    simp only [List.mem_cons, List.not_mem_nil, or_false] at hp
    subst hp; exact ok69 N hN
  · intro p hp
    simp only [List.mem_cons, List.not_mem_nil, or_false] at hp
    subst hp; exact loopD_ok _ _ _ (f27_DE0 ieee)
noncomputable def k27 (o : FO) : R o → Bool := fun r => match r with | some (.agg _, _) => true | _ => false
theorem k27_c (o : FO) (b : Bool) (x y : R o) : k27 o (bif b then x else y) = bif b then k27 o x else k27 o y := by cases b <;> rfl
noncomputable def m27_ok (o : FO) (p0 : List (AV o)) : Bool := k27 o (f27 o 4096 p0)
noncomputable def g27_0 (o : FO) : R o → List (AV o) := fun r => match r with | some (.agg r0, _) => r0 | _ => []
theorem g27_0c (o : FO) (b : Bool) (x y : R o) : g27_0 o (bif b then x else y) = bif b then g27_0 o x else g27_0 o y := by cases b <;> rfl
noncomputable def m27_0 (o : FO) (p0 : List (AV o)) : List (AV o) := g27_0 o (f27 o 4096 p0)
noncomputable def m27_h (o : FO) (p0 : List (AV o)) : Heap o := match f27 o 4096 p0 with | some (_, h) => h | _ => []
theorem val27 (o : FO) (p0 : List (AV o)) (h : m27_ok o p0 = true) : f27 o 4096 p0 = some (.agg (m27_0 o p0), m27_h o p0) := by
  unfold m27_ok k27 at h
  unfold m27_0 g27_0 m27_h
  generalize f27 o 4096 p0 = r at h ⊢
  split at h
  · rfl
  · cases h

noncomputable def e27 (o : FO) : List (AV o) → Tr (AV o)
  | [.agg p0] => .br (m27_ok o p0) (.leaf (.agg (m27_0 o p0))) .fail
  | _ => .fail
theorem ok27 (N : Nat) (hN : 4096 ≤ N) : CalOk Try.prog 27 (.pure (e27 ieee)) := by
  refine calOk_pure (cok27 4096 (by decide)) (is27 4096) ?_
  intro args av hg
  unfold e27 at hg
  split at hg
  · obtain ⟨h0, hg⟩ := br_get hg
    cases hg
    exact ⟨rfl, rfl, _, (eq27 ieee 4096 _).trans (val27 ieee _ h0)⟩
  · cases hg

/-! loop.example/g01224/spec.l01Finite -/
noncomputable def f88 (o : FO) (p0 : o.S) : R o :=
  some (.bool (o.seq (o.ssub p0 p0) (o.slit 0)), [])
noncomputable def c88 (o : FO) (N : Nat) : Cx o :=
  { ty := tab []
    fn := tab []
    rounds := 4096, nt := 7, base := 0
    loops := [] }
noncomputable def b88 : Code := match Try.f88.body with | some b => b | none => .skip
theorem is88 (N : Nat) : FnIs Try.prog (c88 ieee N) 88 Try.f88 b88 := ⟨by kernel_rfl, by kernel_rfl, by kernel_rfl, by kernel_rfl⟩
theorem eq88 (o : FO) (N : Nat) (p0 : o.S) : afun (c88 o N) Try.f88.results.toList b88 [.f32 p0] [] = f88 o p0 := by kernel_rfl
theorem cok88 (N : Nat) (hN : 4096 ≤ N) : CtxOk Try.prog (c88 ieee N) := by
  refine ctxOk ?_ ?_ mixed ?_
  · intro p hp; cases hp
  · intro p hp; cases hp
  · intro p hp; cases hp
noncomputable def m88_0 (o : FO) (p0 : o.S) : Bool :=
  o.seq (o.ssub p0 p0) (o.slit 0)
theorem val88 (o : FO) (p0 : o.S) : f88 o p0 = some (.bool (m88_0 o p0), []) := by
  unfold f88 m88_0
  rfl

noncomputable def e88 (o : FO) : List (AV o) → Tr (AV o)
  | [.f32 p0] => .leaf (.bool (m88_0 o p0))
  | _ => .fail
theorem ok88 (N : Nat) (hN : 4096 ≤ N) : CalOk Try.prog 88 (.pure (e88 ieee)) := by
  refine calOk_pure (cok88 4096 (by decide)) (is88 4096) ?_
  intro args av hg
  unfold e88 at hg
  split at hg
  · cases hg
    exact ⟨rfl, rfl, _, (eq88 ieee 4096 _).trans (val88 ieee _)⟩
  · cases hg

/-! math.Float32bits -/
noncomputable def e89 (o : FO) : List (AV o) → Tr (AV o) := eBitsS o
theorem ok89 (N : Nat) (_ : 4096 ≤ N) : CalOk Try.prog 89 (.pure (e89 ieee)) := calOk_bitsS (fn := Try.f89) (by kernel_rfl) (by kernel_rfl) (by kernel_rfl) (by kernel_rfl) (by kernel_rfl)

/-! loop.example/g01224/spec.l01Amount -/
noncomputable def f57 (o : FO) (p0 : o.S) : R o :=
  bif m88_0 o p0 then
    bif o.slt (o.slit 0) p0 then
      some (.bool true, [])
    else
      gd (o.seq p0 p0) (
      bif (o.sbits p0) == (0 : Int) then
        some (.bool true, [])
      else
        some (.bool false, []))
  else
    some (.bool false, [])
noncomputable def c57 (o : FO) (N : Nat) : Cx o :=
  { ty := tab []
    fn := tab [(88, .pure (e88 o)), (89, .pure (e89 o))]
    rounds := 4096, nt := 14, base := 0
    loops := [] }
noncomputable def b57 : Code := match Try.f57.body with | some b => b | none => .skip
theorem is57 (N : Nat) : FnIs Try.prog (c57 ieee N) 57 Try.f57 b57 := ⟨by kernel_rfl, by kernel_rfl, by kernel_rfl, by kernel_rfl⟩
theorem eq57 (o : FO) (N : Nat) (p0 : o.S) : afun (c57 o N) Try.f57.results.toList b57 [.f32 p0] [] = f57 o p0 := by kernel_rfl
theorem cok57 (N : Nat) (hN : 4096 ≤ N) : CtxOk Try.prog (c57 ieee N) := by
  refine ctxOk ?_ ?_ mixed ?_
  · intro p hp; cases hp
  · intro p hp
    simp only [List.mem_cons, List.not_mem_nil, or_false] at hp
    rcases hp with rfl | rfl
    · exact ok88 N hN
    · exact ok89 N hN
  · intro p hp; cases hp


theorem val57 (p0 : ieee.S) : f57 ieee p0 = some (.bool (amtS ieee p0), []) := by
  have e : f57 ieee p0 = (bif finS ieee p0 then (bif ieee.slt (ieee.slit 0) p0 then some (.bool true, []) else gd (ieee.seq p0 p0) (bif ieee.sbits p0 == 0 then some (.bool true, []) else some (.bool false, []))) else some (.bool false, [])) := rfl
  rw [e]
  unfold amtS
  have h := seq_of_fin p0
  revert h
  cases finS ieee p0
  · intro _; rfl
  · intro h
    rw [h rfl]
    cases ieee.slt (ieee.slit 0) p0
    · cases (ieee.sbits p0 == 0) <;> rfl
    · rfl

noncomputable def e57 (o : FO) : List (AV o) → Tr (AV o)
  | [.f32 p0] => .leaf (.bool (amtS o p0))
  | _ => .fail
theorem ok57 (N : Nat) (hN : 4096 ≤ N) : CalOk Try.prog 57 (.pure (e57 ieee)) := by
  refine calOk_pure (cok57 4096 (by decide)) (is57 4096) ?_
  intro args av hg
  unfold e57 at hg
  split at hg
  · cases hg
    exact ⟨rfl, rfl, _, (eq57 ieee 4096 _).trans (val57 _)⟩
  · cases hg

/-! loop.example/g01224/spec.l03Ok -/
noncomputable def f68_L1 (o : FO) (N : Nat) (s0 : (Int × List (AV o)) → R o) (s1 : Int × Int × List (AV o) → R o) (a : Int × Int × List (AV o)) : R o :=
  bif decide (a.2.1 < (20 : Int)) then
    gd (decide (0 ≤ a.1) && decide (a.1 < ((20 : Nat) : Int))) (
    gd (decide (0 ≤ a.2.1) && decide (a.2.1 < ((20 : Nat) : Int))) (
    rdS a.2.2 ((0 + (((a.1).toNat) * 20)) + (((a.2.1).toNat) * 1)) fun x1 =>
    bif amtS o x1 then
      gd (decide (0 ≤ a.1) && decide (a.1 < ((20 : Nat) : Int))) (
      gd (decide (0 ≤ a.2.1) && decide (a.2.1 < ((20 : Nat) : Int))) (
      rdS a.2.2 ((0 + (((a.1).toNat) * 20)) + (((a.2.1).toNat) * 1)) fun x2 =>
      gd (decide (0 ≤ a.2.1) && decide (a.2.1 < ((20 : Nat) : Int))) (
      gd (decide (0 ≤ a.1) && decide (a.1 < ((20 : Nat) : Int))) (
      rdS a.2.2 ((0 + (((a.2.1).toNat) * 20)) + (((a.1).toNat) * 1)) fun x3 =>
      bif !(o.seq x2 x3) then
        some (.bool false, [.live false true a.2.2])
      else
        s1 (a.1, IntKind.wrap .i64 (a.2.1 + (1 : Int)), a.2.2)))))
    else
      some (.bool false, [.live false true a.2.2])))
  else
    s0 (IntKind.wrap .i64 (a.1 + (1 : Int)), a.2.2)
noncomputable def f68_D1 (o : FO) (vs : List (AV o)) (h : Heap o) : Option (Int × Int × List (AV o)) :=
  match vs, h with
  | [.ptr 0 0, .int .i64 a1_0, .int .i64 a1_1], [.live false true a1_2] => some (a1_0, a1_1, a1_2)
  | _, _ => none
noncomputable def f68_E1 (o : FO) (a : Int × Int × List (AV o)) : List (AV o) × Heap o := ([.ptr 0 0, .int .i64 a.1, .int .i64 a.2.1], [.live false true a.2.2])
theorem f68_DE1 (o : FO) : ∀ vs h a, f68_D1 o vs h = some a → f68_E1 o a = (vs, h) := by
  intro vs h a hx
  unfold f68_D1 at hx
  split at hx
  · cases hx; rfl
  · cases hx
noncomputable def f68_L0 (o : FO) (N : Nat) (s0 : Int × List (AV o) → R o) (a : Int × List (AV o)) : R o :=
  bif decide (a.1 < (20 : Int)) then
    iter (f68_L1 o N s0) N (a.1, (0 : Int), a.2)
  else
    some (.bool true, [.live false true a.2])
noncomputable def f68_D0 (o : FO) (vs : List (AV o)) (h : Heap o) : Option (Int × List (AV o)) :=
  match vs, h with
  | [.ptr 0 0, .int .i64 a0_0], [.live false true a0_1] => some (a0_0, a0_1)
  | _, _ => none
noncomputable def f68_E0 (o : FO) (a : Int × List (AV o)) : List (AV o) × Heap o := ([.ptr 0 0, .int .i64 a.1], [.live false true a.2])
theorem f68_DE0 (o : FO) : ∀ vs h a, f68_D0 o vs h = some a → f68_E0 o a = (vs, h) := by
  intro vs h a hx
  unfold f68_D0 at hx
  split at hx
  · cases hx; rfl
  · cases hx
noncomputable def f68 (o : FO) (N : Nat) (p0 : List (AV o)) : R o :=
  iter (f68_L0 o N) N ((0 : Int), p0)
noncomputable def c68 (o : FO) (N : Nat) : Cx o :=
  { ty := tab [(33, ty33 o), (39, ty39 o), (41, ty41 o)]
    fn := tab [(57, .pure (e57 o))]
    rounds := N, nt := 39, base := 1
    loops := [loopD [0, 3] (f68_D0 o) (f68_E0 o), loopD [0, 3, 4] (f68_D1 o) (f68_E1 o)] }
noncomputable def b68 : Code := match Try.f68.body with | some b => b | none => .skip
theorem is68 (N : Nat) : FnIs Try.prog (c68 ieee N) 68 Try.f68 b68 := ⟨by kernel_rfl, by kernel_rfl, by kernel_rfl, by kernel_rfl⟩
theorem eq68 (o : FO) (N : Nat) (p0 : List (AV o)) : afun (c68 o N) Try.f68.results.toList b68 [.ptr 0 0] [.live false true p0] = f68 o N p0 := by kernel_rfl
theorem cok68 (N : Nat) (hN : 4096 ≤ N) : CtxOk Try.prog (c68 ieee N) := by
  refine ctxOk ?_ ?_ mixed ?_
  · intro p hp
    simp only [List.mem_cons, List.not_mem_nil, or_false] at hp
    rcases hp with rfl | rfl | rfl
    · exact tyOk33
    · exact tyOk39
    · exact tyOk41
  · intro p hp
    simp only [List.mem_cons, List.not_mem_nil, or_false] at hp
    subst hp; exact ok57 N hN
  · intro p hp
    simp only [List.mem_cons, List.not_mem_nil, or_false] at hp
    rcases hp with rfl | rfl
    · exact loopD_ok _ _ _ (f68_DE0 ieee)
    · exact loopD_ok _ _ _ (f68_DE1 ieee)
noncomputable def k68 (o : FO) : R o → Bool := fun r => match r with | some (.bool _, _) => true | _ => false
theorem k68_c (o : FO) (b : Bool) (x y : R o) : k68 o (bif b then x else y) = bif b then k68 o x else k68 o y := by cases b <;> rfl
noncomputable def m68_ok (o : FO) (p0 : List (AV o)) : Bool := k68 o (f68 o 4096 p0)
noncomputable def g68_0 (o : FO) : R o → Bool := fun r => match r with | some (.bool r0, _) => r0 | _ => false
theorem g68_0c (o : FO) (b : Bool) (x y : R o) : g68_0 o (bif b then x else y) = bif b then g68_0 o x else g68_0 o y := by cases b <;> rfl
noncomputable def m68_0 (o : FO) (p0 : List (AV o)) : Bool := g68_0 o (f68 o 4096 p0)
noncomputable def m68_h (o : FO) (p0 : List (AV o)) : Heap o := match f68 o 4096 p0 with | some (_, h) => h | _ => []
theorem val68 (o : FO) (p0 : List (AV o)) (h : m68_ok o p0 = true) : f68 o 4096 p0 = some (.bool (m68_0 o p0), m68_h o p0) := by
  unfold m68_ok k68 at h
  unfold m68_0 g68_0 m68_h
  generalize f68 o 4096 p0 = r at h ⊢
  split at h
  · rfl
  · cases h

noncomputable def e68 (o : FO) : List (AV o) → Heap o → Tr (AV o)
  | [.ptr 0 0], [.live _ true p0] => .br (m68_ok o p0) (.leaf (.bool (m68_0 o p0))) .fail
  | _, _ => .fail
theorem ok68 (N : Nat) (hN : 4096 ≤ N) : CalOk Try.prog 68 (.ro (e68 ieee)) := by
  refine calOk_ro (cok68 4096 (by decide)) (is68 4096) ?_
  intro args h av hg
  unfold e68 at hg
  split at hg
  · obtain ⟨h0, hg⟩ := br_get hg
    cases hg
    exact ⟨rfl, _, (eq68 ieee 4096 _).trans (val68 ieee _ h0)⟩
  · cases hg

/-! loop.example/g01224/spec.l03Told -/
noncomputable def f59_L1 (o : FO) (N : Nat) (s0 : (Int × List (AV o) × List (AV o)) → R o) (s1 : Int × Int × List (AV o) × List (AV o) → R o) (a : Int × Int × List (AV o) × List (AV o)) : R o :=
  bif decide (a.2.1 < (20 : Int)) then
    gd (decide (0 ≤ a.1) && decide (a.1 < ((20 : Nat) : Int))) (
    gd (decide (0 ≤ a.2.1) && decide (a.2.1 < ((20 : Nat) : Int))) (
    rdS a.2.2.1 ((0 + (((a.1).toNat) * 20)) + (((a.2.1).toNat) * 1)) fun x1 =>
    bif !(m88_0 o x1) then
      wrA a.2.2.2 0 400 (List.replicate 400 (.f32 (o.slit 0))) fun c2 =>
      rdA c2 0 400 fun c3 =>
      some (.tup [.agg c3, .int .i64 (4 : Int)], [])
    else
      s1 (a.1, IntKind.wrap .i64 (a.2.1 + (1 : Int)), a.2.2.1, a.2.2.2)))
  else
    s0 (IntKind.wrap .i64 (a.1 + (1 : Int)), a.2.2.1, a.2.2.2)
noncomputable def f59_D1 (o : FO) (vs : List (AV o)) (h : Heap o) : Option (Int × Int × List (AV o) × List (AV o)) :=
  match vs, h with
  | [.ptr 0 0, .ptr 1 0, .int .i64 a1_0, .int .i64 a1_1], [.live true true a1_2, .live true true a1_3] => some (a1_0, a1_1, a1_2, a1_3)
  | _, _ => none
noncomputable def f59_E1 (o : FO) (a : Int × Int × List (AV o) × List (AV o)) : List (AV o) × Heap o := ([.ptr 0 0, .ptr 1 0, .int .i64 a.1, .int .i64 a.2.1], [.live true true a.2.2.1, .live true true a.2.2.2])
theorem f59_DE1 (o : FO) : ∀ vs h a, f59_D1 o vs h = some a → f59_E1 o a = (vs, h) := by
  intro vs h a hx
  unfold f59_D1 at hx
  split at hx
  · cases hx; rfl
  · cases hx
noncomputable def f59_L0 (o : FO) (N : Nat) (s0 : Int × List (AV o) × List (AV o) → R o) (a : Int × List (AV o) × List (AV o)) : R o :=
  bif decide (a.1 < (20 : Int)) then
    iter (f59_L1 o N s0) N (a.1, (0 : Int), a.2.1, a.2.2)
  else
    rdA a.2.1 0 400 fun c4 =>
    wrA a.2.2 0 400 c4 fun c5 =>
    rdA c5 0 400 fun c6 =>
    some (.tup [.agg c6, .int .i64 (0 : Int)], [])
noncomputable def f59_D0 (o : FO) (vs : List (AV o)) (h : Heap o) : Option (Int × List (AV o) × List (AV o)) :=
  match vs, h with
  | [.ptr 0 0, .ptr 1 0, .int .i64 a0_0], [.live true true a0_1, .live true true a0_2] => some (a0_0, a0_1, a0_2)
  | _, _ => none
noncomputable def f59_E0 (o : FO) (a : Int × List (AV o) × List (AV o)) : List (AV o) × Heap o := ([.ptr 0 0, .ptr 1 0, .int .i64 a.1], [.live true true a.2.1, .live true true a.2.2])
theorem f59_DE0 (o : FO) : ∀ vs h a, f59_D0 o vs h = some a → f59_E0 o a = (vs, h) := by
  intro vs h a hx
  unfold f59_D0 at hx
  split at hx
  · cases hx; rfl
  · cases hx
noncomputable def f59 (o : FO) (N : Nat) (p0 : List (AV o)) : R o :=
  iter (f59_L0 o N) N ((0 : Int), p0, List.replicate 400 (.f32 (o.slit 0)))
noncomputable def c59 (o : FO) (N : Nat) : Cx o :=
  { ty := tab [(33, ty33 o), (39, ty39 o), (41, ty41 o)]
    fn := tab [(88, .pure (e88 o))]
    rounds := N, nt := 23, base := 0
    loops := [loopD [1, 2, 4] (f59_D0 o) (f59_E0 o), loopD [1, 2, 4, 5] (f59_D1 o) (f59_E1 o)] }
noncomputable def b59 : Code := match Try.f59.body with | some b => b | none => .skip
theorem is59 (N : Nat) : FnIs Try.prog (c59 ieee N) 59 Try.f59 b59 := ⟨by kernel_rfl, by kernel_rfl, by kernel_rfl, by kernel_rfl⟩
theorem eq59 (o : FO) (N : Nat) (p0 : List (AV o)) : afun (c59 o N) Try.f59.results.toList b59 [.agg p0] [] = f59 o N p0 := by kernel_rfl
theorem cok59 (N : Nat) (hN : 4096 ≤ N) : CtxOk Try.prog (c59 ieee N) := by
  refine ctxOk ?_ ?_ mixed ?_
  · intro p hp
    simp only [List.mem_cons, List.not_mem_nil, or_false] at hp
    rcases hp with rfl | rfl | rfl
    · exact tyOk33
    · exact tyOk39
    · exact tyOk41
  · intro p hp
    simp only [List.mem_cons, List.not_mem_nil, or_false] at hp
    subst hp; exact ok88 N hN
  · intro p hp
    simp only [List.mem_cons, List.not_mem_nil, or_false] at hp
    rcases hp with rfl | rfl
    · exact loopD_ok _ _ _ (f59_DE0 ieee)
    · exact loopD_ok _ _ _ (f59_DE1 ieee)
noncomputable def k59 (o : FO) : R o → Bool := fun r => match r with | some (.tup [.agg _, .int .i64 _], _) => true | _ => false
theorem k59_c (o : FO) (b : Bool) (x y : R o) : k59 o (bif b then x else y) = bif b then k59 o x else k59 o y := by cases b <;> rfl
noncomputable def m59_ok (o : FO) (p0 : List (AV o)) : Bool := k59 o (f59 o 4096 p0)
noncomputable def g59_0 (o : FO) : R o → List (AV o) := fun r => match r with | some (.tup [.agg r0, .int .i64 _], _) => r0 | _ => []
theorem g59_0c (o : FO) (b : Bool) (x y : R o) : g59_0 o (bif b then x else y) = bif b then g59_0 o x else g59_0 o y := by cases b <;> rfl
noncomputable def m59_0 (o : FO) (p0 : List (AV o)) : List (AV o) := g59_0 o (f59 o 4096 p0)
noncomputable def g59_1 (o : FO) : R o → Int := fun r => match r with | some (.tup [.agg _, .int .i64 r1], _) => r1 | _ => 0
theorem g59_1c (o : FO) (b : Bool) (x y : R o) : g59_1 o (bif b then x else y) = bif b then g59_1 o x else g59_1 o y := by cases b <;> rfl
noncomputable def m59_1 (o : FO) (p0 : List (AV o)) : Int := g59_1 o (f59 o 4096 p0)
noncomputable def m59_h (o : FO) (p0 : List (AV o)) : Heap o := match f59 o 4096 p0 with | some (_, h) => h | _ => []
theorem val59 (o : FO) (p0 : List (AV o)) (h : m59_ok o p0 = true) : f59 o 4096 p0 = some (.tup [.agg (m59_0 o p0), .int .i64 (m59_1 o p0)], m59_h o p0) := by
  unfold m59_ok k59 at h
  unfold m59_0 g59_0 m59_1 g59_1 m59_h
  generalize f59 o 4096 p0 = r at h ⊢
  split at h
  · rfl
  · cases h

noncomputable def e59 (o : FO) : List (AV o) → Tr (AV o)
  | [.agg p0] => .br (m59_ok o p0) (.leaf (.tup [.agg (m59_0 o p0), .int .i64 (m59_1 o p0)])) .fail
  | _ => .fail
theorem ok59 (N : Nat) (hN : 4096 ≤ N) : CalOk Try.prog 59 (.pure (e59 ieee)) := by
  refine calOk_pure (cok59 4096 (by decide)) (is59 4096) ?_
  intro args av hg
  unfold e59 at hg
  split at hg
  · obtain ⟨h0, hg⟩ := br_get hg
    cases hg
    exact ⟨rfl, rfl, _, (eq59 ieee 4096 _).trans (val59 ieee _ h0)⟩
  · cases hg

/-! loop.example/g01224/spec.ScaleKernel -/
noncomputable def f29_L1 (o : FO) (N : Nat) (s0 : (o.S × Int × List (AV o) × List (AV o)) → R o) (s1 : o.S × Int × Int × List (AV o) × List (AV o) → R o) (a : o.S × Int × Int × List (AV o) × List (AV o)) : R o :=
  bif decide (a.2.2.1 < (20 : Int)) then
    gd (decide (0 ≤ a.2.1) && decide (a.2.1 < ((20 : Nat) : Int))) (
    gd (decide (0 ≤ a.2.2.1) && decide (a.2.2.1 < ((20 : Nat) : Int))) (
    rdS a.2.2.2.1 ((0 + (((a.2.1).toNat) * 20)) + (((a.2.2.1).toNat) * 1)) fun x5 =>
    gd (decide (0 ≤ a.2.1) && decide (a.2.1 < ((20 : Nat) : Int))) (
    gd (decide (0 ≤ a.2.2.1) && decide (a.2.2.1 < ((20 : Nat) : Int))) (
    wr1 a.2.2.2.1 ((0 + (((a.2.1).toNat) * 20)) + (((a.2.2.1).toNat) * 1)) (.f32 (o.smul x5 a.1)) fun c6 =>
    s1 (a.1, a.2.1, IntKind.wrap .i64 (a.2.2.1 + (1 : Int)), c6, a.2.2.2.2)))))
  else
    s0 (a.1, IntKind.wrap .i64 (a.2.1 + (1 : Int)), a.2.2.2.1, a.2.2.2.2)
noncomputable def f29_D1 (o : FO) (vs : List (AV o)) (h : Heap o) : Option (o.S × Int × Int × List (AV o) × List (AV o)) :=
  match vs, h with
  | [.f32 a1_0, .ptr 0 0, .ptr 1 0, .int .i64 a1_1, .int .i64 a1_2], [.live true true a1_3, .live true true a1_4] => some (a1_0, a1_1, a1_2, a1_3, a1_4)
  | _, _ => none
noncomputable def f29_E1 (o : FO) (a : o.S × Int × Int × List (AV o) × List (AV o)) : List (AV o) × Heap o := ([.f32 a.1, .ptr 0 0, .ptr 1 0, .int .i64 a.2.1, .int .i64 a.2.2.1], [.live true true a.2.2.2.1, .live true true a.2.2.2.2])
theorem f29_DE1 (o : FO) : ∀ vs h a, f29_D1 o vs h = some a → f29_E1 o a = (vs, h) := by
  intro vs h a hx
  unfold f29_D1 at hx
  split at hx
  · cases hx; rfl
  · cases hx
noncomputable def f29_L0 (o : FO) (N : Nat) (s0 : o.S × Int × List (AV o) × List (AV o) → R o) (a : o.S × Int × List (AV o) × List (AV o)) : R o :=
  bif decide (a.2.1 < (20 : Int)) then
    iter (f29_L1 o N s0) N (a.1, a.2.1, (0 : Int), a.2.2.1, a.2.2.2)
  else
    rdA a.2.2.1 0 400 fun c7 =>
    gd (m59_ok o c7) (
    wrA a.2.2.2 0 400 (m59_0 o c7) fun c8 =>
    rdA c8 0 400 fun c9 =>
    some (.tup [.agg c9, .int .i64 (m59_1 o c7)], []))
noncomputable def f29_D0 (o : FO) (vs : List (AV o)) (h : Heap o) : Option (o.S × Int × List (AV o) × List (AV o)) :=
  match vs, h with
  | [.f32 a0_0, .ptr 0 0, .ptr 1 0, .int .i64 a0_1], [.live true true a0_2, .live true true a0_3] => some (a0_0, a0_1, a0_2, a0_3)
  | _, _ => none
noncomputable def f29_E0 (o : FO) (a : o.S × Int × List (AV o) × List (AV o)) : List (AV o) × Heap o := ([.f32 a.1, .ptr 0 0, .ptr 1 0, .int .i64 a.2.1], [.live true true a.2.2.1, .live true true a.2.2.2])
theorem f29_DE0 (o : FO) : ∀ vs h a, f29_D0 o vs h = some a → f29_E0 o a = (vs, h) := by
  intro vs h a hx
  unfold f29_D0 at hx
  split at hx
  · cases hx; rfl
  · cases hx
noncomputable def f29 (o : FO) (N : Nat) (p0 : List (AV o)) (p1 : o.S) : R o :=
  gd (m68_ok o p0) (
  bif !(m68_0 o p0) then
    wrA (List.replicate 400 (.f32 (o.slit 0))) 0 400 (List.replicate 400 (.f32 (o.slit 0))) fun c1 =>
    rdA c1 0 400 fun c2 =>
    some (.tup [.agg c2, .int .i64 (1 : Int)], [])
  else
    bif !(amtS o p1) then
      wrA (List.replicate 400 (.f32 (o.slit 0))) 0 400 (List.replicate 400 (.f32 (o.slit 0))) fun c3 =>
      rdA c3 0 400 fun c4 =>
      some (.tup [.agg c4, .int .i64 (2 : Int)], [])
    else
      iter (f29_L0 o N) N (p1, (0 : Int), p0, List.replicate 400 (.f32 (o.slit 0))))
noncomputable def c29 (o : FO) (N : Nat) : Cx o :=
  { ty := tab [(33, ty33 o), (39, ty39 o), (41, ty41 o)]
    fn := tab [(57, .pure (e57 o)), (59, .pure (e59 o)), (68, .ro (e68 o))]
    rounds := N, nt := 38, base := 0
    loops := [loopD [1, 2, 4, 6] (f29_D0 o) (f29_E0 o), loopD [1, 2, 4, 6, 7] (f29_D1 o) (f29_E1 o)] }
noncomputable def b29 : Code := match Try.f29.body with | some b => b | none => .skip
theorem is29 (N : Nat) : FnIs Try.prog (c29 ieee N) 29 Try.f29 b29 := ⟨by kernel_rfl, by kernel_rfl, by kernel_rfl, by kernel_rfl⟩
theorem eq29 (o : FO) (N : Nat) (p0 : List (AV o)) (p1 : o.S) : afun (c29 o N) Try.f29.results.toList b29 [.agg p0, .f32 p1] [] = f29 o N p0 p1 := by kernel_rfl
theorem cok29 (N : Nat) (hN : 4096 ≤ N) : CtxOk Try.prog (c29 ieee N) := by
  refine ctxOk ?_ ?_ mixed ?_
  · intro p hp
    simp only [List.mem_cons, List.not_mem_nil, or_false] at hp
    rcases hp with rfl | rfl | rfl
    · exact tyOk33
    · exact tyOk39
    · exact tyOk41
  · intro p hp
    simp only [List.mem_cons, List.not_mem_nil, or_false] at hp
    rcases hp with rfl | rfl | rfl
    · exact ok57 N hN
    · exact ok59 N hN
    · exact ok68 N hN
  · intro p hp
    simp only [List.mem_cons, List.not_mem_nil, or_false] at hp
    rcases hp with rfl | rfl
    · exact loopD_ok _ _ _ (f29_DE0 ieee)
    · exact loopD_ok _ _ _ (f29_DE1 ieee)
noncomputable def k29 (o : FO) : R o → Bool := fun r => match r with | some (.tup [.agg _, .int .i64 _], _) => true | _ => false
theorem k29_c (o : FO) (b : Bool) (x y : R o) : k29 o (bif b then x else y) = bif b then k29 o x else k29 o y := by cases b <;> rfl
noncomputable def m29_ok (o : FO) (p0 : List (AV o)) (p1 : o.S) : Bool := k29 o (f29 o 4096 p0 p1)
noncomputable def g29_0 (o : FO) : R o → List (AV o) := fun r => match r with | some (.tup [.agg r0, .int .i64 _], _) => r0 | _ => []
theorem g29_0c (o : FO) (b : Bool) (x y : R o) : g29_0 o (bif b then x else y) = bif b then g29_0 o x else g29_0 o y := by cases b <;> rfl
noncomputable def m29_0 (o : FO) (p0 : List (AV o)) (p1 : o.S) : List (AV o) := g29_0 o (f29 o 4096 p0 p1)
noncomputable def g29_1 (o : FO) : R o → Int := fun r => match r with | some (.tup [.agg _, .int .i64 r1], _) => r1 | _ => 0
theorem g29_1c (o : FO) (b : Bool) (x y : R o) : g29_1 o (bif b then x else y) = bif b then g29_1 o x else g29_1 o y := by cases b <;> rfl
noncomputable def m29_1 (o : FO) (p0 : List (AV o)) (p1 : o.S) : Int := g29_1 o (f29 o 4096 p0 p1)
noncomputable def m29_h (o : FO) (p0 : List (AV o)) (p1 : o.S) : Heap o := match f29 o 4096 p0 p1 with | some (_, h) => h | _ => []
theorem val29 (o : FO) (p0 : List (AV o)) (p1 : o.S) (h : m29_ok o p0 p1 = true) : f29 o 4096 p0 p1 = some (.tup [.agg (m29_0 o p0 p1), .int .i64 (m29_1 o p0 p1)], m29_h o p0 p1) := by
  unfold m29_ok k29 at h
  unfold m29_0 g29_0 m29_1 g29_1 m29_h
  generalize f29 o 4096 p0 p1 = r at h ⊢
  split at h
  · rfl
  · cases h

noncomputable def e29 (o : FO) : List (AV o) → Tr (AV o)
  | [.agg p0, .f32 p1] => .br (m29_ok o p0 p1) (.leaf (.tup [.agg (m29_0 o p0 p1), .int .i64 (m29_1 o p0 p1)])) .fail
  | _ => .fail
theorem ok29 (N : Nat) (hN : 4096 ≤ N) : CalOk Try.prog 29 (.pure (e29 ieee)) := by
  refine calOk_pure (cok29 4096 (by decide)) (is29 4096) ?_
  intro args av hg
  unfold e29 at hg
  split at hg
  · obtain ⟨h0, hg⟩ := br_get hg
    cases hg
    exact ⟨rfl, rfl, _, (eq29 ieee 4096 _ _).trans (val29 ieee _ _ h0)⟩
  · cases hg

/-! loop.example/g01224/impl.isFinite -/
noncomputable def f94_L0 (o : FO) (N : Nat) (s0 : Nat × Nat × Int × Int × List (AV o) → R o) (a : Nat × Nat × Int × Int × List (AV o)) : R o :=
  bif decide (a.2.2.2.1 < a.2.2.1) then
    gd (decide (0 ≤ a.2.2.2.1) && decide (a.2.2.2.1 < ((a.2.1 : Nat) : Int))) (
    rdS a.2.2.2.2 (a.1 + (((a.2.2.2.1).toNat) * 1)) fun x1 =>
    bif !(o.seq (o.ssub x1 x1) (o.slit 0)) then
      some (.bool false, [.live false true a.2.2.2.2])
    else
      s0 (a.1, a.2.1, a.2.2.1, IntKind.wrap .i64 (a.2.2.2.1 + (1 : Int)), a.2.2.2.2))
  else
    some (.bool true, [.live false true a.2.2.2.2])
noncomputable def f94_D0 (o : FO) (vs : List (AV o)) (h : Heap o) : Option (Nat × Nat × Int × Int × List (AV o)) :=
  match vs, h with
  | [.slice 0 a0_0 a0_1 1, .int .i64 a0_2, .int .i64 a0_3], [.live false true a0_4] => some (a0_0, a0_1, a0_2, a0_3, a0_4)
  | _, _ => none
noncomputable def f94_E0 (o : FO) (a : Nat × Nat × Int × Int × List (AV o)) : List (AV o) × Heap o := ([.slice 0 a.1 a.2.1 1, .int .i64 a.2.2.1, .int .i64 a.2.2.2.1], [.live false true a.2.2.2.2])
theorem f94_DE0 (o : FO) : ∀ vs h a, f94_D0 o vs h = some a → f94_E0 o a = (vs, h) := by
  intro vs h a hx
  unfold f94_D0 at hx
  split at hx
  · cases hx; rfl
  · cases hx
noncomputable def f94 (o : FO) (N : Nat) (p0 : Nat) (p1 : Nat) (p2 : List (AV o)) : R o :=
  iter (f94_L0 o N) N (p0, p1, ((p1 : Nat) : Int), (0 : Int), p2)
noncomputable def c94 (o : FO) (N : Nat) : Cx o :=
  { ty := tab [(33, ty33 o), (112, ty112 o)]
    fn := tab []
    rounds := N, nt := 16, base := 1
    loops := [loopD [5, 6, 7] (f94_D0 o) (f94_E0 o)] }
noncomputable def b94 : Code := match Try.f94.body with | some b => b | none => .skip
theorem is94 (N : Nat) : FnIs Try.prog (c94 ieee N) 94 Try.f94 b94 := ⟨by kernel_rfl, by kernel_rfl, by kernel_rfl, by kernel_rfl⟩
theorem eq94 (o : FO) (N : Nat) (p0 : Nat) (p1 : Nat) (p2 : List (AV o)) : afun (c94 o N) Try.f94.results.toList b94 [.slice 0 p0 p1 1] [.live false true p2] = f94 o N p0 p1 p2 := by kernel_rfl
theorem cok94 (N : Nat) (hN : 4096 ≤ N) : CtxOk Try.prog (c94 ieee N) := by
  refine ctxOk ?_ ?_ mixed ?_
  · intro p hp
    simp only [List.mem_cons, List.not_mem_nil, or_false] at hp
    rcases hp with rfl | rfl
    · exact tyOk33
    · exact tyOk112
  · intro p hp; cases hp
  · intro p hp
    simp only [List.mem_cons, List.not_mem_nil, or_false] at hp
    subst hp; exact loopD_ok _ _ _ (f94_DE0 ieee)


theorem step94 (o : FO) (off n i : Nat) (cs : List (AV o)) (h : segF cs off n = true) (hi : i ≤ n) (s0 : Nat × Nat × Int × Int × List (AV o) → R o) :
    (∃ x, ((cs.drop off).take n)[i]? = some (.f32 x) ∧ f94_L0 o 4096 s0 (off, n, ((n : Nat) : Int), (i : Int), cs) = bif finS o x then s0 (off, n, ((n : Nat) : Int), ((i + 1 : Nat) : Int), cs) else some (.bool false, [.live false true cs])) ∨
    (i = n ∧ f94_L0 o 4096 s0 (off, n, ((n : Nat) : Int), (i : Int), cs) = some (.bool true, [.live false true cs])) := by
  have hn : n ≤ 4000 := by
    unfold segF at h
    simp only [Bool.and_eq_true] at h
    exact Nat.le_of_ble_eq_true h.1
  unfold f94_L0
  dsimp only
  by_cases hlt : i < n
  · obtain ⟨x, hx1, hx2⟩ := segF_get h hlt
    refine .inl ⟨x, hx2, ?_⟩
    have e1 : decide ((i : Int) < (n : Int)) = true := by simp [hlt]
    have e2 : decide (0 ≤ (i : Int)) = true := by simp
    rw [e1, e2, cond_true, Bool.and_true, gd_true, rdS_of (x := x) (by simpa using hx1), wrap64 (by omega) (by omega)]
    show _ = bif o.seq (o.ssub x x) (o.slit 0) then _ else _
    cases o.seq (o.ssub x x) (o.slit 0) <;> rfl
  · have e1 : decide ((i : Int) < (n : Int)) = false := by simp [hlt]
    refine .inr ⟨by omega, ?_⟩
    rw [e1, cond_false]
theorem loop94 (o : FO) (off n : Nat) (cs : List (AV o)) (h : segF cs off n = true) : ∀ (M i : Nat), i ≤ n → n - i < M →
    iter (f94_L0 o 4096) M (off, n, ((n : Nat) : Int), (i : Int), cs) = some (.bool ((((cs.drop off).take n).drop i).all finC), [.live false true cs]) := by
  intro M
  induction M with
  | zero => intro i _ h2; omega
  | succ M ih =>
    intro i h1 h2
    rw [iter_succ]
    rcases step94 o off n i cs h h1 (iter (f94_L0 o 4096) M) with ⟨x, hx, e⟩ | ⟨hi, e⟩
    · obtain ⟨hlt, he⟩ := List.getElem?_eq_some_iff.1 hx
      have hin : i < n := by have := hlt; simp only [List.length_take] at this; omega
      rw [e, ih (i + 1) (by omega) (by omega), List.drop_eq_getElem_cons hlt, he, List.all_cons]
      show _ = some ((AV.bool (finS o x && _) : AV o), _)
      cases finS o x <;> rfl
    · subst hi
      have hnil : ((cs.drop off).take i).drop i = [] := List.drop_eq_nil_of_le (by simp; omega)
      rw [e, hnil]
      rfl
theorem val94 (o : FO) (p0 p1 : Nat) (p2 : List (AV o)) (h : segF p2 p0 p1 = true) : f94 o 4096 p0 p1 p2 = some (.bool (finSeg p2 p0 p1), [.live false true p2]) := by
  have hn : p1 ≤ 4000 := by
    unfold segF at h
    simp only [Bool.and_eq_true] at h
    exact Nat.le_of_ble_eq_true h.1
  have := loop94 o p0 p1 p2 h 4096 0 (by omega) (by omega)
  rw [List.drop_zero] at this
  exact this

noncomputable def e94 (o : FO) : List (AV o) → Heap o → Tr (AV o)
  | [.slice 0 p0 p1 1], [.live _ true p2] => .br (segF p2 p0 p1) (.leaf (.bool (finSeg p2 p0 p1))) .fail
  | _, _ => .fail
theorem ok94 (N : Nat) (hN : 4096 ≤ N) : CalOk Try.prog 94 (.ro (e94 ieee)) := by
  refine calOk_ro (cok94 4096 (by decide)) (is94 4096) ?_
  intro args h av hg
  unfold e94 at hg
  split at hg
  · obtain ⟨h0, hg⟩ := br_get hg
    cases hg
    exact ⟨rfl, _, (eq94 ieee 4096 _ _ _).trans (val94 ieee _ _ _ h0)⟩
  · cases hg

/-! loop.example/g01224/impl.isAmount -/
noncomputable def f72 (o : FO) (p0 : o.S) : R o :=
  gd (segF [.f32 p0] 0 1) (
  bif finSeg [.f32 p0] 0 1 then
    bif o.sle (o.slit 0) p0 then
      gd (o.seq p0 p0) (
      bif (o.sbits p0) != (2147483648 : Int) then
        some (.bool true, [])
      else
        some (.bool false, []))
    else
      some (.bool false, [])
  else
    some (.bool false, []))
noncomputable def c72 (o : FO) (N : Nat) : Cx o :=
  { ty := tab [(33, ty33 o), (112, ty112 o)]
    fn := tab [(89, .pure (e89 o)), (94, .ro (e94 o))]
    rounds := 4096, nt := 15, base := 0
    loops := [] }
noncomputable def b72 : Code := match Try.f72.body with | some b => b | none => .skip
theorem is72 (N : Nat) : FnIs Try.prog (c72 ieee N) 72 Try.f72 b72 := ⟨by kernel_rfl, by kernel_rfl, by kernel_rfl, by kernel_rfl⟩
theorem eq72 (o : FO) (N : Nat) (p0 : o.S) : afun (c72 o N) Try.f72.results.toList b72 [.f32 p0] [] = f72 o p0 := by kernel_rfl
theorem cok72 (N : Nat) (hN : 4096 ≤ N) : CtxOk Try.prog (c72 ieee N) := by
  refine ctxOk ?_ ?_ mixed ?_
  · intro p hp
    simp only [List.mem_cons, List.not_mem_nil, or_false] at hp
    rcases hp with rfl | rfl
    · exact tyOk33
    · exact tyOk112
  · intro p hp
    simp only [List.mem_cons, List.not_mem_nil, or_false] at hp
    rcases hp with rfl | rfl
    · exact ok89 N hN
    · exact ok94 N hN
  · intro p hp; cases hp


theorem val72 (p0 : ieee.S) : f72 ieee p0 = some (.bool (amtS ieee p0), []) := by
  have e : f72 ieee p0 = (bif (finS ieee p0 && true) then (bif ieee.sle (ieee.slit 0) p0 then gd (ieee.seq p0 p0) (bif ieee.sbits p0 != 2147483648 then some (.bool true, []) else some (.bool false, [])) else some (.bool false, [])) else some (.bool false, [])) := rfl
  rw [e, Bool.and_true, amtS_alt]
  have h := seq_of_fin p0
  revert h
  cases finS ieee p0
  · intro _; rfl
  · intro h
    rw [h rfl]
    cases ieee.sle (ieee.slit 0) p0
    · rfl
    · cases (ieee.sbits p0 != 2147483648) <;> rfl

noncomputable def e72 (o : FO) : List (AV o) → Tr (AV o)
  | [.f32 p0] => .leaf (.bool (amtS o p0))
  | _ => .fail
theorem ok72 (N : Nat) (hN : 4096 ≤ N) : CalOk Try.prog 72 (.pure (e72 ieee)) := by
  refine calOk_pure (cok72 4096 (by decide)) (is72 4096) ?_
  intro args av hg
  unfold e72 at hg
  split at hg
  · cases hg
    exact ⟨rfl, rfl, _, (eq72 ieee 4096 _).trans (val72 _)⟩
  · cases hg

/-! loop.example/g01224/impl.SameNumber -/
noncomputable def f93 (o : FO) (p0 : o.S) (p1 : o.S) : R o :=
  let v1 : Bool := !(o.seq p0 p0)
  bif v1 then
    bif v1 then
      bif !(o.seq p1 p1) then
        some (.bool true, [])
      else
        some (.bool false, [])
    else
      some (.bool false, [])
  else
    let v2 : Bool := !(o.seq p1 p1)
    bif v2 then
      bif v1 then
        bif v2 then
          some (.bool true, [])
        else
          some (.bool false, [])
      else
        some (.bool false, [])
    else
      gd (o.seq p0 p0) (
      gd (o.seq p1 p1) (
      some (.bool ((o.sbits p0) == (o.sbits p1)), [])))
noncomputable def c93 (o : FO) (N : Nat) : Cx o :=
  { ty := tab []
    fn := tab [(89, .pure (e89 o))]
    rounds := 4096, nt := 26, base := 0
    loops := [] }
noncomputable def b93 : Code := match Try.f93.body with | some b => b | none => .skip
theorem is93 (N : Nat) : FnIs Try.prog (c93 ieee N) 93 Try.f93 b93 := ⟨by kernel_rfl, by kernel_rfl, by kernel_rfl, by kernel_rfl⟩
theorem eq93 (o : FO) (N : Nat) (p0 : o.S) (p1 : o.S) : afun (c93 o N) Try.f93.results.toList b93 [.f32 p0, .f32 p1] [] = f93 o p0 p1 := by kernel_rfl
theorem cok93 (N : Nat) (hN : 4096 ≤ N) : CtxOk Try.prog (c93 ieee N) := by
  refine ctxOk ?_ ?_ mixed ?_
  · intro p hp; cases hp
  · intro p hp
    simp only [List.mem_cons, List.not_mem_nil, or_false] at hp
    subst hp; exact ok89 N hN
  · intro p hp; cases hp
noncomputable def m93_0 (o : FO) (p0 : o.S) (p1 : o.S) : Bool :=
  bif o.seq p0 p0 then
    bif o.seq p1 p1 then
      (o.sbits p0) == (o.sbits p1)
    else
      false
  else
    bif o.seq p1 p1 then
      false
    else
      true
theorem val93 (o : FO) (p0 : o.S) (p1 : o.S) : f93 o p0 p1 = some (.bool (m93_0 o p0 p1), []) := by
  unfold f93 m93_0
  try dsimp only
  cases (o.seq p0 p0)
  · cases (o.seq p1 p1)
    · rfl
    · rfl
  · cases (o.seq p1 p1)
    · rfl
    · rfl

noncomputable def e93 (o : FO) : List (AV o) → Tr (AV o)
  | [.f32 p0, .f32 p1] => .leaf (.bool (m93_0 o p0 p1))
  | _ => .fail
theorem ok93 (N : Nat) (hN : 4096 ≤ N) : CalOk Try.prog 93 (.pure (e93 ieee)) := by
  refine calOk_pure (cok93 4096 (by decide)) (is93 4096) ?_
  intro args av hg
  unfold e93 at hg
  split at hg
  · cases hg
    exact ⟨rfl, rfl, _, (eq93 ieee 4096 _ _).trans (val93 ieee _ _)⟩
  · cases hg

/-! loop.example/g01224/impl.ValidKernel -/
noncomputable def f70_L1 (o : FO) (N : Nat) (s0 : (Int × List (AV o)) → R o) (s1 : Int × Int × Int × List (AV o) → R o) (a : Int × Int × Int × List (AV o)) : R o :=
  bif decide (a.2.2.1 < (20 : Int)) then
    gd (decide (0 ≤ a.1) && decide (a.1 < ((20 : Nat) : Int))) (
    gd (decide (0 ≤ a.2.2.1) && decide (a.2.2.1 < ((20 : Nat) : Int))) (
    rdS a.2.2.2 ((0 + (((a.1).toNat) * 20)) + (((a.2.2.1).toNat) * 1)) fun x1 =>
    bif amtS o x1 then
      gd (decide (0 ≤ a.1) && decide (a.1 < ((20 : Nat) : Int))) (
      gd (decide (0 ≤ a.2.2.1) && decide (a.2.2.1 < ((20 : Nat) : Int))) (
      rdS a.2.2.2 ((0 + (((a.1).toNat) * 20)) + (((a.2.2.1).toNat) * 1)) fun x2 =>
      gd (decide (0 ≤ a.2.2.1) && decide (a.2.2.1 < ((20 : Nat) : Int))) (
      gd (decide (0 ≤ a.1) && decide (a.1 < ((20 : Nat) : Int))) (
      rdS a.2.2.2 ((0 + (((a.2.2.1).toNat) * 20)) + (((a.1).toNat) * 1)) fun x3 =>
      bif m93_0 o x2 x3 then
        s1 (a.1, a.2.1, IntKind.wrap .i64 (a.2.2.1 + (1 : Int)), a.2.2.2)
      else
        some (.bool false, [])))))
    else
      some (.bool false, [])))
  else
    s0 (IntKind.wrap .i64 (a.2.1 + (1 : Int)), a.2.2.2)
noncomputable def f70_D1 (o : FO) (vs : List (AV o)) (h : Heap o) : Option (Int × Int × Int × List (AV o)) :=
  match vs, h with
  | [.ptr 0 0, .int .i64 a1_0, .int .i64 a1_1, .int .i64 a1_2], [.live true true a1_3] => some (a1_0, a1_1, a1_2, a1_3)
  | _, _ => none
noncomputable def f70_E1 (o : FO) (a : Int × Int × Int × List (AV o)) : List (AV o) × Heap o := ([.ptr 0 0, .int .i64 a.1, .int .i64 a.2.1, .int .i64 a.2.2.1], [.live true true a.2.2.2])
theorem f70_DE1 (o : FO) : ∀ vs h a, f70_D1 o vs h = some a → f70_E1 o a = (vs, h) := by
  intro vs h a hx
  unfold f70_D1 at hx
  split at hx
  · cases hx; rfl
  · cases hx
noncomputable def f70_L0 (o : FO) (N : Nat) (s0 : Int × List (AV o) → R o) (a : Int × List (AV o)) : R o :=
  bif decide (a.1 < (20 : Int)) then
    iter (f70_L1 o N s0) N (a.1, a.1, (0 : Int), a.2)
  else
    some (.bool true, [])
noncomputable def f70_D0 (o : FO) (vs : List (AV o)) (h : Heap o) : Option (Int × List (AV o)) :=
  match vs, h with
  | [.ptr 0 0, .int .i64 a0_0], [.live true true a0_1] => some (a0_0, a0_1)
  | _, _ => none
noncomputable def f70_E0 (o : FO) (a : Int × List (AV o)) : List (AV o) × Heap o := ([.ptr 0 0, .int .i64 a.1], [.live true true a.2])
theorem f70_DE0 (o : FO) : ∀ vs h a, f70_D0 o vs h = some a → f70_E0 o a = (vs, h) := by
  intro vs h a hx
  unfold f70_D0 at hx
  split at hx
  · cases hx; rfl
  · cases hx
noncomputable def f70 (o : FO) (N : Nat) (p0 : List (AV o)) : R o :=
  iter (f70_L0 o N) N ((0 : Int), p0)
noncomputable def c70 (o : FO) (N : Nat) : Cx o :=
  { ty := tab [(33, ty33 o), (39, ty39 o), (41, ty41 o)]
    fn := tab [(72, .pure (e72 o)), (93, .pure (e93 o))]
    rounds := N, nt := 34, base := 0
    loops := [loopD [1, 5] (f70_D0 o) (f70_E0 o), loopD [1, 3, 5, 8] (f70_D1 o) (f70_E1 o)] }
noncomputable def b70 : Code := match Try.f70.body with | some b => b | none => .skip
theorem is70 (N : Nat) : FnIs Try.prog (c70 ieee N) 70 Try.f70 b70 := ⟨by kernel_rfl, by kernel_rfl, by kernel_rfl, by kernel_rfl⟩
theorem eq70 (o : FO) (N : Nat) (p0 : List (AV o)) : afun (c70 o N) Try.f70.results.toList b70 [.agg p0] [] = f70 o N p0 := by kernel_rfl
theorem cok70 (N : Nat) (hN : 4096 ≤ N) : CtxOk Try.prog (c70 ieee N) := by
  refine ctxOk ?_ ?_ mixed ?_
  · intro p hp
    simp only [List.mem_cons, List.not_mem_nil, or_false] at hp
    rcases hp with rfl | rfl | rfl
    · exact tyOk33
    · exact tyOk39
    · exact tyOk41
  · intro p hp
    simp only [List.mem_cons, List.not_mem_nil, or_false] at hp
    rcases hp with rfl | rfl
    · exact ok72 N hN
    · exact ok93 N hN
  · intro p hp
    simp only [List.mem_cons, List.not_mem_nil, or_false] at hp
    rcases hp with rfl | rfl
    · exact loopD_ok _ _ _ (f70_DE0 ieee)
    · exact loopD_ok _ _ _ (f70_DE1 ieee)
noncomputable def k70 (o : FO) : R o → Bool := fun r => match r with | some (.bool _, _) => true | _ => false
theorem k70_c (o : FO) (b : Bool) (x y : R o) : k70 o (bif b then x else y) = bif b then k70 o x else k70 o y := by cases b <;> rfl
noncomputable def m70_ok (o : FO) (p0 : List (AV o)) : Bool := k70 o (f70 o 4096 p0)
noncomputable def g70_0 (o : FO) : R o → Bool := fun r => match r with | some (.bool r0, _) => r0 | _ => false
theorem g70_0c (o : FO) (b : Bool) (x y : R o) : g70_0 o (bif b then x else y) = bif b then g70_0 o x else g70_0 o y := by cases b <;> rfl
noncomputable def m70_0 (o : FO) (p0 : List (AV o)) : Bool := g70_0 o (f70 o 4096 p0)
noncomputable def m70_h (o : FO) (p0 : List (AV o)) : Heap o := match f70 o 4096 p0 with | some (_, h) => h | _ => []
theorem val70 (o : FO) (p0 : List (AV o)) (h : m70_ok o p0 = true) : f70 o 4096 p0 = some (.bool (m70_0 o p0), m70_h o p0) := by
  unfold m70_ok k70 at h
  unfold m70_0 g70_0 m70_h
  generalize f70 o 4096 p0 = r at h ⊢
  split at h
  · rfl
  · cases h

noncomputable def e70 (o : FO) : List (AV o) → Tr (AV o)
  | [.agg p0] => .br (m70_ok o p0) (.leaf (.bool (m70_0 o p0))) .fail
  | _ => .fail
theorem ok70 (N : Nat) (hN : 4096 ≤ N) : CalOk Try.prog 70 (.pure (e70 ieee)) := by
  refine calOk_pure (cok70 4096 (by decide)) (is70 4096) ?_
  intro args av hg
  unfold e70 at hg
  split at hg
  · obtain ⟨h0, hg⟩ := br_get hg
    cases hg
    exact ⟨rfl, rfl, _, (eq70 ieee 4096 _).trans (val70 ieee _ h0)⟩
  · cases hg

/-! loop.example/g01224/impl.checkedKernel -/
noncomputable def f71_L0 (o : FO) (N : Nat) (s0 : Int × List (AV o) × List (AV o) → R o) (a : Int × List (AV o) × List (AV o)) : R o :=
  bif decide (a.1 < (20 : Int)) then
    gd (decide (0 ≤ a.1) && decide (a.1 < ((20 : Nat) : Int))) (
    gd ((Nat.ble ((0 + (((a.1).toNat) * 20)) + 20) ((a.2.1).length)) && true) (
    gd (segF a.2.1 ((0 + (((a.1).toNat) * 20)) + 0) 20) (
    bif !(finSeg a.2.1 ((0 + (((a.1).toNat) * 20)) + 0) 20) then
      wrA a.2.2 0 400 (List.replicate 400 (.f32 (o.slit 0))) fun c1 =>
      rdA c1 0 400 fun c2 =>
      some (.tup [.agg c2, .int .i64 (4 : Int)], [])
    else
      s0 (IntKind.wrap .i64 (a.1 + (1 : Int)), a.2.1, a.2.2))))
  else
    rdA a.2.1 0 400 fun c3 =>
    wrA a.2.2 0 400 c3 fun c4 =>
    rdA c4 0 400 fun c5 =>
    some (.tup [.agg c5, .int .i64 (0 : Int)], [])
noncomputable def f71_D0 (o : FO) (vs : List (AV o)) (h : Heap o) : Option (Int × List (AV o) × List (AV o)) :=
  match vs, h with
  | [.ptr 0 0, .ptr 1 0, .int .i64 a0_0], [.live true true a0_1, .live true true a0_2] => some (a0_0, a0_1, a0_2)
  | _, _ => none
noncomputable def f71_E0 (o : FO) (a : Int × List (AV o) × List (AV o)) : List (AV o) × Heap o := ([.ptr 0 0, .ptr 1 0, .int .i64 a.1], [.live true true a.2.1, .live true true a.2.2])
theorem f71_DE0 (o : FO) : ∀ vs h a, f71_D0 o vs h = some a → f71_E0 o a = (vs, h) := by
  intro vs h a hx
  unfold f71_D0 at hx
  split at hx
  · cases hx; rfl
  · cases hx
noncomputable def f71 (o : FO) (N : Nat) (p0 : List (AV o)) : R o :=
  iter (f71_L0 o N) N ((0 : Int), p0, List.replicate 400 (.f32 (o.slit 0)))
noncomputable def c71 (o : FO) (N : Nat) : Cx o :=
  { ty := tab [(33, ty33 o), (39, ty39 o), (41, ty41 o)]
    fn := tab [(94, .ro (e94 o))]
    rounds := N, nt := 16, base := 0
    loops := [loopD [1, 2, 5] (f71_D0 o) (f71_E0 o)] }
noncomputable def b71 : Code := match Try.f71.body with | some b => b | none => .skip
theorem is71 (N : Nat) : FnIs Try.prog (c71 ieee N) 71 Try.f71 b71 := ⟨by kernel_rfl, by kernel_rfl, by kernel_rfl, by kernel_rfl⟩
theorem eq71 (o : FO) (N : Nat) (p0 : List (AV o)) : afun (c71 o N) Try.f71.results.toList b71 [.agg p0] [] = f71 o N p0 := by kernel_rfl
theorem cok71 (N : Nat) (hN : 4096 ≤ N) : CtxOk Try.prog (c71 ieee N) := by
  refine ctxOk ?_ ?_ mixed ?_
  · intro p hp
    simp only [List.mem_cons, List.not_mem_nil, or_false] at hp
    rcases hp with rfl | rfl | rfl
    · exact tyOk33
    · exact tyOk39
    · exact tyOk41
  · intro p hp
    simp only [List.mem_cons, List.not_mem_nil, or_false] at hp
    subst hp; exact ok94 N hN
  · intro p hp
    simp only [List.mem_cons, List.not_mem_nil, or_false] at hp
    subst hp; exact loopD_ok _ _ _ (f71_DE0 ieee)
noncomputable def k71 (o : FO) : R o → Bool := fun r => match r with | some (.tup [.agg _, .int .i64 _], _) => true | _ => false
theorem k71_c (o : FO) (b : Bool) (x y : R o) : k71 o (bif b then x else y) = bif b then k71 o x else k71 o y := by cases b <;> rfl
noncomputable def m71_ok (o : FO) (p0 : List (AV o)) : Bool := k71 o (f71 o 4096 p0)
noncomputable def g71_0 (o : FO) : R o → List (AV o) := fun r => match r with | some (.tup [.agg r0, .int .i64 _], _) => r0 | _ => []
theorem g71_0c (o : FO) (b : Bool) (x y : R o) : g71_0 o (bif b then x else y) = bif b then g71_0 o x else g71_0 o y := by cases b <;> rfl
noncomputable def m71_0 (o : FO) (p0 : List (AV o)) : List (AV o) := g71_0 o (f71 o 4096 p0)
noncomputable def g71_1 (o : FO) : R o → Int := fun r => match r with | some (.tup [.agg _, .int .i64 r1], _) => r1 | _ => 0
theorem g71_1c (o : FO) (b : Bool) (x y : R o) : g71_1 o (bif b then x else y) = bif b then g71_1 o x else g71_1 o y := by cases b <;> rfl
noncomputable def m71_1 (o : FO) (p0 : List (AV o)) : Int := g71_1 o (f71 o 4096 p0)
noncomputable def m71_h (o : FO) (p0 : List (AV o)) : Heap o := match f71 o 4096 p0 with | some (_, h) => h | _ => []
theorem val71 (o : FO) (p0 : List (AV o)) (h : m71_ok o p0 = true) : f71 o 4096 p0 = some (.tup [.agg (m71_0 o p0), .int .i64 (m71_1 o p0)], m71_h o p0) := by
  unfold m71_ok k71 at h
  unfold m71_0 g71_0 m71_1 g71_1 m71_h
  generalize f71 o 4096 p0 = r at h ⊢
  split at h
  · rfl
  · cases h

noncomputable def e71 (o : FO) : List (AV o) → Tr (AV o)
  | [.agg p0] => .br (m71_ok o p0) (.leaf (.tup [.agg (m71_0 o p0), .int .i64 (m71_1 o p0)])) .fail
  | _ => .fail
theorem ok71 (N : Nat) (hN : 4096 ≤ N) : CalOk Try.prog 71 (.pure (e71 ieee)) := by
  refine calOk_pure (cok71 4096 (by decide)) (is71 4096) ?_
  intro args av hg
  unfold e71 at hg
  split at hg
  · obtain ⟨h0, hg⟩ := br_get hg
    cases hg
    exact ⟨rfl, rfl, _, (eq71 ieee 4096 _).trans (val71 ieee _ h0)⟩
  · cases hg

/-! loop.example/g01224/impl.ScaleKernel -/
noncomputable def f30_L1 (o : FO) (N : Nat) (s0 : (o.S × Int × List (AV o) × List (AV o)) → R o) (s1 : o.S × Int × Int × Int × List (AV o) × List (AV o) → R o) (a : o.S × Int × Int × Int × List (AV o) × List (AV o)) : R o :=
  bif decide (a.2.2.2.1 < (20 : Int)) then
    gd (decide (0 ≤ a.2.1) && decide (a.2.1 < ((20 : Nat) : Int))) (
    gd (decide (0 ≤ a.2.2.2.1) && decide (a.2.2.2.1 < ((20 : Nat) : Int))) (
    rdS a.2.2.2.2.1 ((0 + (((a.2.1).toNat) * 20)) + (((a.2.2.2.1).toNat) * 1)) fun x6 =>
    gd (decide (0 ≤ a.2.1) && decide (a.2.1 < ((20 : Nat) : Int))) (
    gd (decide (0 ≤ a.2.2.2.1) && decide (a.2.2.2.1 < ((20 : Nat) : Int))) (
    wr1 a.2.2.2.2.1 ((0 + (((a.2.1).toNat) * 20)) + (((a.2.2.2.1).toNat) * 1)) (.f32 (o.smul x6 a.1)) fun c7 =>
    s1 (a.1, a.2.1, a.2.2.1, IntKind.wrap .i64 (a.2.2.2.1 + (1 : Int)), c7, a.2.2.2.2.2)))))
  else
    s0 (a.1, IntKind.wrap .i64 (a.2.2.1 + (1 : Int)), a.2.2.2.2.1, a.2.2.2.2.2)
noncomputable def f30_D1 (o : FO) (vs : List (AV o)) (h : Heap o) : Option (o.S × Int × Int × Int × List (AV o) × List (AV o)) :=
  match vs, h with
  | [.f32 a1_0, .ptr 0 0, .ptr 1 0, .int .i64 a1_1, .int .i64 a1_2, .int .i64 a1_3], [.live true true a1_4, .live true true a1_5] => some (a1_0, a1_1, a1_2, a1_3, a1_4, a1_5)
  | _, _ => none
noncomputable def f30_E1 (o : FO) (a : o.S × Int × Int × Int × List (AV o) × List (AV o)) : List (AV o) × Heap o := ([.f32 a.1, .ptr 0 0, .ptr 1 0, .int .i64 a.2.1, .int .i64 a.2.2.1, .int .i64 a.2.2.2.1], [.live true true a.2.2.2.2.1, .live true true a.2.2.2.2.2])
theorem f30_DE1 (o : FO) : ∀ vs h a, f30_D1 o vs h = some a → f30_E1 o a = (vs, h) := by
  intro vs h a hx
  unfold f30_D1 at hx
  split at hx
  · cases hx; rfl
  · cases hx
noncomputable def f30_L0 (o : FO) (N : Nat) (s0 : o.S × Int × List (AV o) × List (AV o) → R o) (a : o.S × Int × List (AV o) × List (AV o)) : R o :=
  bif decide (a.2.1 < (20 : Int)) then
    iter (f30_L1 o N s0) N (a.1, a.2.1, a.2.1, (0 : Int), a.2.2.1, a.2.2.2)
  else
    rdA a.2.2.1 0 400 fun c8 =>
    gd (m71_ok o c8) (
    wrA a.2.2.2 0 400 (m71_0 o c8) fun c9 =>
    rdA c9 0 400 fun c10 =>
    some (.tup [.agg c10, .int .i64 (m71_1 o c8)], []))
noncomputable def f30_D0 (o : FO) (vs : List (AV o)) (h : Heap o) : Option (o.S × Int × List (AV o) × List (AV o)) :=
  match vs, h with
  | [.f32 a0_0, .ptr 0 0, .ptr 1 0, .int .i64 a0_1], [.live true true a0_2, .live true true a0_3] => some (a0_0, a0_1, a0_2, a0_3)
  | _, _ => none
noncomputable def f30_E0 (o : FO) (a : o.S × Int × List (AV o) × List (AV o)) : List (AV o) × Heap o := ([.f32 a.1, .ptr 0 0, .ptr 1 0, .int .i64 a.2.1], [.live true true a.2.2.1, .live true true a.2.2.2])
theorem f30_DE0 (o : FO) : ∀ vs h a, f30_D0 o vs h = some a → f30_E0 o a = (vs, h) := by
  intro vs h a hx
  unfold f30_D0 at hx
  split at hx
  · cases hx; rfl
  · cases hx
noncomputable def f30 (o : FO) (N : Nat) (p0 : List (AV o)) (p1 : o.S) : R o :=
  rdA p0 0 400 fun c1 =>
  gd (m70_ok o c1) (
  bif !(m70_0 o c1) then
    wrA (List.replicate 400 (.f32 (o.slit 0))) 0 400 (List.replicate 400 (.f32 (o.slit 0))) fun c2 =>
    rdA c2 0 400 fun c3 =>
    some (.tup [.agg c3, .int .i64 (1 : Int)], [])
  else
    bif !(amtS o p1) then
      wrA (List.replicate 400 (.f32 (o.slit 0))) 0 400 (List.replicate 400 (.f32 (o.slit 0))) fun c4 =>
      rdA c4 0 400 fun c5 =>
      some (.tup [.agg c5, .int .i64 (2 : Int)], [])
    else
      iter (f30_L0 o N) N (p1, (0 : Int), p0, List.replicate 400 (.f32 (o.slit 0))))
noncomputable def c30 (o : FO) (N : Nat) : Cx o :=
  { ty := tab [(33, ty33 o), (39, ty39 o), (41, ty41 o)]
    fn := tab [(70, .pure (e70 o)), (71, .pure (e71 o)), (72, .pure (e72 o))]
    rounds := N, nt := 39, base := 0
    loops := [loopD [1, 2, 4, 18] (f30_D0 o) (f30_E0 o), loopD [1, 2, 4, 6, 18, 21] (f30_D1 o) (f30_E1 o)] }
noncomputable def b30 : Code := match Try.f30.body with | some b => b | none => .skip
theorem is30 (N : Nat) : FnIs Try.prog (c30 ieee N) 30 Try.f30 b30 := ⟨by kernel_rfl, by kernel_rfl, by kernel_rfl, by kernel_rfl⟩
theorem eq30 (o : FO) (N : Nat) (p0 : List (AV o)) (p1 : o.S) : afun (c30 o N) Try.f30.results.toList b30 [.agg p0, .f32 p1] [] = f30 o N p0 p1 := by kernel_rfl
theorem cok30 (N : Nat) (hN : 4096 ≤ N) : CtxOk Try.prog (c30 ieee N) := by
  refine ctxOk ?_ ?_ mixed ?_
  · intro p hp
    simp only [List.mem_cons, List.not_mem_nil, or_false] at hp
    rcases hp with rfl | rfl | rfl
    · exact tyOk33
    · exact tyOk39
    · exact tyOk41
  · intro p hp
    simp only [List.mem_cons, List.not_mem_nil, or_false] at hp
    rcases hp with rfl | rfl | rfl
    · exact ok70 N hN
    · exact ok71 N hN
    · exact ok72 N hN
  · intro p hp
    simp only [List.mem_cons, List.not_mem_nil, or_false] at hp
    rcases hp with rfl | rfl
    · exact loopD_ok _ _ _ (f30_DE0 ieee)
    · exact loopD_ok _ _ _ (f30_DE1 ieee)
noncomputable def k30 (o : FO) : R o → Bool := fun r => match r with | some (.tup [.agg _, .int .i64 _], _) => true | _ => false
theorem k30_c (o : FO) (b : Bool) (x y : R o) : k30 o (bif b then x else y) = bif b then k30 o x else k30 o y := by cases b <;> rfl
noncomputable def m30_ok (o : FO) (p0 : List (AV o)) (p1 : o.S) : Bool := k30 o (f30 o 4096 p0 p1)
noncomputable def g30_0 (o : FO) : R o → List (AV o) := fun r => match r with | some (.tup [.agg r0, .int .i64 _], _) => r0 | _ => []
theorem g30_0c (o : FO) (b : Bool) (x y : R o) : g30_0 o (bif b then x else y) = bif b then g30_0 o x else g30_0 o y := by cases b <;> rfl
noncomputable def m30_0 (o : FO) (p0 : List (AV o)) (p1 : o.S) : List (AV o) := g30_0 o (f30 o 4096 p0 p1)
noncomputable def g30_1 (o : FO) : R o → Int := fun r => match r with | some (.tup [.agg _, .int .i64 r1], _) => r1 | _ => 0
theorem g30_1c (o : FO) (b : Bool) (x y : R o) : g30_1 o (bif b then x else y) = bif b then g30_1 o x else g30_1 o y := by cases b <;> rfl
noncomputable def m30_1 (o : FO) (p0 : List (AV o)) (p1 : o.S) : Int := g30_1 o (f30 o 4096 p0 p1)
noncomputable def m30_h (o : FO) (p0 : List (AV o)) (p1 : o.S) : Heap o := match f30 o 4096 p0 p1 with | some (_, h) => h | _ => []
theorem val30 (o : FO) (p0 : List (AV o)) (p1 : o.S) (h : m30_ok o p0 p1 = true) : f30 o 4096 p0 p1 = some (.tup [.agg (m30_0 o p0 p1), .int .i64 (m30_1 o p0 p1)], m30_h o p0 p1) := by
  unfold m30_ok k30 at h
  unfold m30_0 g30_0 m30_1 g30_1 m30_h
  generalize f30 o 4096 p0 p1 = r at h ⊢
  split at h
  · rfl
  · cases h

noncomputable def e30 (o : FO) : List (AV o) → Tr (AV o)
  | [.agg p0, .f32 p1] => .br (m30_ok o p0 p1) (.leaf (.tup [.agg (m30_0 o p0 p1), .int .i64 (m30_1 o p0 p1)])) .fail
  | _ => .fail
theorem ok30 (N : Nat) (hN : 4096 ≤ N) : CalOk Try.prog 30 (.pure (e30 ieee)) := by
  refine calOk_pure (cok30 4096 (by decide)) (is30 4096) ?_
  intro args av hg
  unfold e30 at hg
  split at hg
  · obtain ⟨h0, hg⟩ := br_get hg
    cases hg
    exact ⟨rfl, rfl, _, (eq30 ieee 4096 _ _).trans (val30 ieee _ _ h0)⟩
  · cases hg

/-! loop.example/g01224/laws.sameFloat -/
noncomputable def f20 (o : FO) (p0 : o.D) (p1 : o.D) : R o :=
  let v1 : Bool := !(o.deq p0 p0)
  bif v1 then
    bif v1 then
      bif !(o.deq p1 p1) then
        some (.bool true, [])
      else
        some (.bool false, [])
    else
      some (.bool false, [])
  else
    let v2 : Bool := !(o.deq p1 p1)
    bif v2 then
      bif v1 then
        bif v2 then
          some (.bool true, [])
        else
          some (.bool false, [])
      else
        some (.bool false, [])
    else
      bif o.deq p0 (o.dlit 0) then
        bif o.deq p1 (o.dlit 0) then
          some (.bool ((o.dlt (o.dlit 0) (o.ddiv (o.dlit 4607182418800017408) p0)) == (o.dlt (o.dlit 0) (o.ddiv (o.dlit 4607182418800017408) p1))), [])
        else
          some (.bool (o.deq p0 p1), [])
      else
        some (.bool (o.deq p0 p1), [])
noncomputable def c20 (o : FO) (N : Nat) : Cx o :=
  { ty := tab [(4, ty4 o)]
    fn := tab []
    rounds := 4096, nt := 37, base := 0
    loops := [] }
noncomputable def b20 : Code := match Try.f20.body with | some b => b | none => .skip
theorem is20 (N : Nat) : FnIs Try.prog (c20 ieee N) 20 Try.f20 b20 := ⟨by kernel_rfl, by kernel_rfl, by kernel_rfl, by kernel_rfl⟩
theorem eq20 (o : FO) (N : Nat) (p0 : o.D) (p1 : o.D) : afun (c20 o N) Try.f20.results.toList b20 [.f64 p0, .f64 p1] [] = f20 o p0 p1 := by kernel_rfl
theorem cok20 (N : Nat) (hN : 4096 ≤ N) : CtxOk Try.prog (c20 ieee N) := by
  refine ctxOk ?_ ?_ mixed ?_
  · intro p hp
    simp only [List.mem_cons, List.not_mem_nil, or_false] at hp
    subst hp; exact tyOk4
  · intro p hp; cases hp
  · intro p hp; cases hp
noncomputable def m20_0 (o : FO) (p0 : o.D) (p1 : o.D) : Bool :=
  bif o.deq p0 p0 then
    bif o.deq p1 p1 then
      bif o.deq p0 (o.dlit 0) then
        bif o.deq p1 (o.dlit 0) then
          (o.dlt (o.dlit 0) (o.ddiv (o.dlit 4607182418800017408) p0)) == (o.dlt (o.dlit 0) (o.ddiv (o.dlit 4607182418800017408) p1))
        else
          o.deq p0 p1
      else
        o.deq p0 p1
    else
      false
  else
    bif o.deq p1 p1 then
      false
    else
      true
theorem val20 (o : FO) (p0 : o.D) (p1 : o.D) : f20 o p0 p1 = some (.bool (m20_0 o p0 p1), []) := by
  unfold f20 m20_0
  try dsimp only
  cases (o.deq p0 p0)
  · cases (o.deq p1 p1)
    · rfl
    · rfl
  · cases (o.deq p1 p1)
    · rfl
    · cases (o.deq p0 (o.dlit 0))
      · rfl
      · cases (o.deq p1 (o.dlit 0))
        · rfl
        · rfl

noncomputable def e20 (o : FO) : List (AV o) → Tr (AV o)
  | [.f64 p0, .f64 p1] => .leaf (.bool (m20_0 o p0 p1))
  | _ => .fail
theorem ok20 (N : Nat) (hN : 4096 ≤ N) : CalOk Try.prog 20 (.pure (e20 ieee)) := by
  refine calOk_pure (cok20 4096 (by decide)) (is20 4096) ?_
  intro args av hg
  unfold e20 at hg
  split at hg
  · cases hg
    exact ⟨rfl, rfl, _, (eq20 ieee 4096 _ _).trans (val20 ieee _ _)⟩
  · cases hg

/-! loop.example/g01224/laws.eqFloat32A20 -/
noncomputable def f63_L0 (o : FO) (N : Nat) (s0 : Int × List (AV o) × List (AV o) → R o) (a : Int × List (AV o) × List (AV o)) : R o :=
  bif decide (a.1 < (20 : Int)) then
    gd (decide (0 ≤ a.1) && decide (a.1 < ((20 : Nat) : Int))) (
    rdS a.2.1 (0 + (((a.1).toNat) * 1)) fun x1 =>
    gd (decide (0 ≤ a.1) && decide (a.1 < ((20 : Nat) : Int))) (
    rdS a.2.2 (0 + (((a.1).toNat) * 1)) fun x2 =>
    bif !(m20_0 o (o.s2d x1) (o.s2d x2)) then
      some (.bool false, [])
    else
      s0 (IntKind.wrap .i64 (a.1 + (1 : Int)), a.2.1, a.2.2)))
  else
    some (.bool true, [])
noncomputable def f63_D0 (o : FO) (vs : List (AV o)) (h : Heap o) : Option (Int × List (AV o) × List (AV o)) :=
  match vs, h with
  | [.ptr 0 0, .ptr 1 0, .int .i64 a0_0], [.live true true a0_1, .live true true a0_2] => some (a0_0, a0_1, a0_2)
  | _, _ => none
noncomputable def f63_E0 (o : FO) (a : Int × List (AV o) × List (AV o)) : List (AV o) × Heap o := ([.ptr 0 0, .ptr 1 0, .int .i64 a.1], [.live true true a.2.1, .live true true a.2.2])
theorem f63_DE0 (o : FO) : ∀ vs h a, f63_D0 o vs h = some a → f63_E0 o a = (vs, h) := by
  intro vs h a hx
  unfold f63_D0 at hx
  split at hx
  · cases hx; rfl
  · cases hx
noncomputable def f63 (o : FO) (N : Nat) (p0 : List (AV o)) (p1 : List (AV o)) : R o :=
  iter (f63_L0 o N) N ((0 : Int), p0, p1)
noncomputable def c63 (o : FO) (N : Nat) : Cx o :=
  { ty := tab [(33, ty33 o), (37, ty37 o), (39, ty39 o)]
    fn := tab [(20, .pure (e20 o))]
    rounds := N, nt := 20, base := 0
    loops := [loopD [2, 3, 5] (f63_D0 o) (f63_E0 o)] }
noncomputable def b63 : Code := match Try.f63.body with | some b => b | none => .skip
theorem is63 (N : Nat) : FnIs Try.prog (c63 ieee N) 63 Try.f63 b63 := ⟨by kernel_rfl, by kernel_rfl, by kernel_rfl, by kernel_rfl⟩
theorem eq63 (o : FO) (N : Nat) (p0 : List (AV o)) (p1 : List (AV o)) : afun (c63 o N) Try.f63.results.toList b63 [.agg p0, .agg p1] [] = f63 o N p0 p1 := by kernel_rfl
theorem cok63 (N : Nat) (hN : 4096 ≤ N) : CtxOk Try.prog (c63 ieee N) := by
  refine ctxOk ?_ ?_ mixed ?_
  · intro p hp
    simp only [List.mem_cons, List.not_mem_nil, or_false] at hp
    rcases hp with rfl | rfl | rfl
    · exact tyOk33
    · exact tyOk37
    · exact tyOk39
  · intro p hp
    simp only [List.mem_cons, List.not_mem_nil, or_false] at hp
    subst hp; exact ok20 N hN
  · intro p hp
    simp only [List.mem_cons, List.not_mem_nil, or_false] at hp
    subst hp; exact loopD_ok _ _ _ (f63_DE0 ieee)
noncomputable def k63 (o : FO) : R o → Bool := fun r => match r with | some (.bool _, _) => true | _ => false
theorem k63_c (o : FO) (b : Bool) (x y : R o) : k63 o (bif b then x else y) = bif b then k63 o x else k63 o y := by cases b <;> rfl
noncomputable def m63_ok (o : FO) (p0 : List (AV o)) (p1 : List (AV o)) : Bool := k63 o (f63 o 4096 p0 p1)
noncomputable def g63_0 (o : FO) : R o → Bool := fun r => match r with | some (.bool r0, _) => r0 | _ => false
theorem g63_0c (o : FO) (b : Bool) (x y : R o) : g63_0 o (bif b then x else y) = bif b then g63_0 o x else g63_0 o y := by cases b <;> rfl
noncomputable def m63_0 (o : FO) (p0 : List (AV o)) (p1 : List (AV o)) : Bool := g63_0 o (f63 o 4096 p0 p1)
noncomputable def m63_h (o : FO) (p0 : List (AV o)) (p1 : List (AV o)) : Heap o := match f63 o 4096 p0 p1 with | some (_, h) => h | _ => []
theorem val63 (o : FO) (p0 : List (AV o)) (p1 : List (AV o)) (h : m63_ok o p0 p1 = true) : f63 o 4096 p0 p1 = some (.bool (m63_0 o p0 p1), m63_h o p0 p1) := by
  unfold m63_ok k63 at h
  unfold m63_0 g63_0 m63_h
  generalize f63 o 4096 p0 p1 = r at h ⊢
  split at h
  · rfl
  · cases h

noncomputable def e63 (o : FO) : List (AV o) → Tr (AV o)
  | [.agg p0, .agg p1] => .br (m63_ok o p0 p1) (.leaf (.bool (m63_0 o p0 p1))) .fail
  | _ => .fail
theorem ok63 (N : Nat) (hN : 4096 ≤ N) : CalOk Try.prog 63 (.pure (e63 ieee)) := by
  refine calOk_pure (cok63 4096 (by decide)) (is63 4096) ?_
  intro args av hg
  unfold e63 at hg
  split at hg
  · obtain ⟨h0, hg⟩ := br_get hg
    cases hg
    exact ⟨rfl, rfl, _, (eq63 ieee 4096 _ _).trans (val63 ieee _ _ h0)⟩
  · cases hg

/-! loop.example/g01224/laws.eqKernel -/
noncomputable def f23_L0 (o : FO) (N : Nat) (s0 : Int × List (AV o) × List (AV o) → R o) (a : Int × List (AV o) × List (AV o)) : R o :=
  bif decide (a.1 < (20 : Int)) then
    gd (decide (0 ≤ a.1) && decide (a.1 < ((20 : Nat) : Int))) (
    rdA a.2.1 (0 + (((a.1).toNat) * 20)) 20 fun c1 =>
    gd (decide (0 ≤ a.1) && decide (a.1 < ((20 : Nat) : Int))) (
    rdA a.2.2 (0 + (((a.1).toNat) * 20)) 20 fun c2 =>
    gd (m63_ok o c1 c2) (
    bif !(m63_0 o c1 c2) then
      some (.bool false, [])
    else
      s0 (IntKind.wrap .i64 (a.1 + (1 : Int)), a.2.1, a.2.2))))
  else
    some (.bool true, [])
noncomputable def f23_D0 (o : FO) (vs : List (AV o)) (h : Heap o) : Option (Int × List (AV o) × List (AV o)) :=
  match vs, h with
  | [.ptr 0 0, .ptr 1 0, .int .i64 a0_0], [.live true true a0_1, .live true true a0_2] => some (a0_0, a0_1, a0_2)
  | _, _ => none
noncomputable def f23_E0 (o : FO) (a : Int × List (AV o) × List (AV o)) : List (AV o) × Heap o := ([.ptr 0 0, .ptr 1 0, .int .i64 a.1], [.live true true a.2.1, .live true true a.2.2])
theorem f23_DE0 (o : FO) : ∀ vs h a, f23_D0 o vs h = some a → f23_E0 o a = (vs, h) := by
  intro vs h a hx
  unfold f23_D0 at hx
  split at hx
  · cases hx; rfl
  · cases hx
noncomputable def f23 (o : FO) (N : Nat) (p0 : List (AV o)) (p1 : List (AV o)) : R o :=
  iter (f23_L0 o N) N ((0 : Int), p0, p1)
noncomputable def c23 (o : FO) (N : Nat) : Cx o :=
  { ty := tab [(39, ty39 o), (41, ty41 o)]
    fn := tab [(63, .pure (e63 o))]
    rounds := N, nt := 18, base := 0
    loops := [loopD [2, 3, 5] (f23_D0 o) (f23_E0 o)] }
noncomputable def b23 : Code := match Try.f23.body with | some b => b | none => .skip
theorem is23 (N : Nat) : FnIs Try.prog (c23 ieee N) 23 Try.f23 b23 := ⟨by kernel_rfl, by kernel_rfl, by kernel_rfl, by kernel_rfl⟩
theorem eq23 (o : FO) (N : Nat) (p0 : List (AV o)) (p1 : List (AV o)) : afun (c23 o N) Try.f23.results.toList b23 [.agg p0, .agg p1] [] = f23 o N p0 p1 := by kernel_rfl
theorem cok23 (N : Nat) (hN : 4096 ≤ N) : CtxOk Try.prog (c23 ieee N) := by
  refine ctxOk ?_ ?_ mixed ?_
  · intro p hp
    simp only [List.mem_cons, List.not_mem_nil, or_false] at hp
    rcases hp with rfl | rfl
    · exact tyOk39
    · exact tyOk41
  · intro p hp
    simp only [List.mem_cons, List.not_mem_nil, or_false] at hp
    subst hp; exact ok63 N hN
  · intro p hp
    simp only [List.mem_cons, List.not_mem_nil, or_false] at hp
    subst hp; exact loopD_ok _ _ _ (f23_DE0 ieee)
noncomputable def k23 (o : FO) : R o → Bool := fun r => match r with | some (.bool _, _) => true | _ => false
theorem k23_c (o : FO) (b : Bool) (x y : R o) : k23 o (bif b then x else y) = bif b then k23 o x else k23 o y := by cases b <;> rfl
noncomputable def m23_ok (o : FO) (p0 : List (AV o)) (p1 : List (AV o)) : Bool := k23 o (f23 o 4096 p0 p1)
noncomputable def g23_0 (o : FO) : R o → Bool := fun r => match r with | some (.bool r0, _) => r0 | _ => false
theorem g23_0c (o : FO) (b : Bool) (x y : R o) : g23_0 o (bif b then x else y) = bif b then g23_0 o x else g23_0 o y := by cases b <;> rfl
noncomputable def m23_0 (o : FO) (p0 : List (AV o)) (p1 : List (AV o)) : Bool := g23_0 o (f23 o 4096 p0 p1)
noncomputable def m23_h (o : FO) (p0 : List (AV o)) (p1 : List (AV o)) : Heap o := match f23 o 4096 p0 p1 with | some (_, h) => h | _ => []
theorem val23 (o : FO) (p0 : List (AV o)) (p1 : List (AV o)) (h : m23_ok o p0 p1 = true) : f23 o 4096 p0 p1 = some (.bool (m23_0 o p0 p1), m23_h o p0 p1) := by
  unfold m23_ok k23 at h
  unfold m23_0 g23_0 m23_h
  generalize f23 o 4096 p0 p1 = r at h ⊢
  split at h
  · rfl
  · cases h

noncomputable def e23 (o : FO) : List (AV o) → Tr (AV o)
  | [.agg p0, .agg p1] => .br (m23_ok o p0 p1) (.leaf (.bool (m23_0 o p0 p1))) .fail
  | _ => .fail
theorem ok23 (N : Nat) (hN : 4096 ≤ N) : CalOk Try.prog 23 (.pure (e23 ieee)) := by
  refine calOk_pure (cok23 4096 (by decide)) (is23 4096) ?_
  intro args av hg
  unfold e23 at hg
  split at hg
  · obtain ⟨h0, hg⟩ := br_get hg
    cases hg
    exact ⟨rfl, rfl, _, (eq23 ieee 4096 _ _).trans (val23 ieee _ _ h0)⟩
  · cases hg

/-! loop.example/g01224/laws.FnExactScaleKernel -/
noncomputable def f8 (o : FO) (p0 : List (AV o)) (p1 : o.S) : R o :=
  rdA p0 0 400 fun c1 =>
  gd (m27_ok o c1) (
  gd (m29_ok o (m27_0 o c1) p1) (
  wrA (List.replicate 400 (.f32 (o.slit 0))) 0 400 (m29_0 o (m27_0 o c1) p1) fun c2 =>
  rdA p0 0 400 fun c3 =>
  gd (m27_ok o c3) (
  gd (m30_ok o (m27_0 o c3) p1) (
  wrA (List.replicate 400 (.f32 (o.slit 0))) 0 400 (m30_0 o (m27_0 o c3) p1) fun c4 =>
  rdA c4 0 400 fun c5 =>
  rdA c2 0 400 fun c6 =>
  gd (m23_ok o c5 c6) (
  bif m23_0 o c5 c6 then
    bif (m30_1 o (m27_0 o c3) p1) != (m29_1 o (m27_0 o c1) p1) then
      some (.bool false, [])
    else
      some (.bool true, [])
  else
    some (.bool false, []))))))
noncomputable def c8 (o : FO) (N : Nat) : Cx o :=
  { ty := tab [(40, ty40 o), (41, ty41 o)]
    fn := tab [(23, .pure (e23 o)), (27, .pure (e27 o)), (29, .pure (e29 o)), (30, .pure (e30 o))]
    rounds := 4096, nt := 32, base := 0
    loops := [] }
noncomputable def b8 : Code := match Try.f8.body with | some b => b | none => .skip
theorem is8 (N : Nat) : FnIs Try.prog (c8 ieee N) 8 Try.f8 b8 := ⟨by kernel_rfl, by kernel_rfl, by kernel_rfl, by kernel_rfl⟩
theorem eq8 (o : FO) (N : Nat) (p0 : List (AV o)) (p1 : o.S) : afun (c8 o N) Try.f8.results.toList b8 [.agg p0, .f32 p1] [] = f8 o p0 p1 := by kernel_rfl
theorem cok8 (N : Nat) (hN : 4096 ≤ N) : CtxOk Try.prog (c8 ieee N) := by
  refine ctxOk ?_ ?_ mixed ?_
  · intro p hp
    simp only [List.mem_cons, List.not_mem_nil, or_false] at hp
    rcases hp with rfl | rfl
    · exact tyOk40
    · exact tyOk41
  · intro p hp
    simp only [List.mem_cons, List.not_mem_nil, or_false] at hp
    rcases hp with rfl | rfl | rfl | rfl
    · exact ok23 N hN
    · exact ok27 N hN
    · exact ok29 N hN
    · exact ok30 N hN
  · intro p hp; cases hp
noncomputable def k8 (o : FO) : R o → Bool := fun r => match r with | some (.bool _, _) => true | _ => false
theorem k8_c (o : FO) (b : Bool) (x y : R o) : k8 o (bif b then x else y) = bif b then k8 o x else k8 o y := by cases b <;> rfl
noncomputable def m8_ok (o : FO) (p0 : List (AV o)) (p1 : o.S) : Bool := k8 o (f8 o p0 p1)
noncomputable def g8_0 (o : FO) : R o → Bool := fun r => match r with | some (.bool r0, _) => r0 | _ => false
theorem g8_0c (o : FO) (b : Bool) (x y : R o) : g8_0 o (bif b then x else y) = bif b then g8_0 o x else g8_0 o y := by cases b <;> rfl
noncomputable def m8_0 (o : FO) (p0 : List (AV o)) (p1 : o.S) : Bool := g8_0 o (f8 o p0 p1)
noncomputable def m8_h (o : FO) (p0 : List (AV o)) (p1 : o.S) : Heap o := match f8 o p0 p1 with | some (_, h) => h | _ => []
theorem val8 (o : FO) (p0 : List (AV o)) (p1 : o.S) (h : m8_ok o p0 p1 = true) : f8 o p0 p1 = some (.bool (m8_0 o p0 p1), m8_h o p0 p1) := by
  unfold m8_ok k8 at h
  unfold m8_0 g8_0 m8_h
  generalize f8 o p0 p1 = r at h ⊢
  split at h
  · rfl
  · cases h

noncomputable def e8 (o : FO) : List (AV o) → Tr (AV o)
  | [.agg p0, .f32 p1] => .br (m8_ok o p0 p1) (.leaf (.bool (m8_0 o p0 p1))) .fail
  | _ => .fail
theorem ok8 (N : Nat) (hN : 4096 ≤ N) : CalOk Try.prog 8 (.pure (e8 ieee)) := by
  refine calOk_pure (cok8 4096 (by decide)) (is8 4096) ?_
  intro args av hg
  unfold e8 at hg
  split at hg
  · obtain ⟨h0, hg⟩ := br_get hg
    cases hg
    exact ⟨rfl, rfl, _, (eq8 ieee 4096 _ _).trans (val8 ieee _ _ h0)⟩
  · cases hg

end Go.Proofs.Ytbmakfcooonogaa
