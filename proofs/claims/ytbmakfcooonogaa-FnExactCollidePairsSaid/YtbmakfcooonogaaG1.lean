import Derived.Test.YtbmakfcooonogaaG0
set_option linter.unusedVariables false
set_option maxRecDepth 100000
namespace Go.Proofs.Ytbmakfcooonogaa
open Go.Ab Go.RowKit

/-! loop.example/g01224/laws.szPairS -/
noncomputable def f40 (o : FO) (p0 : Nat) (p1 : Int) (p2 : List (AV o)) : R o :=
  let v1 : Int := IntKind.wrap .i64 (p1 - ((p0 : Nat) : Int))
  bif decide (v1 < (0 : Int)) then
    some (.int .i64 (-1 : Int), [.live false true p2])
  else
    some (.int .i64 v1, [.live false true p2])
noncomputable def c40 (o : FO) (N : Nat) : Cx o :=
  { ty := tab [(63, ty63 o)]
    fn := tab []
    rounds := 4096, nt := 12, base := 1
    loops := [] }
noncomputable def b40 : Code := match Try.f40.body with | some b => b | none => .skip
theorem is40 (N : Nat) : FnIs Try.prog (c40 ieee N) 40 Try.f40 b40 := ⟨by kernel_rfl, by kernel_rfl, by kernel_rfl, by kernel_rfl⟩
theorem eq40 (o : FO) (N : Nat) (p0 : Nat) (p1 : Int) (p2 : List (AV o)) : afun (c40 o N) Try.f40.results.toList b40 [.slice 0 0 p0 2, .int .i64 p1] [.live false true p2] = f40 o p0 p1 p2 := by kernel_rfl
theorem cok40 (N : Nat) (hN : 4096 ≤ N) : CtxOk Try.prog (c40 ieee N) := by
  refine ctxOk ?_ ?_ mixed ?_
  · intro p hp
    simp only [List.mem_cons, List.not_mem_nil, or_false] at hp
    subst hp; exact tyOk63
  · intro p hp; cases hp
  · intro p hp; cases hp
noncomputable def m40_0 (o : FO) (p0 : Nat) (p1 : Int) (p2 : List (AV o)) : Int :=
  let v1 : Int := IntKind.wrap .i64 (p1 - ((p0 : Nat) : Int))
  bif decide (v1 < (0 : Int)) then
    (-1 : Int)
  else
    v1
theorem val40 (o : FO) (p0 : Nat) (p1 : Int) (p2 : List (AV o)) : f40 o p0 p1 p2 = some (.int .i64 (m40_0 o p0 p1 p2), [.live false true p2]) := by
  unfold f40 m40_0
  try dsimp only
  cases (decide ((IntKind.wrap .i64 (p1 - ((p0 : Nat) : Int))) < (0 : Int)))
  · rfl
  · rfl

noncomputable def e40 (o : FO) : List (AV o) → Heap o → Tr (AV o)
  | [.slice 0 0 p0 2, .int .i64 p1], [.live _ true p2] => .leaf (.int .i64 (m40_0 o p0 p1 p2))
  | _, _ => .fail
theorem ok40 (N : Nat) (hN : 4096 ≤ N) : CalOk Try.prog 40 (.ro (e40 ieee)) := by
  refine calOk_ro (cok40 2000000 (by decide)) (is40 2000000) ?_
  intro args h av hg
  unfold e40 at hg
  split at hg
  · cases hg
    exact ⟨rfl, _, (eq40 ieee 2000000 _ _ _).trans (val40 ieee _ _ _)⟩
  · cases hg

/-! loop.example/g01224/laws.toCounts -/
noncomputable def f50 (o : FO) (p0 : List (AV o)) : R o :=
  rdI .i64 p0 0 fun x1 =>
  wr1 (List.replicate 20 (.int .i64 (0 : Int))) 0 (.int .i64 x1) fun c2 =>
  rdI .i64 p0 1 fun x3 =>
  wr1 c2 1 (.int .i64 x3) fun c4 =>
  rdI .i64 p0 2 fun x5 =>
  wr1 c4 2 (.int .i64 x5) fun c6 =>
  rdI .i64 p0 3 fun x7 =>
  wr1 c6 3 (.int .i64 x7) fun c8 =>
  rdI .i64 p0 4 fun x9 =>
  wr1 c8 4 (.int .i64 x9) fun c10 =>
  rdI .i64 p0 5 fun x11 =>
  wr1 c10 5 (.int .i64 x11) fun c12 =>
  rdI .i64 p0 6 fun x13 =>
  wr1 c12 6 (.int .i64 x13) fun c14 =>
  rdI .i64 p0 7 fun x15 =>
  wr1 c14 7 (.int .i64 x15) fun c16 =>
  rdI .i64 p0 8 fun x17 =>
  wr1 c16 8 (.int .i64 x17) fun c18 =>
  rdI .i64 p0 9 fun x19 =>
  wr1 c18 9 (.int .i64 x19) fun c20 =>
  rdI .i64 p0 10 fun x21 =>
  wr1 c20 10 (.int .i64 x21) fun c22 =>
  rdI .i64 p0 11 fun x23 =>
  wr1 c22 11 (.int .i64 x23) fun c24 =>
  rdI .i64 p0 12 fun x25 =>
  wr1 c24 12 (.int .i64 x25) fun c26 =>
  rdI .i64 p0 13 fun x27 =>
  wr1 c26 13 (.int .i64 x27) fun c28 =>
  rdI .i64 p0 14 fun x29 =>
  wr1 c28 14 (.int .i64 x29) fun c30 =>
  rdI .i64 p0 15 fun x31 =>
  wr1 c30 15 (.int .i64 x31) fun c32 =>
  rdI .i64 p0 16 fun x33 =>
  wr1 c32 16 (.int .i64 x33) fun c34 =>
  rdI .i64 p0 17 fun x35 =>
  wr1 c34 17 (.int .i64 x35) fun c36 =>
  rdI .i64 p0 18 fun x37 =>
  wr1 c36 18 (.int .i64 x37) fun c38 =>
  rdI .i64 p0 19 fun x39 =>
  wr1 c38 19 (.int .i64 x39) fun c40 =>
  rdA c40 0 20 fun c41 =>
  wrA (List.replicate 20 (.int .i64 (0 : Int))) 0 20 c41 fun c42 =>
  rdA c42 0 20 fun c43 =>
  some (.agg c43, [])
noncomputable def c50 (o : FO) (N : Nat) : Cx o :=
  { ty := tab [(2, ty2 o), (22, ty22 o), (25, ty25 o)]
    fn := tab []
    rounds := 4096, nt := 15, base := 0
    loops := [loopU [1, 2, 3, 4]] }
noncomputable def b50 : Code := match Try.f50.body with | some b => b | none => .skip
theorem is50 (N : Nat) : FnIs Try.prog (c50 ieee N) 50 Try.f50 b50 := ⟨by kernel_rfl, by kernel_rfl, by kernel_rfl, by kernel_rfl⟩
theorem eq50 (o : FO) (N : Nat) (p0 : List (AV o)) : afun (c50 o N) Try.f50.results.toList b50 [.agg p0] [] = f50 o p0 := by kernel_rfl
theorem cok50 (N : Nat) (hN : 4096 ≤ N) : CtxOk Try.prog (c50 ieee N) := by
  refine ctxOk ?_ ?_ mixed ?_
  · intro p hp
    simp only [List.mem_cons, List.not_mem_nil, or_false] at hp
    rcases hp with rfl | rfl | rfl
    · exact tyOk2
    · exact tyOk22
    · exact tyOk25
  · intro p hp; cases hp
  · intro p hp
    simp only [List.mem_cons, List.not_mem_nil, or_false] at hp
    subst hp; exact loopU_ok _
noncomputable def k50 (o : FO) : R o → Bool := fun r => match r with | some (.agg _, _) => true | _ => false
theorem k50_c (o : FO) (b : Bool) (x y : R o) : k50 o (bif b then x else y) = bif b then k50 o x else k50 o y := by cases b <;> rfl
noncomputable def m50_ok (o : FO) (p0 : List (AV o)) : Bool := k50 o (f50 o p0)
noncomputable def g50_0 (o : FO) : R o → List (AV o) := fun r => match r with | some (.agg r0, _) => r0 | _ => []
theorem g50_0c (o : FO) (b : Bool) (x y : R o) : g50_0 o (bif b then x else y) = bif b then g50_0 o x else g50_0 o y := by cases b <;> rfl
noncomputable def m50_0 (o : FO) (p0 : List (AV o)) : List (AV o) := g50_0 o (f50 o p0)
noncomputable def m50_h (o : FO) (p0 : List (AV o)) : Heap o := match f50 o p0 with | some (_, h) => h | _ => []
theorem val50 (o : FO) (p0 : List (AV o)) (h : m50_ok o p0 = true) : f50 o p0 = some (.agg (m50_0 o p0), m50_h o p0) := by
  unfold m50_ok k50 at h
  unfold m50_0 g50_0 m50_h
  generalize f50 o p0 = r at h ⊢
  split at h
  · rfl
  · cases h

noncomputable def e50 (o : FO) : List (AV o) → Tr (AV o)
  | [.agg p0] => .br (m50_ok o p0) (.leaf (.agg (m50_0 o p0))) .fail
  | _ => .fail
theorem ok50 (N : Nat) (hN : 4096 ≤ N) : CalOk Try.prog 50 (.pure (e50 ieee)) := by
  refine calOk_pure (cok50 2000000 (by decide)) (is50 2000000) ?_
  intro args av hg
  unfold e50 at hg
  split at hg
  · obtain ⟨h0, hg⟩ := br_get hg
    cases hg
    exact ⟨rfl, rfl, _, (eq50 ieee 2000000 _).trans (val50 ieee _ h0)⟩
  · cases hg

/-! loop.example/g01224/laws.toBox -/
noncomputable def f15 (o : FO) (p0 : List (AV o)) : R o :=
  rdA p0 0 20 fun c1 =>
  gd (m50_ok o c1) (
  wrA (List.replicate 21 (.int .i64 (0 : Int))) 0 20 (m50_0 o c1) fun c2 =>
  rdI .i64 p0 20 fun x3 =>
  wr1 c2 20 (.int .i64 x3) fun c4 =>
  rdA c4 0 21 fun c5 =>
  wrA (List.replicate 21 (.int .i64 (0 : Int))) 0 21 c5 fun c6 =>
  rdA c6 0 21 fun c7 =>
  some (.agg c7, []))
noncomputable def c15 (o : FO) (N : Nat) : Cx o :=
  { ty := tab [(2, ty2 o), (22, ty22 o), (24, ty24 o), (25, ty25 o), (27, ty27 o)]
    fn := tab [(50, .pure (e50 o))]
    rounds := 4096, nt := 12, base := 0
    loops := [] }
noncomputable def b15 : Code := match Try.f15.body with | some b => b | none => .skip
theorem is15 (N : Nat) : FnIs Try.prog (c15 ieee N) 15 Try.f15 b15 := ⟨by kernel_rfl, by kernel_rfl, by kernel_rfl, by kernel_rfl⟩
theorem eq15 (o : FO) (N : Nat) (p0 : List (AV o)) : afun (c15 o N) Try.f15.results.toList b15 [.agg p0] [] = f15 o p0 := by kernel_rfl
theorem cok15 (N : Nat) (hN : 4096 ≤ N) : CtxOk Try.prog (c15 ieee N) := by
  refine ctxOk ?_ ?_ mixed ?_
  · intro p hp
    simp only [List.mem_cons, List.not_mem_nil, or_false] at hp
    rcases hp with rfl | rfl | rfl | rfl | rfl
    · exact tyOk2
    · exact tyOk22
    · exact tyOk24
    · exact tyOk25
    · exact tyOk27
  · intro p hp
    simp only [List.mem_cons, List.not_mem_nil, or_false] at hp
    subst hp; exact ok50 N hN
  · intro p hp; cases hp
noncomputable def k15 (o : FO) : R o → Bool := fun r => match r with | some (.agg _, _) => true | _ => false
theorem k15_c (o : FO) (b : Bool) (x y : R o) : k15 o (bif b then x else y) = bif b then k15 o x else k15 o y := by cases b <;> rfl
noncomputable def m15_ok (o : FO) (p0 : List (AV o)) : Bool := k15 o (f15 o p0)
noncomputable def g15_0 (o : FO) : R o → List (AV o) := fun r => match r with | some (.agg r0, _) => r0 | _ => []
theorem g15_0c (o : FO) (b : Bool) (x y : R o) : g15_0 o (bif b then x else y) = bif b then g15_0 o x else g15_0 o y := by cases b <;> rfl
noncomputable def m15_0 (o : FO) (p0 : List (AV o)) : List (AV o) := g15_0 o (f15 o p0)
noncomputable def m15_h (o : FO) (p0 : List (AV o)) : Heap o := match f15 o p0 with | some (_, h) => h | _ => []
theorem val15 (o : FO) (p0 : List (AV o)) (h : m15_ok o p0 = true) : f15 o p0 = some (.agg (m15_0 o p0), m15_h o p0) := by
  unfold m15_ok k15 at h
  unfold m15_0 g15_0 m15_h
  generalize f15 o p0 = r at h ⊢
  split at h
  · rfl
  · cases h

noncomputable def e15 (o : FO) : List (AV o) → Tr (AV o)
  | [.agg p0] => .br (m15_ok o p0) (.leaf (.agg (m15_0 o p0))) .fail
  | _ => .fail
theorem ok15 (N : Nat) (hN : 4096 ≤ N) : CalOk Try.prog 15 (.pure (e15 ieee)) := by
  refine calOk_pure (cok15 2000000 (by decide)) (is15 2000000) ?_
  intro args av hg
  unfold e15 at hg
  split at hg
  · obtain ⟨h0, hg⟩ := br_get hg
    cases hg
    exact ⟨rfl, rfl, _, (eq15 ieee 2000000 _).trans (val15 ieee _ h0)⟩
  · cases hg

/-! loop.example/g01224/laws.toPair -/
noncomputable def f38 (o : FO) (p0 : Int) (p1 : Int) : R o :=
  some (.agg [.int .i64 p0, .int .i64 p1], [])
noncomputable def c38 (o : FO) (N : Nat) : Cx o :=
  { ty := tab [(2, ty2 o), (58, ty58 o), (60, ty60 o)]
    fn := tab []
    rounds := 4096, nt := 11, base := 0
    loops := [] }
noncomputable def b38 : Code := match Try.f38.body with | some b => b | none => .skip
theorem is38 (N : Nat) : FnIs Try.prog (c38 ieee N) 38 Try.f38 b38 := ⟨by kernel_rfl, by kernel_rfl, by kernel_rfl, by kernel_rfl⟩
theorem eq38 (o : FO) (N : Nat) (p0 : Int) (p1 : Int) : afun (c38 o N) Try.f38.results.toList b38 [.agg [.int .i64 p0, .int .i64 p1]] [] = f38 o p0 p1 := by kernel_rfl
theorem cok38 (N : Nat) (hN : 4096 ≤ N) : CtxOk Try.prog (c38 ieee N) := by
  refine ctxOk ?_ ?_ mixed ?_
  · intro p hp
    simp only [List.mem_cons, List.not_mem_nil, or_false] at hp
    rcases hp with rfl | rfl | rfl
    · exact tyOk2
    · exact tyOk58
    · exact tyOk60
  · intro p hp; cases hp
  · intro p hp; cases hp
theorem val38 (o : FO) (p0 : Int) (p1 : Int) : f38 o p0 p1 = some (.agg [.int .i64 p0, .int .i64 p1], []) := by
  unfold f38
  rfl

noncomputable def e38 (o : FO) : List (AV o) → Tr (AV o)
  | [.agg [.int .i64 p0, .int .i64 p1]] => .leaf (.agg [.int .i64 p0, .int .i64 p1])
  | _ => .fail
theorem ok38 (N : Nat) (hN : 4096 ≤ N) : CalOk Try.prog 38 (.pure (e38 ieee)) := by
  refine calOk_pure (cok38 2000000 (by decide)) (is38 2000000) ?_
  intro args av hg
  unfold e38 at hg
  split at hg
  · cases hg
    exact ⟨rfl, rfl, _, (eq38 ieee 2000000 _ _).trans (val38 ieee _ _)⟩
  · cases hg

/-! loop.example/g01224/laws.toPairS -/
noncomputable def f42_L0 (o : FO) (N : Nat) (s0 : Nat × Nat × Int × List (AV o) × List (AV o) → R o) (a : Nat × Nat × Int × List (AV o) × List (AV o)) : R o :=
  bif decide (a.2.2.1 < ((a.1 : Nat) : Int)) then
    gd (decide (0 ≤ a.2.2.1) && decide (a.2.2.1 < ((a.1 : Nat) : Int))) (
    rdI .i64 a.2.2.2.1 (0 + (((a.2.2.1).toNat) * 2)) fun x1 =>
    rdI .i64 a.2.2.2.1 ((0 + (((a.2.2.1).toNat) * 2)) + 1) fun x2 =>
    gd (decide (0 ≤ a.2.2.1) && decide (a.2.2.1 < ((a.2.1 : Nat) : Int))) (
    wrA a.2.2.2.2 (0 + (((a.2.2.1).toNat) * 2)) 2 [.int .i64 x1, .int .i64 x2] fun c3 =>
    s0 (a.1, a.2.1, IntKind.wrap .i64 (a.2.2.1 + (1 : Int)), a.2.2.2.1, c3)))
  else
    some (.slice 1 0 a.2.1 2, [.live false true a.2.2.2.1, .live true true a.2.2.2.2])
noncomputable def f42_D0 (o : FO) (vs : List (AV o)) (h : Heap o) : Option (Nat × Nat × Int × List (AV o) × List (AV o)) :=
  match vs, h with
  | [.slice 0 0 a0_0 2, .slice 1 0 a0_1 2, .int .i64 a0_2], [.live false true a0_3, .live true true a0_4] => some (a0_0, a0_1, a0_2, a0_3, a0_4)
  | _, _ => none
noncomputable def f42_E0 (o : FO) (a : Nat × Nat × Int × List (AV o) × List (AV o)) : List (AV o) × Heap o := ([.slice 0 0 a.1 2, .slice 1 0 a.2.1 2, .int .i64 a.2.2.1], [.live false true a.2.2.2.1, .live true true a.2.2.2.2])
theorem f42_DE0 (o : FO) : ∀ vs h a, f42_D0 o vs h = some a → f42_E0 o a = (vs, h) := by
  intro vs h a hx
  unfold f42_D0 at hx
  split at hx
  · cases hx; rfl
  · cases hx
noncomputable def f42 (o : FO) (N : Nat) (p0 : Nat) (p1 : List (AV o)) : R o :=
  gd (decide (0 ≤ ((p0 : Nat) : Int)) && (decide (((p0 : Nat) : Int) = ((p0 : Nat) : Int)) && (decide (((p0 : Nat) : Int) * ((2 : Nat) : Int) ≤ 16777216) && (decide (((16 : Nat) : Int) * ((p0 : Nat) : Int) ≤ 281474976710656) && decide (((p0 : Nat) : Int) ≤ 9223372036854775807))))) (
  iter (f42_L0 o N) N (p0, (((p0 : Nat) : Int)).toNat, (0 : Int), p1, zeros [.int .i64 (0 : Int), .int .i64 (0 : Int)] ((((p0 : Nat) : Int)).toNat)))
noncomputable def c42 (o : FO) (N : Nat) : Cx o :=
  { ty := tab [(58, ty58 o), (60, ty60 o), (63, ty63 o), (67, ty67 o)]
    fn := tab [(38, .pure (e38 o))]
    rounds := N, nt := 23, base := 1
    loops := [loopD [0, 3, 4] (f42_D0 o) (f42_E0 o)] }
noncomputable def b42 : Code := match Try.f42.body with | some b => b | none => .skip
theorem is42 (N : Nat) : FnIs Try.prog (c42 ieee N) 42 Try.f42 b42 := ⟨by kernel_rfl, by kernel_rfl, by kernel_rfl, by kernel_rfl⟩
theorem eq42 (o : FO) (N : Nat) (p0 : Nat) (p1 : List (AV o)) : afun (c42 o N) Try.f42.results.toList b42 [.slice 0 0 p0 2] [.live false true p1] = f42 o N p0 p1 := by kernel_rfl
theorem cok42 (N : Nat) (hN : 4096 ≤ N) : CtxOk Try.prog (c42 ieee N) := by
  refine ctxOk ?_ ?_ mixed ?_
  · intro p hp
    simp only [List.mem_cons, List.not_mem_nil, or_false] at hp
    rcases hp with rfl | rfl | rfl | rfl
    · exact tyOk58
    · exact tyOk60
    · exact tyOk63
    · exact tyOk67
  · intro p hp
    simp only [List.mem_cons, List.not_mem_nil, or_false] at hp
    subst hp; exact ok38 N hN
  · intro p hp
    simp only [List.mem_cons, List.not_mem_nil, or_false] at hp
    subst hp; exact loopD_ok _ _ _ (f42_DE0 ieee)
noncomputable def k42 (o : FO) : R o → Bool := fun r => match r with | some (.slice 1 0 _ 2, [.live false true _, .live true true _]) => true | _ => false
theorem k42_c (o : FO) (b : Bool) (x y : R o) : k42 o (bif b then x else y) = bif b then k42 o x else k42 o y := by cases b <;> rfl
noncomputable def m42_ok (o : FO) (p0 : Nat) (p1 : List (AV o)) : Bool := k42 o (f42 o 2000000 p0 p1)
noncomputable def g42_0 (o : FO) : R o → Nat := fun r => match r with | some (.slice 1 0 r0 2, [.live false true _, .live true true _]) => r0 | _ => 0
theorem g42_0c (o : FO) (b : Bool) (x y : R o) : g42_0 o (bif b then x else y) = bif b then g42_0 o x else g42_0 o y := by cases b <;> rfl
noncomputable def m42_0 (o : FO) (p0 : Nat) (p1 : List (AV o)) : Nat := g42_0 o (f42 o 2000000 p0 p1)
noncomputable def g42_1 (o : FO) : R o → List (AV o) := fun r => match r with | some (.slice 1 0 _ 2, [.live false true r1, .live true true _]) => r1 | _ => []
theorem g42_1c (o : FO) (b : Bool) (x y : R o) : g42_1 o (bif b then x else y) = bif b then g42_1 o x else g42_1 o y := by cases b <;> rfl
noncomputable def m42_1 (o : FO) (p0 : Nat) (p1 : List (AV o)) : List (AV o) := g42_1 o (f42 o 2000000 p0 p1)
noncomputable def g42_2 (o : FO) : R o → List (AV o) := fun r => match r with | some (.slice 1 0 _ 2, [.live false true _, .live true true r2]) => r2 | _ => []
theorem g42_2c (o : FO) (b : Bool) (x y : R o) : g42_2 o (bif b then x else y) = bif b then g42_2 o x else g42_2 o y := by cases b <;> rfl
noncomputable def m42_2 (o : FO) (p0 : Nat) (p1 : List (AV o)) : List (AV o) := g42_2 o (f42 o 2000000 p0 p1)
theorem val42 (o : FO) (p0 : Nat) (p1 : List (AV o)) (h : m42_ok o p0 p1 = true) : f42 o 2000000 p0 p1 = some (.slice 1 0 (m42_0 o p0 p1) 2, [.live false true (m42_1 o p0 p1), .live true true (m42_2 o p0 p1)]) := by
  unfold m42_ok k42 at h
  unfold m42_0 g42_0 m42_1 g42_1 m42_2 g42_2
  generalize f42 o 2000000 p0 p1 = r at h ⊢
  split at h
  · rfl
  · cases h

noncomputable def e42 (o : FO) : List (AV o) → Heap o → Tr (AV o × Heap o)
  | [.slice 0 0 p0 2], [.live false true p1] => .br (m42_ok o p0 p1) (.leaf ((.slice 1 0 (m42_0 o p0 p1) 2, [.live false true (m42_1 o p0 p1), .live true true (m42_2 o p0 p1)]))) .fail
  | _, _ => .fail
theorem ok42 (N : Nat) (hN : 4096 ≤ N) : CalOk Try.prog 42 (.rw (e42 ieee)) := by
  refine calOk_rw (cok42 2000000 (by decide)) (is42 2000000) ?_
  intro args h av h2 hg
  unfold e42 at hg
  split at hg
  · obtain ⟨h0, hg⟩ := br_get hg
    cases hg
    exact (eq42 ieee 2000000 _ _).trans (val42 ieee _ _ h0)
  · cases hg

/-! loop.example/g01224/spec.l00In -/
noncomputable def f82 (o : FO) (p0 : Int) (p1 : Int) (p2 : Int) : R o :=
  bif decide (p0 ≥ p1) then
    bif decide (p0 ≤ p2) then
      some (.bool true, [])
    else
      some (.bool false, [])
  else
    some (.bool false, [])
noncomputable def c82 (o : FO) (N : Nat) : Cx o :=
  { ty := tab []
    fn := tab []
    rounds := 4096, nt := 15, base := 0
    loops := [] }
noncomputable def b82 : Code := match Try.f82.body with | some b => b | none => .skip
theorem is82 (N : Nat) : FnIs Try.prog (c82 ieee N) 82 Try.f82 b82 := ⟨by kernel_rfl, by kernel_rfl, by kernel_rfl, by kernel_rfl⟩
theorem eq82 (o : FO) (N : Nat) (p0 : Int) (p1 : Int) (p2 : Int) : afun (c82 o N) Try.f82.results.toList b82 [.int .i64 p0, .int .i64 p1, .int .i64 p2] [] = f82 o p0 p1 p2 := by kernel_rfl
theorem cok82 (N : Nat) (hN : 4096 ≤ N) : CtxOk Try.prog (c82 ieee N) := by
  refine ctxOk ?_ ?_ mixed ?_
  · intro p hp; cases hp
  · intro p hp; cases hp
  · intro p hp; cases hp
noncomputable def m82_0 (o : FO) (p0 : Int) (p1 : Int) (p2 : Int) : Bool :=
  bif decide (p0 ≥ p1) then
    decide (p0 ≤ p2)
  else
    false
theorem val82 (o : FO) (p0 : Int) (p1 : Int) (p2 : Int) : f82 o p0 p1 p2 = some (.bool (m82_0 o p0 p1 p2), []) := by
  unfold f82 m82_0
  try dsimp only
  cases (decide (p0 ≥ p1))
  · rfl
  · cases (decide (p0 ≤ p2))
    · rfl
    · rfl

noncomputable def e82 (o : FO) : List (AV o) → Tr (AV o)
  | [.int .i64 p0, .int .i64 p1, .int .i64 p2] => .leaf (.bool (m82_0 o p0 p1 p2))
  | _ => .fail
theorem ok82 (N : Nat) (hN : 4096 ≤ N) : CalOk Try.prog 82 (.pure (e82 ieee)) := by
  refine calOk_pure (cok82 2000000 (by decide)) (is82 2000000) ?_
  intro args av hg
  unfold e82 at hg
  split at hg
  · cases hg
    exact ⟨rfl, rfl, _, (eq82 ieee 2000000 _ _ _).trans (val82 ieee _ _ _)⟩
  · cases hg

/-! loop.example/g01224/spec.l03Box -/
noncomputable def f49 (o : FO) (p0 : List (AV o)) : R o :=
  rdI .i64 p0 0 fun x1 =>
  bif !(m82_0 o x1 (0 : Int) (1000000000 : Int)) then
    some (.bool false, [.live false true p0])
  else
    rdI .i64 p0 1 fun x2 =>
    bif !(m82_0 o x2 (0 : Int) (1000000000 : Int)) then
      some (.bool false, [.live false true p0])
    else
      rdI .i64 p0 2 fun x3 =>
      bif !(m82_0 o x3 (0 : Int) (1000000000 : Int)) then
        some (.bool false, [.live false true p0])
      else
        rdI .i64 p0 3 fun x4 =>
        bif !(m82_0 o x4 (0 : Int) (1000000000 : Int)) then
          some (.bool false, [.live false true p0])
        else
          rdI .i64 p0 4 fun x5 =>
          bif !(m82_0 o x5 (0 : Int) (1000000000 : Int)) then
            some (.bool false, [.live false true p0])
          else
            rdI .i64 p0 5 fun x6 =>
            bif !(m82_0 o x6 (0 : Int) (1000000000 : Int)) then
              some (.bool false, [.live false true p0])
            else
              rdI .i64 p0 6 fun x7 =>
              bif !(m82_0 o x7 (0 : Int) (1000000000 : Int)) then
                some (.bool false, [.live false true p0])
              else
                rdI .i64 p0 7 fun x8 =>
                bif !(m82_0 o x8 (0 : Int) (1000000000 : Int)) then
                  some (.bool false, [.live false true p0])
                else
                  rdI .i64 p0 8 fun x9 =>
                  bif !(m82_0 o x9 (0 : Int) (1000000000 : Int)) then
                    some (.bool false, [.live false true p0])
                  else
                    rdI .i64 p0 9 fun x10 =>
                    bif !(m82_0 o x10 (0 : Int) (1000000000 : Int)) then
                      some (.bool false, [.live false true p0])
                    else
                      rdI .i64 p0 10 fun x11 =>
                      bif !(m82_0 o x11 (0 : Int) (1000000000 : Int)) then
                        some (.bool false, [.live false true p0])
                      else
                        rdI .i64 p0 11 fun x12 =>
                        bif !(m82_0 o x12 (0 : Int) (1000000000 : Int)) then
                          some (.bool false, [.live false true p0])
                        else
                          rdI .i64 p0 12 fun x13 =>
                          bif !(m82_0 o x13 (0 : Int) (1000000000 : Int)) then
                            some (.bool false, [.live false true p0])
                          else
                            rdI .i64 p0 13 fun x14 =>
                            bif !(m82_0 o x14 (0 : Int) (1000000000 : Int)) then
                              some (.bool false, [.live false true p0])
                            else
                              rdI .i64 p0 14 fun x15 =>
                              bif !(m82_0 o x15 (0 : Int) (1000000000 : Int)) then
                                some (.bool false, [.live false true p0])
                              else
                                rdI .i64 p0 15 fun x16 =>
                                bif !(m82_0 o x16 (0 : Int) (1000000000 : Int)) then
                                  some (.bool false, [.live false true p0])
                                else
                                  rdI .i64 p0 16 fun x17 =>
                                  bif !(m82_0 o x17 (0 : Int) (1000000000 : Int)) then
                                    some (.bool false, [.live false true p0])
                                  else
                                    rdI .i64 p0 17 fun x18 =>
                                    bif !(m82_0 o x18 (0 : Int) (1000000000 : Int)) then
                                      some (.bool false, [.live false true p0])
                                    else
                                      rdI .i64 p0 18 fun x19 =>
                                      bif !(m82_0 o x19 (0 : Int) (1000000000 : Int)) then
                                        some (.bool false, [.live false true p0])
                                      else
                                        rdI .i64 p0 19 fun x20 =>
                                        bif !(m82_0 o x20 (0 : Int) (1000000000 : Int)) then
                                          some (.bool false, [.live false true p0])
                                        else
                                          rdI .i64 p0 20 fun x21 =>
                                          some (.bool (m82_0 o x21 (0 : Int) (1000000000 : Int)), [.live false true p0])
noncomputable def c49 (o : FO) (N : Nat) : Cx o :=
  { ty := tab [(2, ty2 o), (25, ty25 o), (27, ty27 o)]
    fn := tab [(82, .pure (e82 o))]
    rounds := 4096, nt := 21, base := 1
    loops := [loopU [0, 3]] }
noncomputable def b49 : Code := match Try.f49.body with | some b => b | none => .skip
theorem is49 (N : Nat) : FnIs Try.prog (c49 ieee N) 49 Try.f49 b49 := ⟨by kernel_rfl, by kernel_rfl, by kernel_rfl, by kernel_rfl⟩
theorem eq49 (o : FO) (N : Nat) (p0 : List (AV o)) : afun (c49 o N) Try.f49.results.toList b49 [.ptr 0 0] [.live false true p0] = f49 o p0 := by kernel_rfl
theorem cok49 (N : Nat) (hN : 4096 ≤ N) : CtxOk Try.prog (c49 ieee N) := by
  refine ctxOk ?_ ?_ mixed ?_
  · intro p hp
    simp only [List.mem_cons, List.not_mem_nil, or_false] at hp
    rcases hp with rfl | rfl | rfl
    · exact tyOk2
    · exact tyOk25
    · exact tyOk27
  · intro p hp
    simp only [List.mem_cons, List.not_mem_nil, or_false] at hp
    subst hp; exact ok82 N hN
  · intro p hp
    simp only [List.mem_cons, List.not_mem_nil, or_false] at hp
    subst hp; exact loopU_ok _
noncomputable def k49 (o : FO) : R o → Bool := fun r => match r with | some (.bool _, _) => true | _ => false
theorem k49_c (o : FO) (b : Bool) (x y : R o) : k49 o (bif b then x else y) = bif b then k49 o x else k49 o y := by cases b <;> rfl
noncomputable def m49_ok (o : FO) (p0 : List (AV o)) : Bool := k49 o (f49 o p0)
noncomputable def g49_0 (o : FO) : R o → Bool := fun r => match r with | some (.bool r0, _) => r0 | _ => false
theorem g49_0c (o : FO) (b : Bool) (x y : R o) : g49_0 o (bif b then x else y) = bif b then g49_0 o x else g49_0 o y := by cases b <;> rfl
noncomputable def m49_0 (o : FO) (p0 : List (AV o)) : Bool := g49_0 o (f49 o p0)
noncomputable def m49_h (o : FO) (p0 : List (AV o)) : Heap o := match f49 o p0 with | some (_, h) => h | _ => []
theorem val49 (o : FO) (p0 : List (AV o)) (h : m49_ok o p0 = true) : f49 o p0 = some (.bool (m49_0 o p0), m49_h o p0) := by
  unfold m49_ok k49 at h
  unfold m49_0 g49_0 m49_h
  generalize f49 o p0 = r at h ⊢
  split at h
  · rfl
  · cases h

noncomputable def e49 (o : FO) : List (AV o) → Heap o → Tr (AV o)
  | [.ptr 0 0], [.live _ true p0] => .br (m49_ok o p0) (.leaf (.bool (m49_0 o p0))) .fail
  | _, _ => .fail
theorem ok49 (N : Nat) (hN : 4096 ≤ N) : CalOk Try.prog 49 (.ro (e49 ieee)) := by
  refine calOk_ro (cok49 2000000 (by decide)) (is49 2000000) ?_
  intro args h av hg
  unfold e49 at hg
  split at hg
  · obtain ⟨h0, hg⟩ := br_get hg
    cases hg
    exact ⟨rfl, _, (eq49 ieee 2000000 _).trans (val49 ieee _ h0)⟩
  · cases hg

/-! loop.example/g01224/spec.l01Class -/
noncomputable def f53 (o : FO) (p0 : Int) : R o :=
  some (.bool (m82_0 o p0 (0 : Int) (19 : Int)), [])
noncomputable def c53 (o : FO) (N : Nat) : Cx o :=
  { ty := tab []
    fn := tab [(82, .pure (e82 o))]
    rounds := 4096, nt := 5, base := 0
    loops := [] }
noncomputable def b53 : Code := match Try.f53.body with | some b => b | none => .skip
theorem is53 (N : Nat) : FnIs Try.prog (c53 ieee N) 53 Try.f53 b53 := ⟨by kernel_rfl, by kernel_rfl, by kernel_rfl, by kernel_rfl⟩
theorem eq53 (o : FO) (N : Nat) (p0 : Int) : afun (c53 o N) Try.f53.results.toList b53 [.int .i64 p0] [] = f53 o p0 := by kernel_rfl
theorem cok53 (N : Nat) (hN : 4096 ≤ N) : CtxOk Try.prog (c53 ieee N) := by
  refine ctxOk ?_ ?_ mixed ?_
  · intro p hp; cases hp
  · intro p hp
    simp only [List.mem_cons, List.not_mem_nil, or_false] at hp
    subst hp; exact ok82 N hN
  · intro p hp; cases hp
noncomputable def m53_0 (o : FO) (p0 : Int) : Bool :=
  m82_0 o p0 (0 : Int) (19 : Int)
theorem val53 (o : FO) (p0 : Int) : f53 o p0 = some (.bool (m53_0 o p0), []) := by
  unfold f53 m53_0
  rfl

noncomputable def e53 (o : FO) : List (AV o) → Tr (AV o)
  | [.int .i64 p0] => .leaf (.bool (m53_0 o p0))
  | _ => .fail
theorem ok53 (N : Nat) (hN : 4096 ≤ N) : CalOk Try.prog 53 (.pure (e53 ieee)) := by
  refine calOk_pure (cok53 2000000 (by decide)) (is53 2000000) ?_
  intro args av hg
  unfold e53 at hg
  split at hg
  · cases hg
    exact ⟨rfl, rfl, _, (eq53 ieee 2000000 _).trans (val53 ieee _)⟩
  · cases hg

/-! loop.example/g01224/spec.l03Whole -/
noncomputable def f99 (o : FO) (p0 : Int) : R o :=
  bif decide ((2 : Int) ≤ p0) then
    bif decide ((4 : Int) ≤ p0) then
      bif decide ((8 : Int) ≤ p0) then
        bif decide ((16 : Int) ≤ p0) then
          bif decide ((32 : Int) ≤ p0) then
            bif decide ((64 : Int) ≤ p0) then
              bif decide ((128 : Int) ≤ p0) then
                bif decide ((256 : Int) ≤ p0) then
                  bif decide ((512 : Int) ≤ p0) then
                    bif decide ((1024 : Int) ≤ p0) then
                      bif decide ((2048 : Int) ≤ p0) then
                        bif decide ((4096 : Int) ≤ p0) then
                          bif decide ((8192 : Int) ≤ p0) then
                            bif decide ((16384 : Int) ≤ p0) then
                              bif decide ((32768 : Int) ≤ p0) then
                                bif decide ((65536 : Int) ≤ p0) then
                                  bif decide ((131072 : Int) ≤ p0) then
                                    bif decide ((262144 : Int) ≤ p0) then
                                      bif decide ((524288 : Int) ≤ p0) then
                                        some (.int .i64 (19 : Int), [])
                                      else
                                        some (.int .i64 (18 : Int), [])
                                    else
                                      some (.int .i64 (17 : Int), [])
                                  else
                                    some (.int .i64 (16 : Int), [])
                                else
                                  some (.int .i64 (15 : Int), [])
                              else
                                some (.int .i64 (14 : Int), [])
                            else
                              some (.int .i64 (13 : Int), [])
                          else
                            some (.int .i64 (12 : Int), [])
                        else
                          some (.int .i64 (11 : Int), [])
                      else
                        some (.int .i64 (10 : Int), [])
                    else
                      some (.int .i64 (9 : Int), [])
                  else
                    some (.int .i64 (8 : Int), [])
                else
                  some (.int .i64 (7 : Int), [])
              else
                some (.int .i64 (6 : Int), [])
            else
              some (.int .i64 (5 : Int), [])
          else
            some (.int .i64 (4 : Int), [])
        else
          some (.int .i64 (3 : Int), [])
      else
        some (.int .i64 (2 : Int), [])
    else
      some (.int .i64 (1 : Int), [])
  else
    some (.int .i64 (0 : Int), [])
noncomputable def c99 (o : FO) (N : Nat) : Cx o :=
  { ty := tab [(2, ty2 o), (78, ty78 o)]
    fn := tab []
    rounds := 4096, nt := 17, base := 0
    loops := [loopU [0, 3]] }
noncomputable def b99 : Code := match Try.f99.body with | some b => b | none => .skip
theorem is99 (N : Nat) : FnIs Try.prog (c99 ieee N) 99 Try.f99 b99 := ⟨by kernel_rfl, by kernel_rfl, by kernel_rfl, by kernel_rfl⟩
theorem eq99 (o : FO) (N : Nat) (p0 : Int) : afun (c99 o N) Try.f99.results.toList b99 [.int .i64 p0] [] = f99 o p0 := by kernel_rfl
theorem cok99 (N : Nat) (hN : 4096 ≤ N) : CtxOk Try.prog (c99 ieee N) := by
  refine ctxOk ?_ ?_ mixed ?_
  · intro p hp
    simp only [List.mem_cons, List.not_mem_nil, or_false] at hp
    rcases hp with rfl | rfl
    · exact tyOk2
    · exact tyOk78
  · intro p hp; cases hp
  · intro p hp
    simp only [List.mem_cons, List.not_mem_nil, or_false] at hp
    subst hp; exact loopU_ok _
noncomputable def m99_0 (o : FO) (p0 : Int) : Int :=
  bif decide ((2 : Int) ≤ p0) then
    bif decide ((4 : Int) ≤ p0) then
      bif decide ((8 : Int) ≤ p0) then
        bif decide ((16 : Int) ≤ p0) then
          bif decide ((32 : Int) ≤ p0) then
            bif decide ((64 : Int) ≤ p0) then
              bif decide ((128 : Int) ≤ p0) then
                bif decide ((256 : Int) ≤ p0) then
                  bif decide ((512 : Int) ≤ p0) then
                    bif decide ((1024 : Int) ≤ p0) then
                      bif decide ((2048 : Int) ≤ p0) then
                        bif decide ((4096 : Int) ≤ p0) then
                          bif decide ((8192 : Int) ≤ p0) then
                            bif decide ((16384 : Int) ≤ p0) then
                              bif decide ((32768 : Int) ≤ p0) then
                                bif decide ((65536 : Int) ≤ p0) then
                                  bif decide ((131072 : Int) ≤ p0) then
                                    bif decide ((262144 : Int) ≤ p0) then
                                      bif decide ((524288 : Int) ≤ p0) then
                                        (19 : Int)
                                      else
                                        (18 : Int)
                                    else
                                      (17 : Int)
                                  else
                                    (16 : Int)
                                else
                                  (15 : Int)
                              else
                                (14 : Int)
                            else
                              (13 : Int)
                          else
                            (12 : Int)
                        else
                          (11 : Int)
                      else
                        (10 : Int)
                    else
                      (9 : Int)
                  else
                    (8 : Int)
                else
                  (7 : Int)
              else
                (6 : Int)
            else
              (5 : Int)
          else
            (4 : Int)
        else
          (3 : Int)
      else
        (2 : Int)
    else
      (1 : Int)
  else
    (0 : Int)
theorem val99 (o : FO) (p0 : Int) : f99 o p0 = some (.int .i64 (m99_0 o p0), []) := by
  unfold f99 m99_0
  try dsimp only
  cases (decide ((2 : Int) ≤ p0))
  · rfl
  · cases (decide ((4 : Int) ≤ p0))
    · rfl
    · cases (decide ((8 : Int) ≤ p0))
      · rfl
      · cases (decide ((16 : Int) ≤ p0))
        · rfl
        · cases (decide ((32 : Int) ≤ p0))
          · rfl
          · cases (decide ((64 : Int) ≤ p0))
            · rfl
            · cases (decide ((128 : Int) ≤ p0))
              · rfl
              · cases (decide ((256 : Int) ≤ p0))
                · rfl
                · cases (decide ((512 : Int) ≤ p0))
                  · rfl
                  · cases (decide ((1024 : Int) ≤ p0))
                    · rfl
                    · cases (decide ((2048 : Int) ≤ p0))
                      · rfl
                      · cases (decide ((4096 : Int) ≤ p0))
                        · rfl
                        · cases (decide ((8192 : Int) ≤ p0))
                          · rfl
                          · cases (decide ((16384 : Int) ≤ p0))
                            · rfl
                            · cases (decide ((32768 : Int) ≤ p0))
                              · rfl
                              · cases (decide ((65536 : Int) ≤ p0))
                                · rfl
                                · cases (decide ((131072 : Int) ≤ p0))
                                  · rfl
                                  · cases (decide ((262144 : Int) ≤ p0))
                                    · rfl
                                    · cases (decide ((524288 : Int) ≤ p0))
                                      · rfl
                                      · rfl

noncomputable def e99 (o : FO) : List (AV o) → Tr (AV o)
  | [.int .i64 p0] => .leaf (.int .i64 (m99_0 o p0))
  | _ => .fail
theorem ok99 (N : Nat) (hN : 4096 ≤ N) : CalOk Try.prog 99 (.pure (e99 ieee)) := by
  refine calOk_pure (cok99 2000000 (by decide)) (is99 2000000) ?_
  intro args av hg
  unfold e99 at hg
  split at hg
  · cases hg
    exact ⟨rfl, rfl, _, (eq99 ieee 2000000 _).trans (val99 ieee _)⟩
  · cases hg

/-! loop.example/g01224/spec.l03Pair -/
noncomputable def f79 (o : FO) (p0 : List (AV o)) (p1 : Nat) (p2 : List (AV o)) : R o :=
  rdI .i64 p2 (p1 + 0) fun x1 =>
  bif m53_0 o x1 then
    rdI .i64 p2 (p1 + 1) fun x2 =>
    bif m53_0 o x2 then
      rdI .i64 p2 (p1 + 0) fun x3 =>
      gd (decide (0 ≤ x3) && decide (x3 < ((20 : Nat) : Int))) (
      rdI .i64 p0 (0 + (((x3).toNat) * 1)) fun x4 =>
      gd (decide (0 ≤ x3) && decide (x3 < ((20 : Nat) : Int))) (
      wr1 p0 (0 + (((x3).toNat) * 1)) (.int .i64 (IntKind.wrap .i64 (x4 - (1 : Int)))) fun c5 =>
      rdI .i64 p2 (p1 + 1) fun x6 =>
      gd (decide (0 ≤ x6) && decide (x6 < ((20 : Nat) : Int))) (
      rdI .i64 c5 (0 + (((x6).toNat) * 1)) fun x7 =>
      gd (decide (0 ≤ x6) && decide (x6 < ((20 : Nat) : Int))) (
      wr1 c5 (0 + (((x6).toNat) * 1)) (.int .i64 (IntKind.wrap .i64 (x7 - (1 : Int)))) fun c8 =>
      rdI .i64 p2 (p1 + 0) fun x9 =>
      gd (decide (0 ≤ x9) && decide (x9 < ((20 : Nat) : Int))) (
      rdI .i64 c8 (0 + (((x9).toNat) * 1)) fun x10 =>
      bif decide (x10 < (0 : Int)) then
        wrA (List.replicate 21 (.int .i64 (0 : Int))) 0 21 (List.replicate 21 (.int .i64 (0 : Int))) fun c11 =>
        rdA c11 0 21 fun c12 =>
        some (.tup [.agg c12, .int .i64 (6 : Int)], [.live false true p2])
      else
        rdI .i64 p2 (p1 + 1) fun x13 =>
        gd (decide (0 ≤ x13) && decide (x13 < ((20 : Nat) : Int))) (
        rdI .i64 c8 (0 + (((x13).toNat) * 1)) fun x14 =>
        bif decide (x14 < (0 : Int)) then
          wrA (List.replicate 21 (.int .i64 (0 : Int))) 0 21 (List.replicate 21 (.int .i64 (0 : Int))) fun c15 =>
          rdA c15 0 21 fun c16 =>
          some (.tup [.agg c16, .int .i64 (6 : Int)], [.live false true p2])
        else
          rdI .i64 p2 (p1 + 0) fun x17 =>
          gd (decide (0 ≤ (IntKind.wrap .u64 x17))) (
          let v1 : Int := IntKind.wrap .i64 ((1 : Int) * 2 ^ (min ((IntKind.wrap .u64 x17)).toNat (IntKind.bits .i64)))
          rdI .i64 p2 (p1 + 1) fun x18 =>
          gd (decide (0 ≤ (IntKind.wrap .u64 x18))) (
          let v2 : Int := IntKind.wrap .i64 ((1 : Int) * 2 ^ (min ((IntKind.wrap .u64 x18)).toNat (IntKind.bits .i64)))
          let v3 : Int := IntKind.wrap .i64 (v1 + v2)
          let v4 : Int := m99_0 o v3
          gd (decide (0 ≤ v4) && decide (v4 < ((20 : Nat) : Int))) (
          rdI .i64 c8 (0 + (((v4).toNat) * 1)) fun x19 =>
          gd (decide (0 ≤ v4) && decide (v4 < ((20 : Nat) : Int))) (
          wr1 c8 (0 + (((v4).toNat) * 1)) (.int .i64 (IntKind.wrap .i64 (x19 + (1 : Int)))) fun c20 =>
          rdI .i64 c20 20 fun x21 =>
          let v5 : Int := IntKind.wrap .u64 v4
          gd (decide (0 ≤ v5)) (
          wr1 c20 20 (.int .i64 (IntKind.wrap .i64 (x21 + (IntKind.wrap .i64 (v3 - (IntKind.wrap .i64 ((1 : Int) * 2 ^ (min (v5).toNat (IntKind.bits .i64))))))))) fun c22 =>
          gd (m49_ok o c22) (
          bif !(m49_0 o c22) then
            wrA (List.replicate 21 (.int .i64 (0 : Int))) 0 21 (List.replicate 21 (.int .i64 (0 : Int))) fun c23 =>
            rdA c23 0 21 fun c24 =>
            some (.tup [.agg c24, .int .i64 (3 : Int)], [.live false true p2])
          else
            rdA c22 0 21 fun c25 =>
            wrA (List.replicate 21 (.int .i64 (0 : Int))) 0 21 c25 fun c26 =>
            rdA c26 0 21 fun c27 =>
            some (.tup [.agg c27, .int .i64 (0 : Int)], [.live false true p2])))))))))))))
    else
      wrA (List.replicate 21 (.int .i64 (0 : Int))) 0 21 (List.replicate 21 (.int .i64 (0 : Int))) fun c28 =>
      rdA c28 0 21 fun c29 =>
      some (.tup [.agg c29, .int .i64 (2 : Int)], [.live false true p2])
  else
    wrA (List.replicate 21 (.int .i64 (0 : Int))) 0 21 (List.replicate 21 (.int .i64 (0 : Int))) fun c30 =>
    rdA c30 0 21 fun c31 =>
    some (.tup [.agg c31, .int .i64 (2 : Int)], [.live false true p2])
noncomputable def c79 (o : FO) (N : Nat) : Cx o :=
  { ty := tab [(2, ty2 o), (25, ty25 o), (27, ty27 o), (60, ty60 o), (78, ty78 o)]
    fn := tab [(49, .ro (e49 o)), (53, .pure (e53 o)), (99, .pure (e99 o))]
    rounds := 4096, nt := 97, base := 1
    loops := [] }
noncomputable def b79 : Code := match Try.f79.body with | some b => b | none => .skip
theorem is79 (N : Nat) : FnIs Try.prog (c79 ieee N) 79 Try.f79 b79 := ⟨by kernel_rfl, by kernel_rfl, by kernel_rfl, by kernel_rfl⟩
theorem eq79 (o : FO) (N : Nat) (p0 : List (AV o)) (p1 : Nat) (p2 : List (AV o)) : afun (c79 o N) Try.f79.results.toList b79 [.agg p0, .ptr 0 p1] [.live false true p2] = f79 o p0 p1 p2 := by kernel_rfl
theorem cok79 (N : Nat) (hN : 4096 ≤ N) : CtxOk Try.prog (c79 ieee N) := by
  refine ctxOk ?_ ?_ mixed ?_
  · intro p hp
    simp only [List.mem_cons, List.not_mem_nil, or_false] at hp
    rcases hp with rfl | rfl | rfl | rfl | rfl
    · exact tyOk2
    · exact tyOk25
    · exact tyOk27
    · exact tyOk60
    · exact tyOk78
  · intro p hp
    simp only [List.mem_cons, List.not_mem_nil, or_false] at hp
    rcases hp with rfl | rfl | rfl
    · exact ok49 N hN
    · exact ok53 N hN
    · exact ok99 N hN
  · intro p hp; cases hp
noncomputable def k79 (o : FO) : R o → Bool := fun r => match r with | some (.tup [.agg _, .int .i64 _], _) => true | _ => false
theorem k79_c (o : FO) (b : Bool) (x y : R o) : k79 o (bif b then x else y) = bif b then k79 o x else k79 o y := by cases b <;> rfl
noncomputable def m79_ok (o : FO) (p0 : List (AV o)) (p1 : Nat) (p2 : List (AV o)) : Bool := k79 o (f79 o p0 p1 p2)
noncomputable def g79_0 (o : FO) : R o → List (AV o) := fun r => match r with | some (.tup [.agg r0, .int .i64 _], _) => r0 | _ => []
theorem g79_0c (o : FO) (b : Bool) (x y : R o) : g79_0 o (bif b then x else y) = bif b then g79_0 o x else g79_0 o y := by cases b <;> rfl
noncomputable def m79_0 (o : FO) (p0 : List (AV o)) (p1 : Nat) (p2 : List (AV o)) : List (AV o) := g79_0 o (f79 o p0 p1 p2)
noncomputable def g79_1 (o : FO) : R o → Int := fun r => match r with | some (.tup [.agg _, .int .i64 r1], _) => r1 | _ => 0
theorem g79_1c (o : FO) (b : Bool) (x y : R o) : g79_1 o (bif b then x else y) = bif b then g79_1 o x else g79_1 o y := by cases b <;> rfl
noncomputable def m79_1 (o : FO) (p0 : List (AV o)) (p1 : Nat) (p2 : List (AV o)) : Int := g79_1 o (f79 o p0 p1 p2)
noncomputable def m79_h (o : FO) (p0 : List (AV o)) (p1 : Nat) (p2 : List (AV o)) : Heap o := match f79 o p0 p1 p2 with | some (_, h) => h | _ => []
theorem val79 (o : FO) (p0 : List (AV o)) (p1 : Nat) (p2 : List (AV o)) (h : m79_ok o p0 p1 p2 = true) : f79 o p0 p1 p2 = some (.tup [.agg (m79_0 o p0 p1 p2), .int .i64 (m79_1 o p0 p1 p2)], m79_h o p0 p1 p2) := by
  unfold m79_ok k79 at h
  unfold m79_0 g79_0 m79_1 g79_1 m79_h
  generalize f79 o p0 p1 p2 = r at h ⊢
  split at h
  · rfl
  · cases h

noncomputable def e79 (o : FO) : List (AV o) → Heap o → Tr (AV o)
  | [.agg p0, .ptr 0 p1], [.live _ true p2] => .br (m79_ok o p0 p1 p2) (.leaf (.tup [.agg (m79_0 o p0 p1 p2), .int .i64 (m79_1 o p0 p1 p2)])) .fail
  | _, _ => .fail
theorem ok79 (N : Nat) (hN : 4096 ≤ N) : CalOk Try.prog 79 (.ro (e79 ieee)) := by
  refine calOk_ro (cok79 2000000 (by decide)) (is79 2000000) ?_
  intro args h av hg
  unfold e79 at hg
  split at hg
  · obtain ⟨h0, hg⟩ := br_get hg
    cases hg
    exact ⟨rfl, _, (eq79 ieee 2000000 _ _ _).trans (val79 ieee _ _ _ h0)⟩
  · cases hg

/-! loop.example/g01224/spec.CollidePairs -/
noncomputable def f41_L0 (o : FO) (N : Nat) (s0 : Nat × Int × Int × List (AV o) × List (AV o) × List (AV o) → R o) (a : Nat × Int × Int × List (AV o) × List (AV o) × List (AV o)) : R o :=
  bif decide (a.2.2.1 < ((a.1 : Nat) : Int)) then
    rdA a.2.2.2.2.1 0 21 fun c5 =>
    gd (decide (0 ≤ a.2.2.1) && decide (a.2.2.1 < ((a.1 : Nat) : Int))) (
    gd (m79_ok o c5 (0 + (((a.2.2.1).toNat) * 2)) a.2.2.2.1) (
    wrA (List.replicate 21 (.int .i64 (0 : Int))) 0 21 (m79_0 o c5 (0 + (((a.2.2.1).toNat) * 2)) a.2.2.2.1) fun c6 =>
    bif (m79_1 o c5 (0 + (((a.2.2.1).toNat) * 2)) a.2.2.2.1) == (0 : Int) then
      rdA c6 0 21 fun c7 =>
      wrA a.2.2.2.2.1 0 21 c7 fun c8 =>
      s0 (a.1, IntKind.wrap .i64 (a.2.1 + (1 : Int)), IntKind.wrap .i64 (a.2.2.1 + (1 : Int)), a.2.2.2.1, c8, a.2.2.2.2.2)
    else
      s0 (a.1, a.2.1, IntKind.wrap .i64 (a.2.2.1 + (1 : Int)), a.2.2.2.1, a.2.2.2.2.1, a.2.2.2.2.2)))
  else
    rdA a.2.2.2.2.1 0 21 fun c9 =>
    wrA a.2.2.2.2.2 0 21 c9 fun c10 =>
    rdA c10 0 21 fun c11 =>
    some (.tup [.agg c11, .int .i64 a.2.1, .int .i64 (0 : Int)], [.live false true a.2.2.2.1])
noncomputable def f41_D0 (o : FO) (vs : List (AV o)) (h : Heap o) : Option (Nat × Int × Int × List (AV o) × List (AV o) × List (AV o)) :=
  match vs, h with
  | [.slice 0 0 a0_0 2, .ptr 1 0, .ptr 2 0, .int .i64 a0_1, .int .i64 a0_2], [.live false true a0_3, .live true true a0_4, .live true true a0_5] => some (a0_0, a0_1, a0_2, a0_3, a0_4, a0_5)
  | _, _ => none
noncomputable def f41_E0 (o : FO) (a : Nat × Int × Int × List (AV o) × List (AV o) × List (AV o)) : List (AV o) × Heap o := ([.slice 0 0 a.1 2, .ptr 1 0, .ptr 2 0, .int .i64 a.2.1, .int .i64 a.2.2.1], [.live false true a.2.2.2.1, .live true true a.2.2.2.2.1, .live true true a.2.2.2.2.2])
theorem f41_DE0 (o : FO) : ∀ vs h a, f41_D0 o vs h = some a → f41_E0 o a = (vs, h) := by
  intro vs h a hx
  unfold f41_D0 at hx
  split at hx
  · cases hx; rfl
  · cases hx
noncomputable def f41 (o : FO) (N : Nat) (p0 : List (AV o)) (p1 : Nat) (p2 : List (AV o)) : R o :=
  gd (m49_ok o p0) (
  bif !(m49_0 o p0) then
    wrA (List.replicate 21 (.int .i64 (0 : Int))) 0 21 (List.replicate 21 (.int .i64 (0 : Int))) fun c1 =>
    rdA c1 0 21 fun c2 =>
    some (.tup [.agg c2, .int .i64 (0 : Int), .int .i64 (1 : Int)], [.live false true p2])
  else
    bif decide (((p1 : Nat) : Int) > (1000 : Int)) then
      wrA (List.replicate 21 (.int .i64 (0 : Int))) 0 21 (List.replicate 21 (.int .i64 (0 : Int))) fun c3 =>
      rdA c3 0 21 fun c4 =>
      some (.tup [.agg c4, .int .i64 (0 : Int), .int .i64 (2 : Int)], [.live false true p2])
    else
      iter (f41_L0 o N) N (p1, (0 : Int), (0 : Int), p2, p0, List.replicate 21 (.int .i64 (0 : Int))))
noncomputable def c41 (o : FO) (N : Nat) : Cx o :=
  { ty := tab [(2, ty2 o), (25, ty25 o), (27, ty27 o), (60, ty60 o), (67, ty67 o)]
    fn := tab [(49, .ro (e49 o)), (79, .ro (e79 o))]
    rounds := N, nt := 39, base := 1
    loops := [loopD [1, 2, 4, 7, 8] (f41_D0 o) (f41_E0 o)] }
noncomputable def b41 : Code := match Try.f41.body with | some b => b | none => .skip
theorem is41 (N : Nat) : FnIs Try.prog (c41 ieee N) 41 Try.f41 b41 := ⟨by kernel_rfl, by kernel_rfl, by kernel_rfl, by kernel_rfl⟩
theorem eq41 (o : FO) (N : Nat) (p0 : List (AV o)) (p1 : Nat) (p2 : List (AV o)) : afun (c41 o N) Try.f41.results.toList b41 [.agg p0, .slice 0 0 p1 2] [.live false true p2] = f41 o N p0 p1 p2 := by kernel_rfl
theorem cok41 (N : Nat) (hN : 4096 ≤ N) : CtxOk Try.prog (c41 ieee N) := by
  refine ctxOk ?_ ?_ mixed ?_
  · intro p hp
    simp only [List.mem_cons, List.not_mem_nil, or_false] at hp
    rcases hp with rfl | rfl | rfl | rfl | rfl
    · exact tyOk2
    · exact tyOk25
    · exact tyOk27
    · exact tyOk60
    · exact tyOk67
  · intro p hp
    simp only [List.mem_cons, List.not_mem_nil, or_false] at hp
    rcases hp with rfl | rfl
    · exact ok49 N hN
    · exact ok79 N hN
  · intro p hp
    simp only [List.mem_cons, List.not_mem_nil, or_false] at hp
    subst hp; exact loopD_ok _ _ _ (f41_DE0 ieee)
noncomputable def k41 (o : FO) : R o → Bool := fun r => match r with | some (.tup [.agg _, .int .i64 _, .int .i64 _], _) => true | _ => false
theorem k41_c (o : FO) (b : Bool) (x y : R o) : k41 o (bif b then x else y) = bif b then k41 o x else k41 o y := by cases b <;> rfl
noncomputable def m41_ok (o : FO) (p0 : List (AV o)) (p1 : Nat) (p2 : List (AV o)) : Bool := k41 o (f41 o 2000000 p0 p1 p2)
noncomputable def g41_0 (o : FO) : R o → List (AV o) := fun r => match r with | some (.tup [.agg r0, .int .i64 _, .int .i64 _], _) => r0 | _ => []
theorem g41_0c (o : FO) (b : Bool) (x y : R o) : g41_0 o (bif b then x else y) = bif b then g41_0 o x else g41_0 o y := by cases b <;> rfl
noncomputable def m41_0 (o : FO) (p0 : List (AV o)) (p1 : Nat) (p2 : List (AV o)) : List (AV o) := g41_0 o (f41 o 2000000 p0 p1 p2)
noncomputable def g41_1 (o : FO) : R o → Int := fun r => match r with | some (.tup [.agg _, .int .i64 r1, .int .i64 _], _) => r1 | _ => 0
theorem g41_1c (o : FO) (b : Bool) (x y : R o) : g41_1 o (bif b then x else y) = bif b then g41_1 o x else g41_1 o y := by cases b <;> rfl
noncomputable def m41_1 (o : FO) (p0 : List (AV o)) (p1 : Nat) (p2 : List (AV o)) : Int := g41_1 o (f41 o 2000000 p0 p1 p2)
noncomputable def g41_2 (o : FO) : R o → Int := fun r => match r with | some (.tup [.agg _, .int .i64 _, .int .i64 r2], _) => r2 | _ => 0
theorem g41_2c (o : FO) (b : Bool) (x y : R o) : g41_2 o (bif b then x else y) = bif b then g41_2 o x else g41_2 o y := by cases b <;> rfl
noncomputable def m41_2 (o : FO) (p0 : List (AV o)) (p1 : Nat) (p2 : List (AV o)) : Int := g41_2 o (f41 o 2000000 p0 p1 p2)
noncomputable def m41_h (o : FO) (p0 : List (AV o)) (p1 : Nat) (p2 : List (AV o)) : Heap o := match f41 o 2000000 p0 p1 p2 with | some (_, h) => h | _ => []
theorem val41 (o : FO) (p0 : List (AV o)) (p1 : Nat) (p2 : List (AV o)) (h : m41_ok o p0 p1 p2 = true) : f41 o 2000000 p0 p1 p2 = some (.tup [.agg (m41_0 o p0 p1 p2), .int .i64 (m41_1 o p0 p1 p2), .int .i64 (m41_2 o p0 p1 p2)], m41_h o p0 p1 p2) := by
  unfold m41_ok k41 at h
  unfold m41_0 g41_0 m41_1 g41_1 m41_2 g41_2 m41_h
  generalize f41 o 2000000 p0 p1 p2 = r at h ⊢
  split at h
  · rfl
  · cases h

noncomputable def e41 (o : FO) : List (AV o) → Heap o → Tr (AV o)
  | [.agg p0, .slice 0 0 p1 2], [.live _ true p2] => .br (m41_ok o p0 p1 p2) (.leaf (.tup [.agg (m41_0 o p0 p1 p2), .int .i64 (m41_1 o p0 p1 p2), .int .i64 (m41_2 o p0 p1 p2)])) .fail
  | _, _ => .fail
theorem ok41 (N : Nat) (hN : 4096 ≤ N) : CalOk Try.prog 41 (.ro (e41 ieee)) := by
  refine calOk_ro (cok41 2000000 (by decide)) (is41 2000000) ?_
  intro args h av hg
  unfold e41 at hg
  split at hg
  · obtain ⟨h0, hg⟩ := br_get hg
    cases hg
    exact ⟨rfl, _, (eq41 ieee 2000000 _ _ _).trans (val41 ieee _ _ _ h0)⟩
  · cases hg

/-! loop.example/g01224/impl.within -/
noncomputable def f84 (o : FO) (p0 : Int) (p1 : Int) (p2 : Int) : R o :=
  bif decide (p0 ≥ p1) then
    bif decide (p0 ≤ p2) then
      some (.bool true, [])
    else
      some (.bool false, [])
  else
    some (.bool false, [])
noncomputable def c84 (o : FO) (N : Nat) : Cx o :=
  { ty := tab []
    fn := tab []
    rounds := 4096, nt := 15, base := 0
    loops := [] }
noncomputable def b84 : Code := match Try.f84.body with | some b => b | none => .skip
theorem is84 (N : Nat) : FnIs Try.prog (c84 ieee N) 84 Try.f84 b84 := ⟨by kernel_rfl, by kernel_rfl, by kernel_rfl, by kernel_rfl⟩
theorem eq84 (o : FO) (N : Nat) (p0 : Int) (p1 : Int) (p2 : Int) : afun (c84 o N) Try.f84.results.toList b84 [.int .i64 p0, .int .i64 p1, .int .i64 p2] [] = f84 o p0 p1 p2 := by kernel_rfl
theorem cok84 (N : Nat) (hN : 4096 ≤ N) : CtxOk Try.prog (c84 ieee N) := by
  refine ctxOk ?_ ?_ mixed ?_
  · intro p hp; cases hp
  · intro p hp; cases hp
  · intro p hp; cases hp
noncomputable def m84_0 (o : FO) (p0 : Int) (p1 : Int) (p2 : Int) : Bool :=
  bif decide (p0 ≥ p1) then
    decide (p0 ≤ p2)
  else
    false
theorem val84 (o : FO) (p0 : Int) (p1 : Int) (p2 : Int) : f84 o p0 p1 p2 = some (.bool (m84_0 o p0 p1 p2), []) := by
  unfold f84 m84_0
  try dsimp only
  cases (decide (p0 ≥ p1))
  · rfl
  · cases (decide (p0 ≤ p2))
    · rfl
    · rfl

noncomputable def e84 (o : FO) : List (AV o) → Tr (AV o)
  | [.int .i64 p0, .int .i64 p1, .int .i64 p2] => .leaf (.bool (m84_0 o p0 p1 p2))
  | _ => .fail
theorem ok84 (N : Nat) (hN : 4096 ≤ N) : CalOk Try.prog 84 (.pure (e84 ieee)) := by
  refine calOk_pure (cok84 2000000 (by decide)) (is84 2000000) ?_
  intro args av hg
  unfold e84 at hg
  split at hg
  · cases hg
    exact ⟨rfl, rfl, _, (eq84 ieee 2000000 _ _ _).trans (val84 ieee _ _ _)⟩
  · cases hg

/-! loop.example/g01224/impl.isCount -/
noncomputable def f87 (o : FO) (p0 : Int) : R o :=
  some (.bool (m84_0 o p0 (0 : Int) (1000000000 : Int)), [])
noncomputable def c87 (o : FO) (N : Nat) : Cx o :=
  { ty := tab []
    fn := tab [(84, .pure (e84 o))]
    rounds := 4096, nt := 5, base := 0
    loops := [] }
noncomputable def b87 : Code := match Try.f87.body with | some b => b | none => .skip
theorem is87 (N : Nat) : FnIs Try.prog (c87 ieee N) 87 Try.f87 b87 := ⟨by kernel_rfl, by kernel_rfl, by kernel_rfl, by kernel_rfl⟩
theorem eq87 (o : FO) (N : Nat) (p0 : Int) : afun (c87 o N) Try.f87.results.toList b87 [.int .i64 p0] [] = f87 o p0 := by kernel_rfl
theorem cok87 (N : Nat) (hN : 4096 ≤ N) : CtxOk Try.prog (c87 ieee N) := by
  refine ctxOk ?_ ?_ mixed ?_
  · intro p hp; cases hp
  · intro p hp
    simp only [List.mem_cons, List.not_mem_nil, or_false] at hp
    subst hp; exact ok84 N hN
  · intro p hp; cases hp
noncomputable def m87_0 (o : FO) (p0 : Int) : Bool :=
  m84_0 o p0 (0 : Int) (1000000000 : Int)
theorem val87 (o : FO) (p0 : Int) : f87 o p0 = some (.bool (m87_0 o p0), []) := by
  unfold f87 m87_0
  rfl

noncomputable def e87 (o : FO) : List (AV o) → Tr (AV o)
  | [.int .i64 p0] => .leaf (.bool (m87_0 o p0))
  | _ => .fail
theorem ok87 (N : Nat) (hN : 4096 ≤ N) : CalOk Try.prog 87 (.pure (e87 ieee)) := by
  refine calOk_pure (cok87 2000000 (by decide)) (is87 2000000) ?_
  intro args av hg
  unfold e87 at hg
  split at hg
  · cases hg
    exact ⟨rfl, rfl, _, (eq87 ieee 2000000 _).trans (val87 ieee _)⟩
  · cases hg

/-! loop.example/g01224/impl.ValidBox -/
noncomputable def f51 (o : FO) (p0 : List (AV o)) : R o :=
  rdA p0 0 20 fun c1 =>
  rdI .i64 c1 0 fun x2 =>
  bif !(m87_0 o x2) then
    some (.bool false, [])
  else
    rdI .i64 c1 1 fun x3 =>
    bif !(m87_0 o x3) then
      some (.bool false, [])
    else
      rdI .i64 c1 2 fun x4 =>
      bif !(m87_0 o x4) then
        some (.bool false, [])
      else
        rdI .i64 c1 3 fun x5 =>
        bif !(m87_0 o x5) then
          some (.bool false, [])
        else
          rdI .i64 c1 4 fun x6 =>
          bif !(m87_0 o x6) then
            some (.bool false, [])
          else
            rdI .i64 c1 5 fun x7 =>
            bif !(m87_0 o x7) then
              some (.bool false, [])
            else
              rdI .i64 c1 6 fun x8 =>
              bif !(m87_0 o x8) then
                some (.bool false, [])
              else
                rdI .i64 c1 7 fun x9 =>
                bif !(m87_0 o x9) then
                  some (.bool false, [])
                else
                  rdI .i64 c1 8 fun x10 =>
                  bif !(m87_0 o x10) then
                    some (.bool false, [])
                  else
                    rdI .i64 c1 9 fun x11 =>
                    bif !(m87_0 o x11) then
                      some (.bool false, [])
                    else
                      rdI .i64 c1 10 fun x12 =>
                      bif !(m87_0 o x12) then
                        some (.bool false, [])
                      else
                        rdI .i64 c1 11 fun x13 =>
                        bif !(m87_0 o x13) then
                          some (.bool false, [])
                        else
                          rdI .i64 c1 12 fun x14 =>
                          bif !(m87_0 o x14) then
                            some (.bool false, [])
                          else
                            rdI .i64 c1 13 fun x15 =>
                            bif !(m87_0 o x15) then
                              some (.bool false, [])
                            else
                              rdI .i64 c1 14 fun x16 =>
                              bif !(m87_0 o x16) then
                                some (.bool false, [])
                              else
                                rdI .i64 c1 15 fun x17 =>
                                bif !(m87_0 o x17) then
                                  some (.bool false, [])
                                else
                                  rdI .i64 c1 16 fun x18 =>
                                  bif !(m87_0 o x18) then
                                    some (.bool false, [])
                                  else
                                    rdI .i64 c1 17 fun x19 =>
                                    bif !(m87_0 o x19) then
                                      some (.bool false, [])
                                    else
                                      rdI .i64 c1 18 fun x20 =>
                                      bif !(m87_0 o x20) then
                                        some (.bool false, [])
                                      else
                                        rdI .i64 c1 19 fun x21 =>
                                        bif !(m87_0 o x21) then
                                          some (.bool false, [])
                                        else
                                          rdI .i64 p0 20 fun x22 =>
                                          some (.bool (m87_0 o x22), [])
noncomputable def c51 (o : FO) (N : Nat) : Cx o :=
  { ty := tab [(2, ty2 o), (25, ty25 o), (27, ty27 o)]
    fn := tab [(87, .pure (e87 o))]
    rounds := 4096, nt := 17, base := 0
    loops := [loopU [1, 6, 7]] }
noncomputable def b51 : Code := match Try.f51.body with | some b => b | none => .skip
theorem is51 (N : Nat) : FnIs Try.prog (c51 ieee N) 51 Try.f51 b51 := ⟨by kernel_rfl, by kernel_rfl, by kernel_rfl, by kernel_rfl⟩
theorem eq51 (o : FO) (N : Nat) (p0 : List (AV o)) : afun (c51 o N) Try.f51.results.toList b51 [.agg p0] [] = f51 o p0 := by kernel_rfl
theorem cok51 (N : Nat) (hN : 4096 ≤ N) : CtxOk Try.prog (c51 ieee N) := by
  refine ctxOk ?_ ?_ mixed ?_
  · intro p hp
    simp only [List.mem_cons, List.not_mem_nil, or_false] at hp
    rcases hp with rfl | rfl | rfl
    · exact tyOk2
    · exact tyOk25
    · exact tyOk27
  · intro p hp
    simp only [List.mem_cons, List.not_mem_nil, or_false] at hp
    subst hp; exact ok87 N hN
  · intro p hp
    simp only [List.mem_cons, List.not_mem_nil, or_false] at hp
    subst hp; exact loopU_ok _
noncomputable def k51 (o : FO) : R o → Bool := fun r => match r with | some (.bool _, _) => true | _ => false
theorem k51_c (o : FO) (b : Bool) (x y : R o) : k51 o (bif b then x else y) = bif b then k51 o x else k51 o y := by cases b <;> rfl
noncomputable def m51_ok (o : FO) (p0 : List (AV o)) : Bool := k51 o (f51 o p0)
noncomputable def g51_0 (o : FO) : R o → Bool := fun r => match r with | some (.bool r0, _) => r0 | _ => false
theorem g51_0c (o : FO) (b : Bool) (x y : R o) : g51_0 o (bif b then x else y) = bif b then g51_0 o x else g51_0 o y := by cases b <;> rfl
noncomputable def m51_0 (o : FO) (p0 : List (AV o)) : Bool := g51_0 o (f51 o p0)
noncomputable def m51_h (o : FO) (p0 : List (AV o)) : Heap o := match f51 o p0 with | some (_, h) => h | _ => []
theorem val51 (o : FO) (p0 : List (AV o)) (h : m51_ok o p0 = true) : f51 o p0 = some (.bool (m51_0 o p0), m51_h o p0) := by
  unfold m51_ok k51 at h
  unfold m51_0 g51_0 m51_h
  generalize f51 o p0 = r at h ⊢
  split at h
  · rfl
  · cases h

noncomputable def e51 (o : FO) : List (AV o) → Tr (AV o)
  | [.agg p0] => .br (m51_ok o p0) (.leaf (.bool (m51_0 o p0))) .fail
  | _ => .fail
theorem ok51 (N : Nat) (hN : 4096 ≤ N) : CalOk Try.prog 51 (.pure (e51 ieee)) := by
  refine calOk_pure (cok51 2000000 (by decide)) (is51 2000000) ?_
  intro args av hg
  unfold e51 at hg
  split at hg
  · obtain ⟨h0, hg⟩ := br_get hg
    cases hg
    exact ⟨rfl, rfl, _, (eq51 ieee 2000000 _).trans (val51 ieee _ h0)⟩
  · cases hg

/-! loop.example/g01224/impl.isClass -/
noncomputable def f55 (o : FO) (p0 : Int) : R o :=
  some (.bool (m84_0 o p0 (0 : Int) (19 : Int)), [])
noncomputable def c55 (o : FO) (N : Nat) : Cx o :=
  { ty := tab []
    fn := tab [(84, .pure (e84 o))]
    rounds := 4096, nt := 5, base := 0
    loops := [] }
noncomputable def b55 : Code := match Try.f55.body with | some b => b | none => .skip
theorem is55 (N : Nat) : FnIs Try.prog (c55 ieee N) 55 Try.f55 b55 := ⟨by kernel_rfl, by kernel_rfl, by kernel_rfl, by kernel_rfl⟩
theorem eq55 (o : FO) (N : Nat) (p0 : Int) : afun (c55 o N) Try.f55.results.toList b55 [.int .i64 p0] [] = f55 o p0 := by kernel_rfl
theorem cok55 (N : Nat) (hN : 4096 ≤ N) : CtxOk Try.prog (c55 ieee N) := by
  refine ctxOk ?_ ?_ mixed ?_
  · intro p hp; cases hp
  · intro p hp
    simp only [List.mem_cons, List.not_mem_nil, or_false] at hp
    subst hp; exact ok84 N hN
  · intro p hp; cases hp
noncomputable def m55_0 (o : FO) (p0 : Int) : Bool :=
  m84_0 o p0 (0 : Int) (19 : Int)
theorem val55 (o : FO) (p0 : Int) : f55 o p0 = some (.bool (m55_0 o p0), []) := by
  unfold f55 m55_0
  rfl

noncomputable def e55 (o : FO) : List (AV o) → Tr (AV o)
  | [.int .i64 p0] => .leaf (.bool (m55_0 o p0))
  | _ => .fail
theorem ok55 (N : Nat) (hN : 4096 ≤ N) : CalOk Try.prog 55 (.pure (e55 ieee)) := by
  refine calOk_pure (cok55 2000000 (by decide)) (is55 2000000) ?_
  intro args av hg
  unfold e55 at hg
  split at hg
  · cases hg
    exact ⟨rfl, rfl, _, (eq55 ieee 2000000 _).trans (val55 ieee _)⟩
  · cases hg

/-! (*loop.example/g01224/impl.Box).collide -/
noncomputable def f80 (o : FO) (p0 : Int) (p1 : Int) (p2 : List (AV o)) : R o :=
  bif m55_0 o p0 then
    bif m55_0 o p1 then
      rdA p2 0 21 fun c1 =>
      wrA (List.replicate 21 (.int .i64 (0 : Int))) 0 21 c1 fun c2 =>
      gd (decide (0 ≤ p0) && decide (p0 < ((20 : Nat) : Int))) (
      rdI .i64 c2 (0 + (((p0).toNat) * 1)) fun x3 =>
      gd (decide (0 ≤ p0) && decide (p0 < ((20 : Nat) : Int))) (
      wr1 c2 (0 + (((p0).toNat) * 1)) (.int .i64 (IntKind.wrap .i64 (x3 - (1 : Int)))) fun c4 =>
      gd (decide (0 ≤ p1) && decide (p1 < ((20 : Nat) : Int))) (
      rdI .i64 c4 (0 + (((p1).toNat) * 1)) fun x5 =>
      gd (decide (0 ≤ p1) && decide (p1 < ((20 : Nat) : Int))) (
      wr1 c4 (0 + (((p1).toNat) * 1)) (.int .i64 (IntKind.wrap .i64 (x5 - (1 : Int)))) fun c6 =>
      gd (decide (0 ≤ p0) && decide (p0 < ((20 : Nat) : Int))) (
      rdI .i64 c6 (0 + (((p0).toNat) * 1)) fun x7 =>
      bif decide (x7 < (0 : Int)) then
        some (.int .i64 (6 : Int), [.live true true p2])
      else
        gd (decide (0 ≤ p1) && decide (p1 < ((20 : Nat) : Int))) (
        rdI .i64 c6 (0 + (((p1).toNat) * 1)) fun x8 =>
        bif decide (x8 < (0 : Int)) then
          some (.int .i64 (6 : Int), [.live true true p2])
        else
          gd (decide (0 ≤ p0)) (
          let v1 : Int := IntKind.wrap .i64 ((1 : Int) * 2 ^ (min (p0).toNat (IntKind.bits .i64)))
          gd (decide (0 ≤ p1)) (
          let v2 : Int := IntKind.wrap .i64 ((1 : Int) * 2 ^ (min (p1).toNat (IntKind.bits .i64)))
          let v3 : Int := IntKind.wrap .i64 (v1 + v2)
          bif decide ((2 : Int) ≤ v3) then
            bif decide ((4 : Int) ≤ v3) then
              bif decide ((8 : Int) ≤ v3) then
                bif decide ((16 : Int) ≤ v3) then
                  bif decide ((32 : Int) ≤ v3) then
                    bif decide ((64 : Int) ≤ v3) then
                      bif decide ((128 : Int) ≤ v3) then
                        bif decide ((256 : Int) ≤ v3) then
                          bif decide ((512 : Int) ≤ v3) then
                            bif decide ((1024 : Int) ≤ v3) then
                              bif decide ((2048 : Int) ≤ v3) then
                                bif decide ((4096 : Int) ≤ v3) then
                                  bif decide ((8192 : Int) ≤ v3) then
                                    bif decide ((16384 : Int) ≤ v3) then
                                      bif decide ((32768 : Int) ≤ v3) then
                                        bif decide ((65536 : Int) ≤ v3) then
                                          bif decide ((131072 : Int) ≤ v3) then
                                            bif decide ((262144 : Int) ≤ v3) then
                                              bif decide ((524288 : Int) ≤ v3) then
                                                rdI .i64 c6 19 fun x9 =>
                                                wr1 c6 19 (.int .i64 (IntKind.wrap .i64 (x9 + (1 : Int)))) fun c10 =>
                                                rdI .i64 c10 20 fun x11 =>
                                                wr1 c10 20 (.int .i64 (IntKind.wrap .i64 (x11 + (IntKind.wrap .i64 (v3 - (524288 : Int)))))) fun c12 =>
                                                rdA c12 0 21 fun c13 =>
                                                gd (m51_ok o c13) (
                                                bif !(m51_0 o c13) then
                                                  some (.int .i64 (3 : Int), [.live true true p2])
                                                else
                                                  rdA c12 0 21 fun c14 =>
                                                  wrA p2 0 21 c14 fun c15 =>
                                                  some (.int .i64 (0 : Int), [.live true true c15]))
                                              else
                                                rdI .i64 c6 18 fun x16 =>
                                                wr1 c6 18 (.int .i64 (IntKind.wrap .i64 (x16 + (1 : Int)))) fun c17 =>
                                                rdI .i64 c17 20 fun x18 =>
                                                wr1 c17 20 (.int .i64 (IntKind.wrap .i64 (x18 + (IntKind.wrap .i64 (v3 - (262144 : Int)))))) fun c19 =>
                                                rdA c19 0 21 fun c20 =>
                                                gd (m51_ok o c20) (
                                                bif !(m51_0 o c20) then
                                                  some (.int .i64 (3 : Int), [.live true true p2])
                                                else
                                                  rdA c19 0 21 fun c21 =>
                                                  wrA p2 0 21 c21 fun c22 =>
                                                  some (.int .i64 (0 : Int), [.live true true c22]))
                                            else
                                              rdI .i64 c6 17 fun x23 =>
                                              wr1 c6 17 (.int .i64 (IntKind.wrap .i64 (x23 + (1 : Int)))) fun c24 =>
                                              rdI .i64 c24 20 fun x25 =>
                                              wr1 c24 20 (.int .i64 (IntKind.wrap .i64 (x25 + (IntKind.wrap .i64 (v3 - (131072 : Int)))))) fun c26 =>
                                              rdA c26 0 21 fun c27 =>
                                              gd (m51_ok o c27) (
                                              bif !(m51_0 o c27) then
                                                some (.int .i64 (3 : Int), [.live true true p2])
                                              else
                                                rdA c26 0 21 fun c28 =>
                                                wrA p2 0 21 c28 fun c29 =>
                                                some (.int .i64 (0 : Int), [.live true true c29]))
                                          else
                                            rdI .i64 c6 16 fun x30 =>
                                            wr1 c6 16 (.int .i64 (IntKind.wrap .i64 (x30 + (1 : Int)))) fun c31 =>
                                            rdI .i64 c31 20 fun x32 =>
                                            wr1 c31 20 (.int .i64 (IntKind.wrap .i64 (x32 + (IntKind.wrap .i64 (v3 - (65536 : Int)))))) fun c33 =>
                                            rdA c33 0 21 fun c34 =>
                                            gd (m51_ok o c34) (
                                            bif !(m51_0 o c34) then
                                              some (.int .i64 (3 : Int), [.live true true p2])
                                            else
                                              rdA c33 0 21 fun c35 =>
                                              wrA p2 0 21 c35 fun c36 =>
                                              some (.int .i64 (0 : Int), [.live true true c36]))
                                        else
                                          rdI .i64 c6 15 fun x37 =>
                                          wr1 c6 15 (.int .i64 (IntKind.wrap .i64 (x37 + (1 : Int)))) fun c38 =>
                                          rdI .i64 c38 20 fun x39 =>
                                          wr1 c38 20 (.int .i64 (IntKind.wrap .i64 (x39 + (IntKind.wrap .i64 (v3 - (32768 : Int)))))) fun c40 =>
                                          rdA c40 0 21 fun c41 =>
                                          gd (m51_ok o c41) (
                                          bif !(m51_0 o c41) then
                                            some (.int .i64 (3 : Int), [.live true true p2])
                                          else
                                            rdA c40 0 21 fun c42 =>
                                            wrA p2 0 21 c42 fun c43 =>
                                            some (.int .i64 (0 : Int), [.live true true c43]))
                                      else
                                        rdI .i64 c6 14 fun x44 =>
                                        wr1 c6 14 (.int .i64 (IntKind.wrap .i64 (x44 + (1 : Int)))) fun c45 =>
                                        rdI .i64 c45 20 fun x46 =>
                                        wr1 c45 20 (.int .i64 (IntKind.wrap .i64 (x46 + (IntKind.wrap .i64 (v3 - (16384 : Int)))))) fun c47 =>
                                        rdA c47 0 21 fun c48 =>
                                        gd (m51_ok o c48) (
                                        bif !(m51_0 o c48) then
                                          some (.int .i64 (3 : Int), [.live true true p2])
                                        else
                                          rdA c47 0 21 fun c49 =>
                                          wrA p2 0 21 c49 fun c50 =>
                                          some (.int .i64 (0 : Int), [.live true true c50]))
                                    else
                                      rdI .i64 c6 13 fun x51 =>
                                      wr1 c6 13 (.int .i64 (IntKind.wrap .i64 (x51 + (1 : Int)))) fun c52 =>
                                      rdI .i64 c52 20 fun x53 =>
                                      wr1 c52 20 (.int .i64 (IntKind.wrap .i64 (x53 + (IntKind.wrap .i64 (v3 - (8192 : Int)))))) fun c54 =>
                                      rdA c54 0 21 fun c55 =>
                                      gd (m51_ok o c55) (
                                      bif !(m51_0 o c55) then
                                        some (.int .i64 (3 : Int), [.live true true p2])
                                      else
                                        rdA c54 0 21 fun c56 =>
                                        wrA p2 0 21 c56 fun c57 =>
                                        some (.int .i64 (0 : Int), [.live true true c57]))
                                  else
                                    rdI .i64 c6 12 fun x58 =>
                                    wr1 c6 12 (.int .i64 (IntKind.wrap .i64 (x58 + (1 : Int)))) fun c59 =>
                                    rdI .i64 c59 20 fun x60 =>
                                    wr1 c59 20 (.int .i64 (IntKind.wrap .i64 (x60 + (IntKind.wrap .i64 (v3 - (4096 : Int)))))) fun c61 =>
                                    rdA c61 0 21 fun c62 =>
                                    gd (m51_ok o c62) (
                                    bif !(m51_0 o c62) then
                                      some (.int .i64 (3 : Int), [.live true true p2])
                                    else
                                      rdA c61 0 21 fun c63 =>
                                      wrA p2 0 21 c63 fun c64 =>
                                      some (.int .i64 (0 : Int), [.live true true c64]))
                                else
                                  rdI .i64 c6 11 fun x65 =>
                                  wr1 c6 11 (.int .i64 (IntKind.wrap .i64 (x65 + (1 : Int)))) fun c66 =>
                                  rdI .i64 c66 20 fun x67 =>
                                  wr1 c66 20 (.int .i64 (IntKind.wrap .i64 (x67 + (IntKind.wrap .i64 (v3 - (2048 : Int)))))) fun c68 =>
                                  rdA c68 0 21 fun c69 =>
                                  gd (m51_ok o c69) (
                                  bif !(m51_0 o c69) then
                                    some (.int .i64 (3 : Int), [.live true true p2])
                                  else
                                    rdA c68 0 21 fun c70 =>
                                    wrA p2 0 21 c70 fun c71 =>
                                    some (.int .i64 (0 : Int), [.live true true c71]))
                              else
                                rdI .i64 c6 10 fun x72 =>
                                wr1 c6 10 (.int .i64 (IntKind.wrap .i64 (x72 + (1 : Int)))) fun c73 =>
                                rdI .i64 c73 20 fun x74 =>
                                wr1 c73 20 (.int .i64 (IntKind.wrap .i64 (x74 + (IntKind.wrap .i64 (v3 - (1024 : Int)))))) fun c75 =>
                                rdA c75 0 21 fun c76 =>
                                gd (m51_ok o c76) (
                                bif !(m51_0 o c76) then
                                  some (.int .i64 (3 : Int), [.live true true p2])
                                else
                                  rdA c75 0 21 fun c77 =>
                                  wrA p2 0 21 c77 fun c78 =>
                                  some (.int .i64 (0 : Int), [.live true true c78]))
                            else
                              rdI .i64 c6 9 fun x79 =>
                              wr1 c6 9 (.int .i64 (IntKind.wrap .i64 (x79 + (1 : Int)))) fun c80 =>
                              rdI .i64 c80 20 fun x81 =>
                              wr1 c80 20 (.int .i64 (IntKind.wrap .i64 (x81 + (IntKind.wrap .i64 (v3 - (512 : Int)))))) fun c82 =>
                              rdA c82 0 21 fun c83 =>
                              gd (m51_ok o c83) (
                              bif !(m51_0 o c83) then
                                some (.int .i64 (3 : Int), [.live true true p2])
                              else
                                rdA c82 0 21 fun c84 =>
                                wrA p2 0 21 c84 fun c85 =>
                                some (.int .i64 (0 : Int), [.live true true c85]))
                          else
                            rdI .i64 c6 8 fun x86 =>
                            wr1 c6 8 (.int .i64 (IntKind.wrap .i64 (x86 + (1 : Int)))) fun c87 =>
                            rdI .i64 c87 20 fun x88 =>
                            wr1 c87 20 (.int .i64 (IntKind.wrap .i64 (x88 + (IntKind.wrap .i64 (v3 - (256 : Int)))))) fun c89 =>
                            rdA c89 0 21 fun c90 =>
                            gd (m51_ok o c90) (
                            bif !(m51_0 o c90) then
                              some (.int .i64 (3 : Int), [.live true true p2])
                            else
                              rdA c89 0 21 fun c91 =>
                              wrA p2 0 21 c91 fun c92 =>
                              some (.int .i64 (0 : Int), [.live true true c92]))
                        else
                          rdI .i64 c6 7 fun x93 =>
                          wr1 c6 7 (.int .i64 (IntKind.wrap .i64 (x93 + (1 : Int)))) fun c94 =>
                          rdI .i64 c94 20 fun x95 =>
                          wr1 c94 20 (.int .i64 (IntKind.wrap .i64 (x95 + (IntKind.wrap .i64 (v3 - (128 : Int)))))) fun c96 =>
                          rdA c96 0 21 fun c97 =>
                          gd (m51_ok o c97) (
                          bif !(m51_0 o c97) then
                            some (.int .i64 (3 : Int), [.live true true p2])
                          else
                            rdA c96 0 21 fun c98 =>
                            wrA p2 0 21 c98 fun c99 =>
                            some (.int .i64 (0 : Int), [.live true true c99]))
                      else
                        rdI .i64 c6 6 fun x100 =>
                        wr1 c6 6 (.int .i64 (IntKind.wrap .i64 (x100 + (1 : Int)))) fun c101 =>
                        rdI .i64 c101 20 fun x102 =>
                        wr1 c101 20 (.int .i64 (IntKind.wrap .i64 (x102 + (IntKind.wrap .i64 (v3 - (64 : Int)))))) fun c103 =>
                        rdA c103 0 21 fun c104 =>
                        gd (m51_ok o c104) (
                        bif !(m51_0 o c104) then
                          some (.int .i64 (3 : Int), [.live true true p2])
                        else
                          rdA c103 0 21 fun c105 =>
                          wrA p2 0 21 c105 fun c106 =>
                          some (.int .i64 (0 : Int), [.live true true c106]))
                    else
                      rdI .i64 c6 5 fun x107 =>
                      wr1 c6 5 (.int .i64 (IntKind.wrap .i64 (x107 + (1 : Int)))) fun c108 =>
                      rdI .i64 c108 20 fun x109 =>
                      wr1 c108 20 (.int .i64 (IntKind.wrap .i64 (x109 + (IntKind.wrap .i64 (v3 - (32 : Int)))))) fun c110 =>
                      rdA c110 0 21 fun c111 =>
                      gd (m51_ok o c111) (
                      bif !(m51_0 o c111) then
                        some (.int .i64 (3 : Int), [.live true true p2])
                      else
                        rdA c110 0 21 fun c112 =>
                        wrA p2 0 21 c112 fun c113 =>
                        some (.int .i64 (0 : Int), [.live true true c113]))
                  else
                    rdI .i64 c6 4 fun x114 =>
                    wr1 c6 4 (.int .i64 (IntKind.wrap .i64 (x114 + (1 : Int)))) fun c115 =>
                    rdI .i64 c115 20 fun x116 =>
                    wr1 c115 20 (.int .i64 (IntKind.wrap .i64 (x116 + (IntKind.wrap .i64 (v3 - (16 : Int)))))) fun c117 =>
                    rdA c117 0 21 fun c118 =>
                    gd (m51_ok o c118) (
                    bif !(m51_0 o c118) then
                      some (.int .i64 (3 : Int), [.live true true p2])
                    else
                      rdA c117 0 21 fun c119 =>
                      wrA p2 0 21 c119 fun c120 =>
                      some (.int .i64 (0 : Int), [.live true true c120]))
                else
                  rdI .i64 c6 3 fun x121 =>
                  wr1 c6 3 (.int .i64 (IntKind.wrap .i64 (x121 + (1 : Int)))) fun c122 =>
                  rdI .i64 c122 20 fun x123 =>
                  wr1 c122 20 (.int .i64 (IntKind.wrap .i64 (x123 + (IntKind.wrap .i64 (v3 - (8 : Int)))))) fun c124 =>
                  rdA c124 0 21 fun c125 =>
                  gd (m51_ok o c125) (
                  bif !(m51_0 o c125) then
                    some (.int .i64 (3 : Int), [.live true true p2])
                  else
                    rdA c124 0 21 fun c126 =>
                    wrA p2 0 21 c126 fun c127 =>
                    some (.int .i64 (0 : Int), [.live true true c127]))
              else
                rdI .i64 c6 2 fun x128 =>
                wr1 c6 2 (.int .i64 (IntKind.wrap .i64 (x128 + (1 : Int)))) fun c129 =>
                rdI .i64 c129 20 fun x130 =>
                wr1 c129 20 (.int .i64 (IntKind.wrap .i64 (x130 + (IntKind.wrap .i64 (v3 - (4 : Int)))))) fun c131 =>
                rdA c131 0 21 fun c132 =>
                gd (m51_ok o c132) (
                bif !(m51_0 o c132) then
                  some (.int .i64 (3 : Int), [.live true true p2])
                else
                  rdA c131 0 21 fun c133 =>
                  wrA p2 0 21 c133 fun c134 =>
                  some (.int .i64 (0 : Int), [.live true true c134]))
            else
              rdI .i64 c6 1 fun x135 =>
              wr1 c6 1 (.int .i64 (IntKind.wrap .i64 (x135 + (1 : Int)))) fun c136 =>
              rdI .i64 c136 20 fun x137 =>
              wr1 c136 20 (.int .i64 (IntKind.wrap .i64 (x137 + (IntKind.wrap .i64 (v3 - (2 : Int)))))) fun c138 =>
              rdA c138 0 21 fun c139 =>
              gd (m51_ok o c139) (
              bif !(m51_0 o c139) then
                some (.int .i64 (3 : Int), [.live true true p2])
              else
                rdA c138 0 21 fun c140 =>
                wrA p2 0 21 c140 fun c141 =>
                some (.int .i64 (0 : Int), [.live true true c141]))
          else
            rdI .i64 c6 0 fun x142 =>
            wr1 c6 0 (.int .i64 (IntKind.wrap .i64 (x142 + (1 : Int)))) fun c143 =>
            rdI .i64 c143 20 fun x144 =>
            wr1 c143 20 (.int .i64 (IntKind.wrap .i64 (x144 + (IntKind.wrap .i64 (v3 - (1 : Int)))))) fun c145 =>
            rdA c145 0 21 fun c146 =>
            gd (m51_ok o c146) (
            bif !(m51_0 o c146) then
              some (.int .i64 (3 : Int), [.live true true p2])
            else
              rdA c145 0 21 fun c147 =>
              wrA p2 0 21 c147 fun c148 =>
              some (.int .i64 (0 : Int), [.live true true c148]))))))))))
    else
      some (.int .i64 (2 : Int), [.live true true p2])
  else
    some (.int .i64 (2 : Int), [.live true true p2])
noncomputable def c80 (o : FO) (N : Nat) : Cx o :=
  { ty := tab [(2, ty2 o), (25, ty25 o), (27, ty27 o), (60, ty60 o)]
    fn := tab [(51, .pure (e51 o)), (55, .pure (e55 o))]
    rounds := 4096, nt := 90, base := 1
    loops := [loopU [0, 5, 6, 7]] }
noncomputable def b80 : Code := match Try.f80.body with | some b => b | none => .skip
theorem is80 (N : Nat) : FnIs Try.prog (c80 ieee N) 80 Try.f80 b80 := ⟨by kernel_rfl, by kernel_rfl, by kernel_rfl, by kernel_rfl⟩
theorem eq80 (o : FO) (N : Nat) (p0 : Int) (p1 : Int) (p2 : List (AV o)) : afun (c80 o N) Try.f80.results.toList b80 [.ptr 0 0, .agg [.int .i64 p0, .int .i64 p1]] [.live true true p2] = f80 o p0 p1 p2 := by kernel_rfl
theorem cok80 (N : Nat) (hN : 4096 ≤ N) : CtxOk Try.prog (c80 ieee N) := by
  refine ctxOk ?_ ?_ mixed ?_
  · intro p hp
    simp only [List.mem_cons, List.not_mem_nil, or_false] at hp
    rcases hp with rfl | rfl | rfl | rfl
    · exact tyOk2
    · exact tyOk25
    · exact tyOk27
    · exact tyOk60
  · intro p hp
    simp only [List.mem_cons, List.not_mem_nil, or_false] at hp
    rcases hp with rfl | rfl
    · exact ok51 N hN
    · exact ok55 N hN
  · intro p hp
    simp only [List.mem_cons, List.not_mem_nil, or_false] at hp
    subst hp; exact loopU_ok _
noncomputable def k80 (o : FO) : R o → Bool := fun r => match r with | some (.int .i64 _, [.live true true _]) => true | _ => false
theorem k80_c (o : FO) (b : Bool) (x y : R o) : k80 o (bif b then x else y) = bif b then k80 o x else k80 o y := by cases b <;> rfl
noncomputable def m80_ok (o : FO) (p0 : Int) (p1 : Int) (p2 : List (AV o)) : Bool := k80 o (f80 o p0 p1 p2)
noncomputable def g80_0 (o : FO) : R o → Int := fun r => match r with | some (.int .i64 r0, [.live true true _]) => r0 | _ => 0
theorem g80_0c (o : FO) (b : Bool) (x y : R o) : g80_0 o (bif b then x else y) = bif b then g80_0 o x else g80_0 o y := by cases b <;> rfl
noncomputable def m80_0 (o : FO) (p0 : Int) (p1 : Int) (p2 : List (AV o)) : Int := g80_0 o (f80 o p0 p1 p2)
noncomputable def g80_1 (o : FO) : R o → List (AV o) := fun r => match r with | some (.int .i64 _, [.live true true r1]) => r1 | _ => []
theorem g80_1c (o : FO) (b : Bool) (x y : R o) : g80_1 o (bif b then x else y) = bif b then g80_1 o x else g80_1 o y := by cases b <;> rfl
noncomputable def m80_1 (o : FO) (p0 : Int) (p1 : Int) (p2 : List (AV o)) : List (AV o) := g80_1 o (f80 o p0 p1 p2)
theorem val80 (o : FO) (p0 : Int) (p1 : Int) (p2 : List (AV o)) (h : m80_ok o p0 p1 p2 = true) : f80 o p0 p1 p2 = some (.int .i64 (m80_0 o p0 p1 p2), [.live true true (m80_1 o p0 p1 p2)]) := by
  unfold m80_ok k80 at h
  unfold m80_0 g80_0 m80_1 g80_1
  generalize f80 o p0 p1 p2 = r at h ⊢
  split at h
  · rfl
  · cases h

noncomputable def e80 (o : FO) : List (AV o) → Heap o → Tr (AV o × Heap o)
  | [.ptr 0 0, .agg [.int .i64 p0, .int .i64 p1]], [.live true true p2] => .br (m80_ok o p0 p1 p2) (.leaf ((.int .i64 (m80_0 o p0 p1 p2), [.live true true (m80_1 o p0 p1 p2)]))) .fail
  | _, _ => .fail
theorem ok80 (N : Nat) (hN : 4096 ≤ N) : CalOk Try.prog 80 (.rw (e80 ieee)) := by
  refine calOk_rw (cok80 2000000 (by decide)) (is80 2000000) ?_
  intro args h av h2 hg
  unfold e80 at hg
  split at hg
  · obtain ⟨h0, hg⟩ := br_get hg
    cases hg
    exact (eq80 ieee 2000000 _ _ _).trans (val80 ieee _ _ _ h0)
  · cases hg

/-! loop.example/g01224/impl.CollidePairs -/
noncomputable def f43_L0 (o : FO) (N : Nat) (s0 : Int × Nat × Int × Int × List (AV o) × List (AV o) × List (AV o) → R o) (a : Int × Nat × Int × Int × List (AV o) × List (AV o) × List (AV o)) : R o :=
  bif decide (a.2.2.2.1 < a.2.2.1) then
    gd (decide (0 ≤ a.2.2.2.1) && decide (a.2.2.2.1 < ((a.2.1 : Nat) : Int))) (
    rdI .i64 a.2.2.2.2.1 (0 + (((a.2.2.2.1).toNat) * 2)) fun x6 =>
    rdI .i64 a.2.2.2.2.1 ((0 + (((a.2.2.2.1).toNat) * 2)) + 1) fun x7 =>
    gd (m80_ok o x6 x7 a.2.2.2.2.2.1) (
    let v1 : List (AV o) := m80_1 o x6 x7 a.2.2.2.2.2.1
    bif (m80_0 o x6 x7 a.2.2.2.2.2.1) == (0 : Int) then
      s0 (IntKind.wrap .i64 (a.1 + (1 : Int)), a.2.1, a.2.2.1, IntKind.wrap .i64 (a.2.2.2.1 + (1 : Int)), a.2.2.2.2.1, v1, a.2.2.2.2.2.2)
    else
      s0 (a.1, a.2.1, a.2.2.1, IntKind.wrap .i64 (a.2.2.2.1 + (1 : Int)), a.2.2.2.2.1, v1, a.2.2.2.2.2.2)))
  else
    rdA a.2.2.2.2.2.1 0 21 fun c8 =>
    wrA a.2.2.2.2.2.2 0 21 c8 fun c9 =>
    rdA c9 0 21 fun c10 =>
    some (.tup [.agg c10, .int .i64 a.1, .int .i64 (0 : Int)], [.live false true a.2.2.2.2.1])
noncomputable def f43_D0 (o : FO) (vs : List (AV o)) (h : Heap o) : Option (Int × Nat × Int × Int × List (AV o) × List (AV o) × List (AV o)) :=
  match vs, h with
  | [.ptr 1 0, .ptr 2 0, .int .i64 a0_0, .slice 0 0 a0_1 2, .int .i64 a0_2, .int .i64 a0_3], [.live false true a0_4, .live true true a0_5, .live true true a0_6] => some (a0_0, a0_1, a0_2, a0_3, a0_4, a0_5, a0_6)
  | _, _ => none
noncomputable def f43_E0 (o : FO) (a : Int × Nat × Int × Int × List (AV o) × List (AV o) × List (AV o)) : List (AV o) × Heap o := ([.ptr 1 0, .ptr 2 0, .int .i64 a.1, .slice 0 0 a.2.1 2, .int .i64 a.2.2.1, .int .i64 a.2.2.2.1], [.live false true a.2.2.2.2.1, .live true true a.2.2.2.2.2.1, .live true true a.2.2.2.2.2.2])
theorem f43_DE0 (o : FO) : ∀ vs h a, f43_D0 o vs h = some a → f43_E0 o a = (vs, h) := by
  intro vs h a hx
  unfold f43_D0 at hx
  split at hx
  · cases hx; rfl
  · cases hx
noncomputable def f43 (o : FO) (N : Nat) (p0 : List (AV o)) (p1 : Nat) (p2 : List (AV o)) : R o :=
  rdA p0 0 21 fun c1 =>
  gd (m51_ok o c1) (
  bif !(m51_0 o c1) then
    wrA (List.replicate 21 (.int .i64 (0 : Int))) 0 21 (List.replicate 21 (.int .i64 (0 : Int))) fun c2 =>
    rdA c2 0 21 fun c3 =>
    some (.tup [.agg c3, .int .i64 (0 : Int), .int .i64 (1 : Int)], [.live false true p2])
  else
    bif decide (((p1 : Nat) : Int) > (1000 : Int)) then
      wrA (List.replicate 21 (.int .i64 (0 : Int))) 0 21 (List.replicate 21 (.int .i64 (0 : Int))) fun c4 =>
      rdA c4 0 21 fun c5 =>
      some (.tup [.agg c5, .int .i64 (0 : Int), .int .i64 (2 : Int)], [.live false true p2])
    else
      iter (f43_L0 o N) N ((0 : Int), p1, ((p1 : Nat) : Int), (0 : Int), p2, p0, List.replicate 21 (.int .i64 (0 : Int))))
noncomputable def c43 (o : FO) (N : Nat) : Cx o :=
  { ty := tab [(2, ty2 o), (25, ty25 o), (27, ty27 o), (60, ty60 o), (67, ty67 o)]
    fn := tab [(51, .pure (e51 o)), (80, .rw (e80 o))]
    rounds := N, nt := 34, base := 1
    loops := [loopD [2, 4, 7, 20, 21, 22] (f43_D0 o) (f43_E0 o)] }
noncomputable def b43 : Code := match Try.f43.body with | some b => b | none => .skip
theorem is43 (N : Nat) : FnIs Try.prog (c43 ieee N) 43 Try.f43 b43 := ⟨by kernel_rfl, by kernel_rfl, by kernel_rfl, by kernel_rfl⟩
theorem eq43 (o : FO) (N : Nat) (p0 : List (AV o)) (p1 : Nat) (p2 : List (AV o)) : afun (c43 o N) Try.f43.results.toList b43 [.agg p0, .slice 0 0 p1 2] [.live false true p2] = f43 o N p0 p1 p2 := by kernel_rfl
theorem cok43 (N : Nat) (hN : 4096 ≤ N) : CtxOk Try.prog (c43 ieee N) := by
  refine ctxOk ?_ ?_ mixed ?_
  · intro p hp
    simp only [List.mem_cons, List.not_mem_nil, or_false] at hp
    rcases hp with rfl | rfl | rfl | rfl | rfl
    · exact tyOk2
    · exact tyOk25
    · exact tyOk27
    · exact tyOk60
    · exact tyOk67
  · intro p hp
    simp only [List.mem_cons, List.not_mem_nil, or_false] at hp
    rcases hp with rfl | rfl
    · exact ok51 N hN
    · exact ok80 N hN
  · intro p hp
    simp only [List.mem_cons, List.not_mem_nil, or_false] at hp
    subst hp; exact loopD_ok _ _ _ (f43_DE0 ieee)
noncomputable def k43 (o : FO) : R o → Bool := fun r => match r with | some (.tup [.agg _, .int .i64 _, .int .i64 _], _) => true | _ => false
theorem k43_c (o : FO) (b : Bool) (x y : R o) : k43 o (bif b then x else y) = bif b then k43 o x else k43 o y := by cases b <;> rfl
noncomputable def m43_ok (o : FO) (p0 : List (AV o)) (p1 : Nat) (p2 : List (AV o)) : Bool := k43 o (f43 o 2000000 p0 p1 p2)
noncomputable def g43_0 (o : FO) : R o → List (AV o) := fun r => match r with | some (.tup [.agg r0, .int .i64 _, .int .i64 _], _) => r0 | _ => []
theorem g43_0c (o : FO) (b : Bool) (x y : R o) : g43_0 o (bif b then x else y) = bif b then g43_0 o x else g43_0 o y := by cases b <;> rfl
noncomputable def m43_0 (o : FO) (p0 : List (AV o)) (p1 : Nat) (p2 : List (AV o)) : List (AV o) := g43_0 o (f43 o 2000000 p0 p1 p2)
noncomputable def g43_1 (o : FO) : R o → Int := fun r => match r with | some (.tup [.agg _, .int .i64 r1, .int .i64 _], _) => r1 | _ => 0
theorem g43_1c (o : FO) (b : Bool) (x y : R o) : g43_1 o (bif b then x else y) = bif b then g43_1 o x else g43_1 o y := by cases b <;> rfl
noncomputable def m43_1 (o : FO) (p0 : List (AV o)) (p1 : Nat) (p2 : List (AV o)) : Int := g43_1 o (f43 o 2000000 p0 p1 p2)
noncomputable def g43_2 (o : FO) : R o → Int := fun r => match r with | some (.tup [.agg _, .int .i64 _, .int .i64 r2], _) => r2 | _ => 0
theorem g43_2c (o : FO) (b : Bool) (x y : R o) : g43_2 o (bif b then x else y) = bif b then g43_2 o x else g43_2 o y := by cases b <;> rfl
noncomputable def m43_2 (o : FO) (p0 : List (AV o)) (p1 : Nat) (p2 : List (AV o)) : Int := g43_2 o (f43 o 2000000 p0 p1 p2)
noncomputable def m43_h (o : FO) (p0 : List (AV o)) (p1 : Nat) (p2 : List (AV o)) : Heap o := match f43 o 2000000 p0 p1 p2 with | some (_, h) => h | _ => []
theorem val43 (o : FO) (p0 : List (AV o)) (p1 : Nat) (p2 : List (AV o)) (h : m43_ok o p0 p1 p2 = true) : f43 o 2000000 p0 p1 p2 = some (.tup [.agg (m43_0 o p0 p1 p2), .int .i64 (m43_1 o p0 p1 p2), .int .i64 (m43_2 o p0 p1 p2)], m43_h o p0 p1 p2) := by
  unfold m43_ok k43 at h
  unfold m43_0 g43_0 m43_1 g43_1 m43_2 g43_2 m43_h
  generalize f43 o 2000000 p0 p1 p2 = r at h ⊢
  split at h
  · rfl
  · cases h

noncomputable def e43 (o : FO) : List (AV o) → Heap o → Tr (AV o)
  | [.agg p0, .slice 0 0 p1 2], [.live _ true p2] => .br (m43_ok o p0 p1 p2) (.leaf (.tup [.agg (m43_0 o p0 p1 p2), .int .i64 (m43_1 o p0 p1 p2), .int .i64 (m43_2 o p0 p1 p2)])) .fail
  | _, _ => .fail
theorem ok43 (N : Nat) (hN : 4096 ≤ N) : CalOk Try.prog 43 (.ro (e43 ieee)) := by
  refine calOk_ro (cok43 2000000 (by decide)) (is43 2000000) ?_
  intro args h av hg
  unfold e43 at hg
  split at hg
  · obtain ⟨h0, hg⟩ := br_get hg
    cases hg
    exact ⟨rfl, _, (eq43 ieee 2000000 _ _ _).trans (val43 ieee _ _ _ h0)⟩
  · cases hg

/-! loop.example/g01224/laws.eqCounts -/
noncomputable def f52 (o : FO) (p0 : List (AV o)) (p1 : List (AV o)) : R o :=
  rdI .i64 p0 0 fun x1 =>
  rdI .i64 p1 0 fun x2 =>
  bif x1 != x2 then
    some (.bool false, [])
  else
    rdI .i64 p0 1 fun x3 =>
    rdI .i64 p1 1 fun x4 =>
    bif x3 != x4 then
      some (.bool false, [])
    else
      rdI .i64 p0 2 fun x5 =>
      rdI .i64 p1 2 fun x6 =>
      bif x5 != x6 then
        some (.bool false, [])
      else
        rdI .i64 p0 3 fun x7 =>
        rdI .i64 p1 3 fun x8 =>
        bif x7 != x8 then
          some (.bool false, [])
        else
          rdI .i64 p0 4 fun x9 =>
          rdI .i64 p1 4 fun x10 =>
          bif x9 != x10 then
            some (.bool false, [])
          else
            rdI .i64 p0 5 fun x11 =>
            rdI .i64 p1 5 fun x12 =>
            bif x11 != x12 then
              some (.bool false, [])
            else
              rdI .i64 p0 6 fun x13 =>
              rdI .i64 p1 6 fun x14 =>
              bif x13 != x14 then
                some (.bool false, [])
              else
                rdI .i64 p0 7 fun x15 =>
                rdI .i64 p1 7 fun x16 =>
                bif x15 != x16 then
                  some (.bool false, [])
                else
                  rdI .i64 p0 8 fun x17 =>
                  rdI .i64 p1 8 fun x18 =>
                  bif x17 != x18 then
                    some (.bool false, [])
                  else
                    rdI .i64 p0 9 fun x19 =>
                    rdI .i64 p1 9 fun x20 =>
                    bif x19 != x20 then
                      some (.bool false, [])
                    else
                      rdI .i64 p0 10 fun x21 =>
                      rdI .i64 p1 10 fun x22 =>
                      bif x21 != x22 then
                        some (.bool false, [])
                      else
                        rdI .i64 p0 11 fun x23 =>
                        rdI .i64 p1 11 fun x24 =>
                        bif x23 != x24 then
                          some (.bool false, [])
                        else
                          rdI .i64 p0 12 fun x25 =>
                          rdI .i64 p1 12 fun x26 =>
                          bif x25 != x26 then
                            some (.bool false, [])
                          else
                            rdI .i64 p0 13 fun x27 =>
                            rdI .i64 p1 13 fun x28 =>
                            bif x27 != x28 then
                              some (.bool false, [])
                            else
                              rdI .i64 p0 14 fun x29 =>
                              rdI .i64 p1 14 fun x30 =>
                              bif x29 != x30 then
                                some (.bool false, [])
                              else
                                rdI .i64 p0 15 fun x31 =>
                                rdI .i64 p1 15 fun x32 =>
                                bif x31 != x32 then
                                  some (.bool false, [])
                                else
                                  rdI .i64 p0 16 fun x33 =>
                                  rdI .i64 p1 16 fun x34 =>
                                  bif x33 != x34 then
                                    some (.bool false, [])
                                  else
                                    rdI .i64 p0 17 fun x35 =>
                                    rdI .i64 p1 17 fun x36 =>
                                    bif x35 != x36 then
                                      some (.bool false, [])
                                    else
                                      rdI .i64 p0 18 fun x37 =>
                                      rdI .i64 p1 18 fun x38 =>
                                      bif x37 != x38 then
                                        some (.bool false, [])
                                      else
                                        rdI .i64 p0 19 fun x39 =>
                                        rdI .i64 p1 19 fun x40 =>
                                        bif x39 != x40 then
                                          some (.bool false, [])
                                        else
                                          some (.bool true, [])
noncomputable def c52 (o : FO) (N : Nat) : Cx o :=
  { ty := tab [(2, ty2 o), (25, ty25 o)]
    fn := tab []
    rounds := 4096, nt := 17, base := 0
    loops := [loopU [2, 3, 5]] }
noncomputable def b52 : Code := match Try.f52.body with | some b => b | none => .skip
theorem is52 (N : Nat) : FnIs Try.prog (c52 ieee N) 52 Try.f52 b52 := ⟨by kernel_rfl, by kernel_rfl, by kernel_rfl, by kernel_rfl⟩
theorem eq52 (o : FO) (N : Nat) (p0 : List (AV o)) (p1 : List (AV o)) : afun (c52 o N) Try.f52.results.toList b52 [.agg p0, .agg p1] [] = f52 o p0 p1 := by kernel_rfl
theorem cok52 (N : Nat) (hN : 4096 ≤ N) : CtxOk Try.prog (c52 ieee N) := by
  refine ctxOk ?_ ?_ mixed ?_
  · intro p hp
    simp only [List.mem_cons, List.not_mem_nil, or_false] at hp
    rcases hp with rfl | rfl
    · exact tyOk2
    · exact tyOk25
  · intro p hp; cases hp
  · intro p hp
    simp only [List.mem_cons, List.not_mem_nil, or_false] at hp
    subst hp; exact loopU_ok _
noncomputable def k52 (o : FO) : R o → Bool := fun r => match r with | some (.bool _, _) => true | _ => false
theorem k52_c (o : FO) (b : Bool) (x y : R o) : k52 o (bif b then x else y) = bif b then k52 o x else k52 o y := by cases b <;> rfl
noncomputable def m52_ok (o : FO) (p0 : List (AV o)) (p1 : List (AV o)) : Bool := k52 o (f52 o p0 p1)
noncomputable def g52_0 (o : FO) : R o → Bool := fun r => match r with | some (.bool r0, _) => r0 | _ => false
theorem g52_0c (o : FO) (b : Bool) (x y : R o) : g52_0 o (bif b then x else y) = bif b then g52_0 o x else g52_0 o y := by cases b <;> rfl
noncomputable def m52_0 (o : FO) (p0 : List (AV o)) (p1 : List (AV o)) : Bool := g52_0 o (f52 o p0 p1)
noncomputable def m52_h (o : FO) (p0 : List (AV o)) (p1 : List (AV o)) : Heap o := match f52 o p0 p1 with | some (_, h) => h | _ => []
theorem val52 (o : FO) (p0 : List (AV o)) (p1 : List (AV o)) (h : m52_ok o p0 p1 = true) : f52 o p0 p1 = some (.bool (m52_0 o p0 p1), m52_h o p0 p1) := by
  unfold m52_ok k52 at h
  unfold m52_0 g52_0 m52_h
  generalize f52 o p0 p1 = r at h ⊢
  split at h
  · rfl
  · cases h

noncomputable def e52 (o : FO) : List (AV o) → Tr (AV o)
  | [.agg p0, .agg p1] => .br (m52_ok o p0 p1) (.leaf (.bool (m52_0 o p0 p1))) .fail
  | _ => .fail
theorem ok52 (N : Nat) (hN : 4096 ≤ N) : CalOk Try.prog 52 (.pure (e52 ieee)) := by
  refine calOk_pure (cok52 2000000 (by decide)) (is52 2000000) ?_
  intro args av hg
  unfold e52 at hg
  split at hg
  · obtain ⟨h0, hg⟩ := br_get hg
    cases hg
    exact ⟨rfl, rfl, _, (eq52 ieee 2000000 _ _).trans (val52 ieee _ _ h0)⟩
  · cases hg

/-! loop.example/g01224/laws.eqBox -/
noncomputable def f17 (o : FO) (p0 : List (AV o)) (p1 : List (AV o)) : R o :=
  rdA p0 0 20 fun c1 =>
  rdA p1 0 20 fun c2 =>
  gd (m52_ok o c1 c2) (
  bif !(m52_0 o c1 c2) then
    some (.bool false, [])
  else
    rdI .i64 p0 20 fun x3 =>
    rdI .i64 p1 20 fun x4 =>
    bif x3 != x4 then
      some (.bool false, [])
    else
      some (.bool true, []))
noncomputable def c17 (o : FO) (N : Nat) : Cx o :=
  { ty := tab [(2, ty2 o), (25, ty25 o), (27, ty27 o)]
    fn := tab [(52, .pure (e52 o))]
    rounds := 4096, nt := 16, base := 0
    loops := [] }
noncomputable def b17 : Code := match Try.f17.body with | some b => b | none => .skip
theorem is17 (N : Nat) : FnIs Try.prog (c17 ieee N) 17 Try.f17 b17 := ⟨by kernel_rfl, by kernel_rfl, by kernel_rfl, by kernel_rfl⟩
theorem eq17 (o : FO) (N : Nat) (p0 : List (AV o)) (p1 : List (AV o)) : afun (c17 o N) Try.f17.results.toList b17 [.agg p0, .agg p1] [] = f17 o p0 p1 := by kernel_rfl
theorem cok17 (N : Nat) (hN : 4096 ≤ N) : CtxOk Try.prog (c17 ieee N) := by
  refine ctxOk ?_ ?_ mixed ?_
  · intro p hp
    simp only [List.mem_cons, List.not_mem_nil, or_false] at hp
    rcases hp with rfl | rfl | rfl
    · exact tyOk2
    · exact tyOk25
    · exact tyOk27
  · intro p hp
    simp only [List.mem_cons, List.not_mem_nil, or_false] at hp
    subst hp; exact ok52 N hN
  · intro p hp; cases hp
noncomputable def k17 (o : FO) : R o → Bool := fun r => match r with | some (.bool _, _) => true | _ => false
theorem k17_c (o : FO) (b : Bool) (x y : R o) : k17 o (bif b then x else y) = bif b then k17 o x else k17 o y := by cases b <;> rfl
noncomputable def m17_ok (o : FO) (p0 : List (AV o)) (p1 : List (AV o)) : Bool := k17 o (f17 o p0 p1)
noncomputable def g17_0 (o : FO) : R o → Bool := fun r => match r with | some (.bool r0, _) => r0 | _ => false
theorem g17_0c (o : FO) (b : Bool) (x y : R o) : g17_0 o (bif b then x else y) = bif b then g17_0 o x else g17_0 o y := by cases b <;> rfl
noncomputable def m17_0 (o : FO) (p0 : List (AV o)) (p1 : List (AV o)) : Bool := g17_0 o (f17 o p0 p1)
noncomputable def m17_h (o : FO) (p0 : List (AV o)) (p1 : List (AV o)) : Heap o := match f17 o p0 p1 with | some (_, h) => h | _ => []
theorem val17 (o : FO) (p0 : List (AV o)) (p1 : List (AV o)) (h : m17_ok o p0 p1 = true) : f17 o p0 p1 = some (.bool (m17_0 o p0 p1), m17_h o p0 p1) := by
  unfold m17_ok k17 at h
  unfold m17_0 g17_0 m17_h
  generalize f17 o p0 p1 = r at h ⊢
  split at h
  · rfl
  · cases h

noncomputable def e17 (o : FO) : List (AV o) → Tr (AV o)
  | [.agg p0, .agg p1] => .br (m17_ok o p0 p1) (.leaf (.bool (m17_0 o p0 p1))) .fail
  | _ => .fail
theorem ok17 (N : Nat) (hN : 4096 ≤ N) : CalOk Try.prog 17 (.pure (e17 ieee)) := by
  refine calOk_pure (cok17 2000000 (by decide)) (is17 2000000) ?_
  intro args av hg
  unfold e17 at hg
  split at hg
  · obtain ⟨h0, hg⟩ := br_get hg
    cases hg
    exact ⟨rfl, rfl, _, (eq17 ieee 2000000 _ _).trans (val17 ieee _ _ h0)⟩
  · cases hg

/-! loop.example/g01224/laws.eqPair -/
noncomputable def f81 (o : FO) (p0 : Int) (p1 : Int) (p2 : Int) (p3 : Int) : R o :=
  bif p0 != p2 then
    some (.bool false, [])
  else
    bif p1 != p3 then
      some (.bool false, [])
    else
      some (.bool true, [])
noncomputable def c81 (o : FO) (N : Nat) : Cx o :=
  { ty := tab [(2, ty2 o), (60, ty60 o)]
    fn := tab []
    rounds := 4096, nt := 15, base := 0
    loops := [] }
noncomputable def b81 : Code := match Try.f81.body with | some b => b | none => .skip
theorem is81 (N : Nat) : FnIs Try.prog (c81 ieee N) 81 Try.f81 b81 := ⟨by kernel_rfl, by kernel_rfl, by kernel_rfl, by kernel_rfl⟩
theorem eq81 (o : FO) (N : Nat) (p0 : Int) (p1 : Int) (p2 : Int) (p3 : Int) : afun (c81 o N) Try.f81.results.toList b81 [.agg [.int .i64 p0, .int .i64 p1], .agg [.int .i64 p2, .int .i64 p3]] [] = f81 o p0 p1 p2 p3 := by kernel_rfl
theorem cok81 (N : Nat) (hN : 4096 ≤ N) : CtxOk Try.prog (c81 ieee N) := by
  refine ctxOk ?_ ?_ mixed ?_
  · intro p hp
    simp only [List.mem_cons, List.not_mem_nil, or_false] at hp
    rcases hp with rfl | rfl
    · exact tyOk2
    · exact tyOk60
  · intro p hp; cases hp
  · intro p hp; cases hp
noncomputable def m81_0 (o : FO) (p0 : Int) (p1 : Int) (p2 : Int) (p3 : Int) : Bool :=
  bif p0 != p2 then
    false
  else
    bif p1 != p3 then
      false
    else
      true
theorem val81 (o : FO) (p0 : Int) (p1 : Int) (p2 : Int) (p3 : Int) : f81 o p0 p1 p2 p3 = some (.bool (m81_0 o p0 p1 p2 p3), []) := by
  unfold f81 m81_0
  try dsimp only
  cases (p0 != p2)
  · cases (p1 != p3)
    · rfl
    · rfl
  · rfl

noncomputable def e81 (o : FO) : List (AV o) → Tr (AV o)
  | [.agg [.int .i64 p0, .int .i64 p1], .agg [.int .i64 p2, .int .i64 p3]] => .leaf (.bool (m81_0 o p0 p1 p2 p3))
  | _ => .fail
theorem ok81 (N : Nat) (hN : 4096 ≤ N) : CalOk Try.prog 81 (.pure (e81 ieee)) := by
  refine calOk_pure (cok81 2000000 (by decide)) (is81 2000000) ?_
  intro args av hg
  unfold e81 at hg
  split at hg
  · cases hg
    exact ⟨rfl, rfl, _, (eq81 ieee 2000000 _ _ _ _).trans (val81 ieee _ _ _ _)⟩
  · cases hg

/-! loop.example/g01224/laws.eqPairS -/
noncomputable def f44_L0 (o : FO) (N : Nat) (s0 : Nat × Nat × Int × List (AV o) × List (AV o) → R o) (a : Nat × Nat × Int × List (AV o) × List (AV o)) : R o :=
  bif decide (a.2.2.1 < ((a.1 : Nat) : Int)) then
    gd (decide (0 ≤ a.2.2.1) && decide (a.2.2.1 < ((a.1 : Nat) : Int))) (
    rdI .i64 a.2.2.2.1 (0 + (((a.2.2.1).toNat) * 2)) fun x1 =>
    rdI .i64 a.2.2.2.1 ((0 + (((a.2.2.1).toNat) * 2)) + 1) fun x2 =>
    gd (decide (0 ≤ a.2.2.1) && decide (a.2.2.1 < ((a.2.1 : Nat) : Int))) (
    rdI .i64 a.2.2.2.2 (0 + (((a.2.2.1).toNat) * 2)) fun x3 =>
    rdI .i64 a.2.2.2.2 ((0 + (((a.2.2.1).toNat) * 2)) + 1) fun x4 =>
    bif !(m81_0 o x1 x2 x3 x4) then
      some (.bool false, [.live false true a.2.2.2.1, .live false true a.2.2.2.2])
    else
      s0 (a.1, a.2.1, IntKind.wrap .i64 (a.2.2.1 + (1 : Int)), a.2.2.2.1, a.2.2.2.2)))
  else
    some (.bool true, [.live false true a.2.2.2.1, .live false true a.2.2.2.2])
noncomputable def f44_D0 (o : FO) (vs : List (AV o)) (h : Heap o) : Option (Nat × Nat × Int × List (AV o) × List (AV o)) :=
  match vs, h with
  | [.slice 0 0 a0_0 2, .slice 1 0 a0_1 2, .int .i64 a0_2], [.live false true a0_3, .live false true a0_4] => some (a0_0, a0_1, a0_2, a0_3, a0_4)
  | _, _ => none
noncomputable def f44_E0 (o : FO) (a : Nat × Nat × Int × List (AV o) × List (AV o)) : List (AV o) × Heap o := ([.slice 0 0 a.1 2, .slice 1 0 a.2.1 2, .int .i64 a.2.2.1], [.live false true a.2.2.2.1, .live false true a.2.2.2.2])
theorem f44_DE0 (o : FO) : ∀ vs h a, f44_D0 o vs h = some a → f44_E0 o a = (vs, h) := by
  intro vs h a hx
  unfold f44_D0 at hx
  split at hx
  · cases hx; rfl
  · cases hx
noncomputable def f44 (o : FO) (N : Nat) (p0 : Nat) (p1 : Nat) (p2 : List (AV o)) (p3 : List (AV o)) : R o :=
  bif ((p0 : Nat) : Int) != ((p1 : Nat) : Int) then
    some (.bool false, [.live false true p2, .live false true p3])
  else
    iter (f44_L0 o N) N (p0, p1, (0 : Int), p2, p3)
noncomputable def c44 (o : FO) (N : Nat) : Cx o :=
  { ty := tab [(60, ty60 o), (67, ty67 o)]
    fn := tab [(81, .pure (e81 o))]
    rounds := N, nt := 27, base := 2
    loops := [loopD [0, 1, 5] (f44_D0 o) (f44_E0 o)] }
noncomputable def b44 : Code := match Try.f44.body with | some b => b | none => .skip
theorem is44 (N : Nat) : FnIs Try.prog (c44 ieee N) 44 Try.f44 b44 := ⟨by kernel_rfl, by kernel_rfl, by kernel_rfl, by kernel_rfl⟩
theorem eq44 (o : FO) (N : Nat) (p0 : Nat) (p1 : Nat) (p2 : List (AV o)) (p3 : List (AV o)) : afun (c44 o N) Try.f44.results.toList b44 [.slice 0 0 p0 2, .slice 1 0 p1 2] [.live false true p2, .live false true p3] = f44 o N p0 p1 p2 p3 := by kernel_rfl
theorem cok44 (N : Nat) (hN : 4096 ≤ N) : CtxOk Try.prog (c44 ieee N) := by
  refine ctxOk ?_ ?_ mixed ?_
  · intro p hp
    simp only [List.mem_cons, List.not_mem_nil, or_false] at hp
    rcases hp with rfl | rfl
    · exact tyOk60
    · exact tyOk67
  · intro p hp
    simp only [List.mem_cons, List.not_mem_nil, or_false] at hp
    subst hp; exact ok81 N hN
  · intro p hp
    simp only [List.mem_cons, List.not_mem_nil, or_false] at hp
    subst hp; exact loopD_ok _ _ _ (f44_DE0 ieee)
noncomputable def k44 (o : FO) : R o → Bool := fun r => match r with | some (.bool _, _) => true | _ => false
theorem k44_c (o : FO) (b : Bool) (x y : R o) : k44 o (bif b then x else y) = bif b then k44 o x else k44 o y := by cases b <;> rfl
noncomputable def m44_ok (o : FO) (p0 : Nat) (p1 : Nat) (p2 : List (AV o)) (p3 : List (AV o)) : Bool := k44 o (f44 o 2000000 p0 p1 p2 p3)
noncomputable def g44_0 (o : FO) : R o → Bool := fun r => match r with | some (.bool r0, _) => r0 | _ => false
theorem g44_0c (o : FO) (b : Bool) (x y : R o) : g44_0 o (bif b then x else y) = bif b then g44_0 o x else g44_0 o y := by cases b <;> rfl
noncomputable def m44_0 (o : FO) (p0 : Nat) (p1 : Nat) (p2 : List (AV o)) (p3 : List (AV o)) : Bool := g44_0 o (f44 o 2000000 p0 p1 p2 p3)
noncomputable def m44_h (o : FO) (p0 : Nat) (p1 : Nat) (p2 : List (AV o)) (p3 : List (AV o)) : Heap o := match f44 o 2000000 p0 p1 p2 p3 with | some (_, h) => h | _ => []
theorem val44 (o : FO) (p0 : Nat) (p1 : Nat) (p2 : List (AV o)) (p3 : List (AV o)) (h : m44_ok o p0 p1 p2 p3 = true) : f44 o 2000000 p0 p1 p2 p3 = some (.bool (m44_0 o p0 p1 p2 p3), m44_h o p0 p1 p2 p3) := by
  unfold m44_ok k44 at h
  unfold m44_0 g44_0 m44_h
  generalize f44 o 2000000 p0 p1 p2 p3 = r at h ⊢
  split at h
  · rfl
  · cases h

noncomputable def e44 (o : FO) : List (AV o) → Heap o → Tr (AV o)
  | [.slice 0 0 p0 2, .slice 1 0 p1 2], [.live _ true p2, .live _ true p3] => .br (m44_ok o p0 p1 p2 p3) (.leaf (.bool (m44_0 o p0 p1 p2 p3))) .fail
  | _, _ => .fail
theorem ok44 (N : Nat) (hN : 4096 ≤ N) : CalOk Try.prog 44 (.ro (e44 ieee)) := by
  refine calOk_ro (cok44 2000000 (by decide)) (is44 2000000) ?_
  intro args h av hg
  unfold e44 at hg
  split at hg
  · obtain ⟨h0, hg⟩ := br_get hg
    cases hg
    exact ⟨rfl, _, (eq44 ieee 2000000 _ _ _ _).trans (val44 ieee _ _ _ _ h0)⟩
  · cases hg

/-! loop.example/g01224/laws.toPairS -/
noncomputable def f42a_L0 (o : FO) (N : Nat) (s0 : Nat × Nat × Int × List (AV o) × List (AV o) → R o) (a : Nat × Nat × Int × List (AV o) × List (AV o)) : R o :=
  bif decide (a.2.2.1 < ((a.1 : Nat) : Int)) then
    gd (decide (0 ≤ a.2.2.1) && decide (a.2.2.1 < ((a.1 : Nat) : Int))) (
    rdI .i64 a.2.2.2.1 (0 + (((a.2.2.1).toNat) * 2)) fun x1 =>
    rdI .i64 a.2.2.2.1 ((0 + (((a.2.2.1).toNat) * 2)) + 1) fun x2 =>
    gd (decide (0 ≤ a.2.2.1) && decide (a.2.2.1 < ((a.2.1 : Nat) : Int))) (
    wrA a.2.2.2.2 (0 + (((a.2.2.1).toNat) * 2)) 2 [.int .i64 x1, .int .i64 x2] fun c3 =>
    s0 (a.1, a.2.1, IntKind.wrap .i64 (a.2.2.1 + (1 : Int)), a.2.2.2.1, c3)))
  else
    some (.slice 1 0 a.2.1 2, [.live true true a.2.2.2.1, .live true true a.2.2.2.2])
noncomputable def f42a_D0 (o : FO) (vs : List (AV o)) (h : Heap o) : Option (Nat × Nat × Int × List (AV o) × List (AV o)) :=
  match vs, h with
  | [.slice 0 0 a0_0 2, .slice 1 0 a0_1 2, .int .i64 a0_2], [.live true true a0_3, .live true true a0_4] => some (a0_0, a0_1, a0_2, a0_3, a0_4)
  | _, _ => none
noncomputable def f42a_E0 (o : FO) (a : Nat × Nat × Int × List (AV o) × List (AV o)) : List (AV o) × Heap o := ([.slice 0 0 a.1 2, .slice 1 0 a.2.1 2, .int .i64 a.2.2.1], [.live true true a.2.2.2.1, .live true true a.2.2.2.2])
theorem f42a_DE0 (o : FO) : ∀ vs h a, f42a_D0 o vs h = some a → f42a_E0 o a = (vs, h) := by
  intro vs h a hx
  unfold f42a_D0 at hx
  split at hx
  · cases hx; rfl
  · cases hx
noncomputable def f42a (o : FO) (N : Nat) (p0 : Nat) (p1 : List (AV o)) : R o :=
  gd (decide (0 ≤ ((p0 : Nat) : Int)) && (decide (((p0 : Nat) : Int) = ((p0 : Nat) : Int)) && (decide (((p0 : Nat) : Int) * ((2 : Nat) : Int) ≤ 16777216) && (decide (((16 : Nat) : Int) * ((p0 : Nat) : Int) ≤ 281474976710656) && decide (((p0 : Nat) : Int) ≤ 9223372036854775807))))) (
  iter (f42a_L0 o N) N (p0, (((p0 : Nat) : Int)).toNat, (0 : Int), p1, zeros [.int .i64 (0 : Int), .int .i64 (0 : Int)] ((((p0 : Nat) : Int)).toNat)))
noncomputable def c42a (o : FO) (N : Nat) : Cx o :=
  { ty := tab [(58, ty58 o), (60, ty60 o), (63, ty63 o), (67, ty67 o)]
    fn := tab [(38, .pure (e38 o))]
    rounds := N, nt := 23, base := 1
    loops := [loopD [0, 3, 4] (f42a_D0 o) (f42a_E0 o)] }
theorem is42a (N : Nat) : FnIs Try.prog (c42a ieee N) 42 Try.f42 b42 := ⟨by kernel_rfl, by kernel_rfl, by kernel_rfl, by kernel_rfl⟩
theorem eq42a (o : FO) (N : Nat) (p0 : Nat) (p1 : List (AV o)) : afun (c42a o N) Try.f42.results.toList b42 [.slice 0 0 p0 2] [.live true true p1] = f42a o N p0 p1 := by kernel_rfl
theorem cok42a (N : Nat) (hN : 4096 ≤ N) : CtxOk Try.prog (c42a ieee N) := by
  refine ctxOk ?_ ?_ mixed ?_
  · intro p hp
    simp only [List.mem_cons, List.not_mem_nil, or_false] at hp
    rcases hp with rfl | rfl | rfl | rfl
    · exact tyOk58
    · exact tyOk60
    · exact tyOk63
    · exact tyOk67
  · intro p hp
    simp only [List.mem_cons, List.not_mem_nil, or_false] at hp
    subst hp; exact ok38 N hN
  · intro p hp
    simp only [List.mem_cons, List.not_mem_nil, or_false] at hp
    subst hp; exact loopD_ok _ _ _ (f42a_DE0 ieee)
noncomputable def k42a (o : FO) : R o → Bool := fun r => match r with | some (.slice 1 0 _ 2, [.live true true _, .live true true _]) => true | _ => false
theorem k42a_c (o : FO) (b : Bool) (x y : R o) : k42a o (bif b then x else y) = bif b then k42a o x else k42a o y := by cases b <;> rfl
noncomputable def m42a_ok (o : FO) (p0 : Nat) (p1 : List (AV o)) : Bool := k42a o (f42a o 2000000 p0 p1)
noncomputable def g42a_0 (o : FO) : R o → Nat := fun r => match r with | some (.slice 1 0 r0 2, [.live true true _, .live true true _]) => r0 | _ => 0
theorem g42a_0c (o : FO) (b : Bool) (x y : R o) : g42a_0 o (bif b then x else y) = bif b then g42a_0 o x else g42a_0 o y := by cases b <;> rfl
noncomputable def m42a_0 (o : FO) (p0 : Nat) (p1 : List (AV o)) : Nat := g42a_0 o (f42a o 2000000 p0 p1)
noncomputable def g42a_1 (o : FO) : R o → List (AV o) := fun r => match r with | some (.slice 1 0 _ 2, [.live true true r1, .live true true _]) => r1 | _ => []
theorem g42a_1c (o : FO) (b : Bool) (x y : R o) : g42a_1 o (bif b then x else y) = bif b then g42a_1 o x else g42a_1 o y := by cases b <;> rfl
noncomputable def m42a_1 (o : FO) (p0 : Nat) (p1 : List (AV o)) : List (AV o) := g42a_1 o (f42a o 2000000 p0 p1)
noncomputable def g42a_2 (o : FO) : R o → List (AV o) := fun r => match r with | some (.slice 1 0 _ 2, [.live true true _, .live true true r2]) => r2 | _ => []
theorem g42a_2c (o : FO) (b : Bool) (x y : R o) : g42a_2 o (bif b then x else y) = bif b then g42a_2 o x else g42a_2 o y := by cases b <;> rfl
noncomputable def m42a_2 (o : FO) (p0 : Nat) (p1 : List (AV o)) : List (AV o) := g42a_2 o (f42a o 2000000 p0 p1)
theorem val42a (o : FO) (p0 : Nat) (p1 : List (AV o)) (h : m42a_ok o p0 p1 = true) : f42a o 2000000 p0 p1 = some (.slice 1 0 (m42a_0 o p0 p1) 2, [.live true true (m42a_1 o p0 p1), .live true true (m42a_2 o p0 p1)]) := by
  unfold m42a_ok k42a at h
  unfold m42a_0 g42a_0 m42a_1 g42a_1 m42a_2 g42a_2
  generalize f42a o 2000000 p0 p1 = r at h ⊢
  split at h
  · rfl
  · cases h

noncomputable def e42as (o : FO) : List (AV o) → Heap o → Tr (AV o × Heap o)
  | [.slice 0 0 p0 2], [.live true true p1] => .br (m42a_ok o p0 p1) (.leaf ((.slice 1 0 (m42a_0 o p0 p1) 2, [.live true true (m42a_1 o p0 p1), .live true true (m42a_2 o p0 p1)]))) .fail
  | _, _ => .fail
theorem ok42as (N : Nat) (hN : 4096 ≤ N) : CalOk Try.prog 42 (.rw (e42as ieee)) := by
  refine calOk_rw (cok42a 2000000 (by decide)) (is42a 2000000) ?_
  intro args h av h2 hg
  unfold e42as at hg
  split at hg
  · obtain ⟨h0, hg⟩ := br_get hg
    cases hg
    exact (eq42a ieee 2000000 _ _).trans (val42a ieee _ _ h0)
  · cases hg
noncomputable def e42s (o : FO) : List (AV o) → Heap o → Tr (AV o × Heap o)
  | [.slice 0 0 p0 2], [.live false true p1] => .br (m42_ok o p0 p1) (.leaf ((.slice 1 0 (m42_0 o p0 p1) 2, [.live false true (m42_1 o p0 p1), .live true true (m42_2 o p0 p1)]))) .fail
  | _, _ => .fail
theorem ok42s (N : Nat) (hN : 4096 ≤ N) : CalOk Try.prog 42 (.rw (e42s ieee)) := by
  refine calOk_rw (cok42 2000000 (by decide)) (is42 2000000) ?_
  intro args h av h2 hg
  unfold e42s at hg
  split at hg
  · obtain ⟨h0, hg⟩ := br_get hg
    cases hg
    exact (eq42 ieee 2000000 _ _).trans (val42 ieee _ _ h0)
  · cases hg
noncomputable def e42v1 (o : FO) : List (AV o) → Heap o → Tr (AV o × Heap o)
  | [.slice 0 0 p0 2], [.live false true p1] => .br (m42_ok o p0 p1) (.leaf ((.slice 1 0 (m42_0 o p0 p1) 2, [.live false true (m42_1 o p0 p1), .live true true (m42_2 o p0 p1)]))) .fail
  | [.slice 0 0 p0 2], [.live true true p1] => .br (m42a_ok o p0 p1) (.leaf ((.slice 1 0 (m42a_0 o p0 p1) 2, [.live true true (m42a_1 o p0 p1), .live true true (m42a_2 o p0 p1)]))) .fail
  | _, _ => .fail
theorem ok42v1 (N : Nat) (hN : 4096 ≤ N) : CalOk Try.prog 42 (.rw (e42v1 ieee)) := by
  intro args h av h2 hg
  unfold e42v1 at hg
  split at hg
  · exact ok42s N hN _ _ av h2 hg
  · exact ok42as N hN _ _ av h2 hg
  · cases hg

/-! loop.example/g01224/laws.FnExactCollidePairs -/
noncomputable def f12 (o : FO) (p0 : List (AV o)) (p1 : Nat) (p2 : List (AV o)) : R o :=
  bif decide ((m40_0 o p1 (1048576 : Int) p2) < (0 : Int)) then
    some (.bool true, [.live false true p2])
  else
    rdA p0 0 21 fun c1 =>
    gd (m15_ok o c1) (
    gd (m42_ok o p1 p2) (
    gd (m41_ok o (m15_0 o c1) (m42_0 o p1 p2) (m42_2 o p1 p2)) (
    wrA (List.replicate 21 (.int .i64 (0 : Int))) 0 21 (m41_0 o (m15_0 o c1) (m42_0 o p1 p2) (m42_2 o p1 p2)) fun c2 =>
    gd (m42_ok o p1 (m42_1 o p1 p2)) (
    let v1 : List (AV o) := m42_2 o p1 (m42_1 o p1 p2)
    let v2 : List (AV o) := m42_1 o p1 (m42_1 o p1 p2)
    let v3 : Nat := m42_0 o p1 (m42_1 o p1 p2)
    rdA p0 0 21 fun c3 =>
    gd (m15_ok o c3) (
    gd (m43_ok o (m15_0 o c3) v3 v1) (
    wrA (List.replicate 21 (.int .i64 (0 : Int))) 0 21 (m43_0 o (m15_0 o c3) v3 v1) fun c4 =>
    rdA c4 0 21 fun c5 =>
    rdA c2 0 21 fun c6 =>
    gd (m17_ok o c5 c6) (
    bif m17_0 o c5 c6 then
      bif (m43_1 o (m15_0 o c3) v3 v1) != (m41_1 o (m15_0 o c1) (m42_0 o p1 p2) (m42_2 o p1 p2)) then
        some (.bool false, [.live false true v2])
      else
        bif (m43_2 o (m15_0 o c3) v3 v1) != (m41_2 o (m15_0 o c1) (m42_0 o p1 p2) (m42_2 o p1 p2)) then
          some (.bool false, [.live false true v2])
        else
          gd (m42_ok o p1 v2) (
          let v4 : List (AV o) := m42_2 o p1 v2
          let v5 : List (AV o) := m42_1 o p1 v2
          let v6 : Nat := m42_0 o p1 v2
          gd (m44_ok o v3 v6 v1 v4) (
          bif !(m44_0 o v3 v6 v1 v4) then
            some (.bool false, [.live false true v5])
          else
            some (.bool true, [.live false true v5])))
    else
      some (.bool false, [.live false true v2]))))))))
noncomputable def c12 (o : FO) (N : Nat) : Cx o :=
  { ty := tab [(24, ty24 o), (27, ty27 o)]
    fn := tab [(15, .pure (e15 o)), (17, .pure (e17 o)), (40, .ro (e40 o)), (41, .ro (e41 o)), (42, .rw (e42v1 o)), (43, .ro (e43 o)), (44, .ro (e44 o))]
    rounds := 4096, nt := 56, base := 1
    loops := [] }
noncomputable def b12 : Code := match Try.f12.body with | some b => b | none => .skip
theorem is12 (N : Nat) : FnIs Try.prog (c12 ieee N) 12 Try.f12 b12 := ⟨by kernel_rfl, by kernel_rfl, by kernel_rfl, by kernel_rfl⟩
theorem eq12 (o : FO) (N : Nat) (p0 : List (AV o)) (p1 : Nat) (p2 : List (AV o)) : afun (c12 o N) Try.f12.results.toList b12 [.agg p0, .slice 0 0 p1 2] [.live false true p2] = f12 o p0 p1 p2 := by kernel_rfl
theorem cok12 (N : Nat) (hN : 4096 ≤ N) : CtxOk Try.prog (c12 ieee N) := by
  refine ctxOk ?_ ?_ mixed ?_
  · intro p hp
    simp only [List.mem_cons, List.not_mem_nil, or_false] at hp
    rcases hp with rfl | rfl
    · exact tyOk24
    · exact tyOk27
  · intro p hp
    simp only [List.mem_cons, List.not_mem_nil, or_false] at hp
    rcases hp with rfl | rfl | rfl | rfl | rfl | rfl | rfl
    · exact ok15 N hN
    · exact ok17 N hN
    · exact ok40 N hN
    · exact ok41 N hN
    · exact ok42v1 N hN
    · exact ok43 N hN
    · exact ok44 N hN
  · intro p hp; cases hp
noncomputable def k12 (o : FO) : R o → Bool := fun r => match r with | some (.bool _, _) => true | _ => false
theorem k12_c (o : FO) (b : Bool) (x y : R o) : k12 o (bif b then x else y) = bif b then k12 o x else k12 o y := by cases b <;> rfl
noncomputable def m12_ok (o : FO) (p0 : List (AV o)) (p1 : Nat) (p2 : List (AV o)) : Bool := k12 o (f12 o p0 p1 p2)
noncomputable def g12_0 (o : FO) : R o → Bool := fun r => match r with | some (.bool r0, _) => r0 | _ => false
theorem g12_0c (o : FO) (b : Bool) (x y : R o) : g12_0 o (bif b then x else y) = bif b then g12_0 o x else g12_0 o y := by cases b <;> rfl
noncomputable def m12_0 (o : FO) (p0 : List (AV o)) (p1 : Nat) (p2 : List (AV o)) : Bool := g12_0 o (f12 o p0 p1 p2)
noncomputable def m12_h (o : FO) (p0 : List (AV o)) (p1 : Nat) (p2 : List (AV o)) : Heap o := match f12 o p0 p1 p2 with | some (_, h) => h | _ => []
theorem val12 (o : FO) (p0 : List (AV o)) (p1 : Nat) (p2 : List (AV o)) (h : m12_ok o p0 p1 p2 = true) : f12 o p0 p1 p2 = some (.bool (m12_0 o p0 p1 p2), m12_h o p0 p1 p2) := by
  unfold m12_ok k12 at h
  unfold m12_0 g12_0 m12_h
  generalize f12 o p0 p1 p2 = r at h ⊢
  split at h
  · rfl
  · cases h

noncomputable def e12 (o : FO) : List (AV o) → Heap o → Tr (AV o)
  | [.agg p0, .slice 0 0 p1 2], [.live _ true p2] => .br (m12_ok o p0 p1 p2) (.leaf (.bool (m12_0 o p0 p1 p2))) .fail
  | _, _ => .fail
theorem ok12 (N : Nat) (hN : 4096 ≤ N) : CalOk Try.prog 12 (.ro (e12 ieee)) := by
  refine calOk_ro (cok12 2000000 (by decide)) (is12 2000000) ?_
  intro args h av hg
  unfold e12 at hg
  split at hg
  · obtain ⟨h0, hg⟩ := br_get hg
    cases hg
    exact ⟨rfl, _, (eq12 ieee 2000000 _ _ _).trans (val12 ieee _ _ _ h0)⟩
  · cases hg

/-! loop.example/g01224/laws.szPairS -/
noncomputable def f40a (o : FO) (p0 : Int) : R o :=
  let v1 : Int := IntKind.wrap .i64 (p0 - (0 : Int))
  bif decide (v1 < (0 : Int)) then
    some (.int .i64 (-1 : Int), [])
  else
    some (.int .i64 v1, [])
noncomputable def c40a (o : FO) (N : Nat) : Cx o :=
  { ty := tab [(63, ty63 o)]
    fn := tab []
    rounds := 4096, nt := 12, base := 0
    loops := [] }
theorem is40a (N : Nat) : FnIs Try.prog (c40a ieee N) 40 Try.f40 b40 := ⟨by kernel_rfl, by kernel_rfl, by kernel_rfl, by kernel_rfl⟩
theorem eq40a (o : FO) (N : Nat) (p0 : Int) : afun (c40a o N) Try.f40.results.toList b40 [.nilslice, .int .i64 p0] [] = f40a o p0 := by kernel_rfl
theorem cok40a (N : Nat) (hN : 4096 ≤ N) : CtxOk Try.prog (c40a ieee N) := by
  refine ctxOk ?_ ?_ mixed ?_
  · intro p hp
    simp only [List.mem_cons, List.not_mem_nil, or_false] at hp
    subst hp; exact tyOk63
  · intro p hp; cases hp
  · intro p hp; cases hp
noncomputable def m40a_0 (o : FO) (p0 : Int) : Int :=
  let v1 : Int := IntKind.wrap .i64 (p0 - (0 : Int))
  bif decide (v1 < (0 : Int)) then
    (-1 : Int)
  else
    v1
theorem val40a (o : FO) (p0 : Int) : f40a o p0 = some (.int .i64 (m40a_0 o p0), []) := by
  unfold f40a m40a_0
  try dsimp only
  cases (decide ((IntKind.wrap .i64 (p0 - (0 : Int))) < (0 : Int)))
  · rfl
  · rfl

noncomputable def e40as (o : FO) : List (AV o) → Heap o → Tr (AV o)
  | [.nilslice, .int .i64 p0], [] => .leaf (.int .i64 (m40a_0 o p0))
  | _, _ => .fail
theorem ok40as (N : Nat) (hN : 4096 ≤ N) : CalOk Try.prog 40 (.ro (e40as ieee)) := by
  refine calOk_ro (cok40a 2000000 (by decide)) (is40a 2000000) ?_
  intro args h av hg
  unfold e40as at hg
  split at hg
  · cases hg
    exact ⟨rfl, _, (eq40a ieee 2000000 _).trans (val40a ieee _)⟩
  · cases hg
noncomputable def e40s (o : FO) : List (AV o) → Heap o → Tr (AV o)
  | [.slice 0 0 p0 2, .int .i64 p1], [.live _ true p2] => .leaf (.int .i64 (m40_0 o p0 p1 p2))
  | _, _ => .fail
theorem ok40s (N : Nat) (hN : 4096 ≤ N) : CalOk Try.prog 40 (.ro (e40s ieee)) := by
  refine calOk_ro (cok40 2000000 (by decide)) (is40 2000000) ?_
  intro args h av hg
  unfold e40s at hg
  split at hg
  · cases hg
    exact ⟨rfl, _, (eq40 ieee 2000000 _ _ _).trans (val40 ieee _ _ _)⟩
  · cases hg
noncomputable def e40v1 (o : FO) : List (AV o) → Heap o → Tr (AV o)
  | [.slice 0 0 p0 2, .int .i64 p1], [.live _ true p2] => .leaf (.int .i64 (m40_0 o p0 p1 p2))
  | [.nilslice, .int .i64 p0], [] => .leaf (.int .i64 (m40a_0 o p0))
  | _, _ => .fail
theorem ok40v1 (N : Nat) (hN : 4096 ≤ N) : CalOk Try.prog 40 (.ro (e40v1 ieee)) := by
  intro args h av hg
  unfold e40v1 at hg
  split at hg
  · exact ok40s N hN _ _ av hg
  · exact ok40as N hN _ _ av hg
  · cases hg

/-! loop.example/g01224/laws.toPairS -/
noncomputable def f42b_L0 (o : FO) (N : Nat) (s0 : Nat × Int → R o) (a : Nat × Int) : R o :=
  bif decide (a.2 < (0 : Int)) then
    none
  else
    some (.slice 0 0 a.1 2, [.live true true []])
noncomputable def f42b_D0 (o : FO) (vs : List (AV o)) (h : Heap o) : Option (Nat × Int) :=
  match vs, h with
  | [.nilslice, .slice 0 0 a0_0 2, .int .i64 a0_1], [.live true true []] => some (a0_0, a0_1)
  | _, _ => none
noncomputable def f42b_E0 (o : FO) (a : Nat × Int) : List (AV o) × Heap o := ([.nilslice, .slice 0 0 a.1 2, .int .i64 a.2], [.live true true []])
theorem f42b_DE0 (o : FO) : ∀ vs h a, f42b_D0 o vs h = some a → f42b_E0 o a = (vs, h) := by
  intro vs h a hx
  unfold f42b_D0 at hx
  split at hx
  · cases hx; rfl
  · cases hx
noncomputable def f42b (o : FO) (N : Nat) : R o :=
  iter (f42b_L0 o N) N (0, (0 : Int))
noncomputable def c42b (o : FO) (N : Nat) : Cx o :=
  { ty := tab [(60, ty60 o), (63, ty63 o), (67, ty67 o)]
    fn := tab []
    rounds := N, nt := 23, base := 0
    loops := [loopD [0, 3, 4] (f42b_D0 o) (f42b_E0 o)] }
theorem is42b (N : Nat) : FnIs Try.prog (c42b ieee N) 42 Try.f42 b42 := ⟨by kernel_rfl, by kernel_rfl, by kernel_rfl, by kernel_rfl⟩
theorem eq42b (o : FO) (N : Nat) : afun (c42b o N) Try.f42.results.toList b42 [.nilslice] [] = f42b o N := by kernel_rfl
theorem cok42b (N : Nat) (hN : 4096 ≤ N) : CtxOk Try.prog (c42b ieee N) := by
  refine ctxOk ?_ ?_ mixed ?_
  · intro p hp
    simp only [List.mem_cons, List.not_mem_nil, or_false] at hp
    rcases hp with rfl | rfl | rfl
    · exact tyOk60
    · exact tyOk63
    · exact tyOk67
  · intro p hp; cases hp
  · intro p hp
    simp only [List.mem_cons, List.not_mem_nil, or_false] at hp
    subst hp; exact loopD_ok _ _ _ (f42b_DE0 ieee)
noncomputable def k42b (o : FO) : R o → Bool := fun r => match r with | some (.slice 0 0 _ 2, [.live true true []]) => true | _ => false
theorem k42b_c (o : FO) (b : Bool) (x y : R o) : k42b o (bif b then x else y) = bif b then k42b o x else k42b o y := by cases b <;> rfl
noncomputable def m42b_ok (o : FO)  : Bool := k42b o (f42b o 2000000)
noncomputable def g42b_0 (o : FO) : R o → Nat := fun r => match r with | some (.slice 0 0 r0 2, [.live true true []]) => r0 | _ => 0
theorem g42b_0c (o : FO) (b : Bool) (x y : R o) : g42b_0 o (bif b then x else y) = bif b then g42b_0 o x else g42b_0 o y := by cases b <;> rfl
noncomputable def m42b_0 (o : FO)  : Nat := g42b_0 o (f42b o 2000000)
theorem val42b (o : FO)  (h : m42b_ok o = true) : f42b o 2000000 = some (.slice 0 0 (m42b_0 o) 2, [.live true true []]) := by
  unfold m42b_ok k42b at h
  unfold m42b_0 g42b_0
  generalize f42b o 2000000 = r at h ⊢
  split at h
  · rfl
  · cases h

noncomputable def e42bs (o : FO) : List (AV o) → Heap o → Tr (AV o × Heap o)
  | [.nilslice], [] => .br (m42b_ok o) (.leaf ((.slice 0 0 (m42b_0 o) 2, [.live true true []]))) .fail
  | _, _ => .fail
theorem ok42bs (N : Nat) (hN : 4096 ≤ N) : CalOk Try.prog 42 (.rw (e42bs ieee)) := by
  refine calOk_rw (cok42b 2000000 (by decide)) (is42b 2000000) ?_
  intro args h av h2 hg
  unfold e42bs at hg
  split at hg
  · obtain ⟨h0, hg⟩ := br_get hg
    cases hg
    exact (eq42b ieee 2000000).trans (val42b ieee h0)
  · cases hg
noncomputable def e42v2 (o : FO) : List (AV o) → Heap o → Tr (AV o × Heap o)
  | [.slice 0 0 p0 2], [.live false true p1] => .br (m42_ok o p0 p1) (.leaf ((.slice 1 0 (m42_0 o p0 p1) 2, [.live false true (m42_1 o p0 p1), .live true true (m42_2 o p0 p1)]))) .fail
  | [.slice 0 0 p0 2], [.live true true p1] => .br (m42a_ok o p0 p1) (.leaf ((.slice 1 0 (m42a_0 o p0 p1) 2, [.live true true (m42a_1 o p0 p1), .live true true (m42a_2 o p0 p1)]))) .fail
  | [.nilslice], [] => .br (m42b_ok o) (.leaf ((.slice 0 0 (m42b_0 o) 2, [.live true true []]))) .fail
  | _, _ => .fail
theorem ok42v2 (N : Nat) (hN : 4096 ≤ N) : CalOk Try.prog 42 (.rw (e42v2 ieee)) := by
  intro args h av h2 hg
  unfold e42v2 at hg
  split at hg
  · exact ok42s N hN _ _ av h2 hg
  · exact ok42as N hN _ _ av h2 hg
  · exact ok42bs N hN _ _ av h2 hg
  · cases hg

/-! loop.example/g01224/laws.FnExactCollidePairs -/
noncomputable def f12a (o : FO) (p0 : List (AV o)) : R o :=
  bif decide ((m40a_0 o (1048576 : Int)) < (0 : Int)) then
    some (.bool true, [])
  else
    rdA p0 0 21 fun c1 =>
    gd (m15_ok o c1) (
    gd (m42b_ok o) (
    gd (m41_ok o (m15_0 o c1) (m42b_0 o) []) (
    wrA (List.replicate 21 (.int .i64 (0 : Int))) 0 21 (m41_0 o (m15_0 o c1) (m42b_0 o) []) fun c2 =>
    gd (m42b_ok o) (
    rdA p0 0 21 fun c3 =>
    gd (m15_ok o c3) (
    gd (m43_ok o (m15_0 o c3) (m42b_0 o) []) (
    wrA (List.replicate 21 (.int .i64 (0 : Int))) 0 21 (m43_0 o (m15_0 o c3) (m42b_0 o) []) fun c4 =>
    rdA c4 0 21 fun c5 =>
    rdA c2 0 21 fun c6 =>
    gd (m17_ok o c5 c6) (
    bif m17_0 o c5 c6 then
      bif (m43_1 o (m15_0 o c3) (m42b_0 o) []) != (m41_1 o (m15_0 o c1) (m42b_0 o) []) then
        some (.bool false, [])
      else
        bif (m43_2 o (m15_0 o c3) (m42b_0 o) []) != (m41_2 o (m15_0 o c1) (m42b_0 o) []) then
          some (.bool false, [])
        else
          gd (m42b_ok o) (
          gd (m44_ok o (m42b_0 o) (m42b_0 o) [] []) (
          bif !(m44_0 o (m42b_0 o) (m42b_0 o) [] []) then
            some (.bool false, [])
          else
            some (.bool true, [])))
    else
      some (.bool false, []))))))))
noncomputable def c12a (o : FO) (N : Nat) : Cx o :=
  { ty := tab [(24, ty24 o), (27, ty27 o)]
    fn := tab [(15, .pure (e15 o)), (17, .pure (e17 o)), (40, .ro (e40v1 o)), (41, .ro (e41 o)), (42, .rw (e42v2 o)), (43, .ro (e43 o)), (44, .ro (e44 o))]
    rounds := 4096, nt := 56, base := 0
    loops := [] }
theorem is12a (N : Nat) : FnIs Try.prog (c12a ieee N) 12 Try.f12 b12 := ⟨by kernel_rfl, by kernel_rfl, by kernel_rfl, by kernel_rfl⟩
theorem eq12a (o : FO) (N : Nat) (p0 : List (AV o)) : afun (c12a o N) Try.f12.results.toList b12 [.agg p0, .nilslice] [] = f12a o p0 := by kernel_rfl
theorem cok12a (N : Nat) (hN : 4096 ≤ N) : CtxOk Try.prog (c12a ieee N) := by
  refine ctxOk ?_ ?_ mixed ?_
  · intro p hp
    simp only [List.mem_cons, List.not_mem_nil, or_false] at hp
    rcases hp with rfl | rfl
    · exact tyOk24
    · exact tyOk27
  · intro p hp
    simp only [List.mem_cons, List.not_mem_nil, or_false] at hp
    rcases hp with rfl | rfl | rfl | rfl | rfl | rfl | rfl
    · exact ok15 N hN
    · exact ok17 N hN
    · exact ok40v1 N hN
    · exact ok41 N hN
    · exact ok42v2 N hN
    · exact ok43 N hN
    · exact ok44 N hN
  · intro p hp; cases hp
noncomputable def k12a (o : FO) : R o → Bool := fun r => match r with | some (.bool _, _) => true | _ => false
theorem k12a_c (o : FO) (b : Bool) (x y : R o) : k12a o (bif b then x else y) = bif b then k12a o x else k12a o y := by cases b <;> rfl
noncomputable def m12a_ok (o : FO) (p0 : List (AV o)) : Bool := k12a o (f12a o p0)
noncomputable def g12a_0 (o : FO) : R o → Bool := fun r => match r with | some (.bool r0, _) => r0 | _ => false
theorem g12a_0c (o : FO) (b : Bool) (x y : R o) : g12a_0 o (bif b then x else y) = bif b then g12a_0 o x else g12a_0 o y := by cases b <;> rfl
noncomputable def m12a_0 (o : FO) (p0 : List (AV o)) : Bool := g12a_0 o (f12a o p0)
noncomputable def m12a_h (o : FO) (p0 : List (AV o)) : Heap o := match f12a o p0 with | some (_, h) => h | _ => []
theorem val12a (o : FO) (p0 : List (AV o)) (h : m12a_ok o p0 = true) : f12a o p0 = some (.bool (m12a_0 o p0), m12a_h o p0) := by
  unfold m12a_ok k12a at h
  unfold m12a_0 g12a_0 m12a_h
  generalize f12a o p0 = r at h ⊢
  split at h
  · rfl
  · cases h

noncomputable def e12as (o : FO) : List (AV o) → Heap o → Tr (AV o)
  | [.agg p0, .nilslice], [] => .br (m12a_ok o p0) (.leaf (.bool (m12a_0 o p0))) .fail
  | _, _ => .fail
theorem ok12as (N : Nat) (hN : 4096 ≤ N) : CalOk Try.prog 12 (.ro (e12as ieee)) := by
  refine calOk_ro (cok12a 2000000 (by decide)) (is12a 2000000) ?_
  intro args h av hg
  unfold e12as at hg
  split at hg
  · obtain ⟨h0, hg⟩ := br_get hg
    cases hg
    exact ⟨rfl, _, (eq12a ieee 2000000 _).trans (val12a ieee _ h0)⟩
  · cases hg
noncomputable def e12s (o : FO) : List (AV o) → Heap o → Tr (AV o)
  | [.agg p0, .slice 0 0 p1 2], [.live _ true p2] => .br (m12_ok o p0 p1 p2) (.leaf (.bool (m12_0 o p0 p1 p2))) .fail
  | _, _ => .fail
theorem ok12s (N : Nat) (hN : 4096 ≤ N) : CalOk Try.prog 12 (.ro (e12s ieee)) := by
  refine calOk_ro (cok12 2000000 (by decide)) (is12 2000000) ?_
  intro args h av hg
  unfold e12s at hg
  split at hg
  · obtain ⟨h0, hg⟩ := br_get hg
    cases hg
    exact ⟨rfl, _, (eq12 ieee 2000000 _ _ _).trans (val12 ieee _ _ _ h0)⟩
  · cases hg
noncomputable def e12v1 (o : FO) : List (AV o) → Heap o → Tr (AV o)
  | [.agg p0, .slice 0 0 p1 2], [.live _ true p2] => .br (m12_ok o p0 p1 p2) (.leaf (.bool (m12_0 o p0 p1 p2))) .fail
  | [.agg p0, .nilslice], [] => .br (m12a_ok o p0) (.leaf (.bool (m12a_0 o p0))) .fail
  | _, _ => .fail
theorem ok12v1 (N : Nat) (hN : 4096 ≤ N) : CalOk Try.prog 12 (.ro (e12v1 ieee)) := by
  intro args h av hg
  unfold e12v1 at hg
  split at hg
  · exact ok12s N hN _ _ av hg
  · exact ok12as N hN _ _ av hg
  · cases hg

end Go.Proofs.Ytbmakfcooonogaa
