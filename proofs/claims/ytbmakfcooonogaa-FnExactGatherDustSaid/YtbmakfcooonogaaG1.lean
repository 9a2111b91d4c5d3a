import Derived.Test.YtbmakfcooonogaaG0
set_option linter.unusedVariables false
set_option maxRecDepth 100000
namespace Go.Proofs.Ytbmakfcooonogaa
open Go.Ab Go.RowKit

/-! loop.example/g01224/laws.toCounts -/
noncomputable def f50 (o : FO) (p0 : List (AV o)) : R o :=
  rdI .i64 p0 0 fun x1 =>
  wr1 (List.replicate 20 (.int .i64 (0 : Int))) 0 (.int .i64 x1) fun c2 =>
  rdI .i64 p0 1 fun x3 =>
  wr1 c2 1 (.int .i64 x3) fun c4 =>
  rdI .i64 p0 2 fun x5 =>
  wr1 c4 2 (.int .i64 x5) fun c6 =>
  rdI .i64 p0 3 fun x7 =>
  wr1 c6 3 (.int .i64 x7) fun c8 =>
  rdI .i64 p0 4 fun x9 =>
  wr1 c8 4 (.int .i64 x9) fun c10 =>
  rdI .i64 p0 5 fun x11 =>
  wr1 c10 5 (.int .i64 x11) fun c12 =>
  rdI .i64 p0 6 fun x13 =>
  wr1 c12 6 (.int .i64 x13) fun c14 =>
  rdI .i64 p0 7 fun x15 =>
  wr1 c14 7 (.int .i64 x15) fun c16 =>
  rdI .i64 p0 8 fun x17 =>
  wr1 c16 8 (.int .i64 x17) fun c18 =>
  rdI .i64 p0 9 fun x19 =>
  wr1 c18 9 (.int .i64 x19) fun c20 =>
  rdI .i64 p0 10 fun x21 =>
  wr1 c20 10 (.int .i64 x21) fun c22 =>
  rdI .i64 p0 11 fun x23 =>
  wr1 c22 11 (.int .i64 x23) fun c24 =>
  rdI .i64 p0 12 fun x25 =>
  wr1 c24 12 (.int .i64 x25) fun c26 =>
  rdI .i64 p0 13 fun x27 =>
  wr1 c26 13 (.int .i64 x27) fun c28 =>
  rdI .i64 p0 14 fun x29 =>
  wr1 c28 14 (.int .i64 x29) fun c30 =>
  rdI .i64 p0 15 fun x31 =>
  wr1 c30 15 (.int .i64 x31) fun c32 =>
  rdI .i64 p0 16 fun x33 =>
  wr1 c32 16 (.int .i64 x33) fun c34 =>
  rdI .i64 p0 17 fun x35 =>
  wr1 c34 17 (.int .i64 x35) fun c36 =>
  rdI .i64 p0 18 fun x37 =>
  wr1 c36 18 (.int .i64 x37) fun c38 =>
  rdI .i64 p0 19 fun x39 =>
  wr1 c38 19 (.int .i64 x39) fun c40 =>
  rdA c40 0 20 fun c41 =>
  wrA (List.replicate 20 (.int .i64 (0 : Int))) 0 20 c41 fun c42 =>
  rdA c42 0 20 fun c43 =>
  some (.agg c43, [])
noncomputable def c50 (o : FO) (N : Nat) : Cx o :=
  { ty := tab [(2, ty2 o), (22, ty22 o), (25, ty25 o)]
    fn := tab []
    rounds := 4096, nt := 15, base := 0
    loops := [loopU [1, 2, 3, 4]] }
noncomputable def b50 : Code := match Try.f50.body with | some b => b | none => .skip
theorem is50 (N : Nat) : FnIs Try.prog (c50 ieee N) 50 Try.f50 b50 := ⟨by kernel_rfl, by kernel_rfl, by kernel_rfl, by kernel_rfl⟩
theorem eq50 (o : FO) (N : Nat) (p0 : List (AV o)) : afun (c50 o N) Try.f50.results.toList b50 [.agg p0] [] = f50 o p0 := by kernel_rfl
theorem cok50 (N : Nat) (hN : 4096 ≤ N) : CtxOk Try.prog (c50 ieee N) := by
  refine ctxOk ?_ ?_ mixed ?_
  · intro p hp
    simp only [List.mem_cons, List.not_mem_nil, or_false] at hp
    rcases hp with rfl | rfl | rfl
    · exact tyOk2
    · exact tyOk22
    · exact tyOk25
  · intro p hp; cases hp
  · intro p hp
    simp only [List.mem_cons, List.not_mem_nil, or_false] at hp
    subst hp; exact loopU_ok _
noncomputable def k50 (o : FO) : R o → Bool := fun r => match r with | some (.agg _, _) => true | _ => false
theorem k50_c (o : FO) (b : Bool) (x y : R o) : k50 o (bif b then x else y) = bif b then k50 o x else k50 o y := by cases b <;> rfl
noncomputable def m50_ok (o : FO) (p0 : List (AV o)) : Bool := k50 o (f50 o p0)
noncomputable def g50_0 (o : FO) : R o → List (AV o) := fun r => match r with | some (.agg r0, _) => r0 | _ => []
theorem g50_0c (o : FO) (b : Bool) (x y : R o) : g50_0 o (bif b then x else y) = bif b then g50_0 o x else g50_0 o y := by cases b <;> rfl
noncomputable def m50_0 (o : FO) (p0 : List (AV o)) : List (AV o) := g50_0 o (f50 o p0)
noncomputable def m50_h (o : FO) (p0 : List (AV o)) : Heap o := match f50 o p0 with | some (_, h) => h | _ => []
theorem val50 (o : FO) (p0 : List (AV o)) (h : m50_ok o p0 = true) : f50 o p0 = some (.agg (m50_0 o p0), m50_h o p0) := by
  unfold m50_ok k50 at h
  unfold m50_0 g50_0 m50_h
  generalize f50 o p0 = r at h ⊢
  split at h
  · rfl
  · cases h

noncomputable def e50 (o : FO) : List (AV o) → Tr (AV o)
  | [.agg p0] => .br (m50_ok o p0) (.leaf (.agg (m50_0 o p0))) .fail
  | _ => .fail
theorem ok50 (N : Nat) (hN : 4096 ≤ N) : CalOk Try.prog 50 (.pure (e50 ieee)) := by
  refine calOk_pure (cok50 4096 (Nat.le_refl _)) (is50 4096) ?_
  intro args av hg
  unfold e50 at hg
  split at hg
  · obtain ⟨h0, hg⟩ := br_get hg
    cases hg
    exact ⟨rfl, rfl, _, (eq50 ieee 4096 _).trans (val50 ieee _ h0)⟩
  · cases hg

/-! loop.example/g01224/laws.toBox -/
noncomputable def f15 (o : FO) (p0 : List (AV o)) : R o :=
  rdA p0 0 20 fun c1 =>
  gd (m50_ok o c1) (
  wrA (List.replicate 21 (.int .i64 (0 : Int))) 0 20 (m50_0 o c1) fun c2 =>
  rdI .i64 p0 20 fun x3 =>
  wr1 c2 20 (.int .i64 x3) fun c4 =>
  rdA c4 0 21 fun c5 =>
  wrA (List.replicate 21 (.int .i64 (0 : Int))) 0 21 c5 fun c6 =>
  rdA c6 0 21 fun c7 =>
  some (.agg c7, []))
noncomputable def c15 (o : FO) (N : Nat) : Cx o :=
  { ty := tab [(2, ty2 o), (22, ty22 o), (24, ty24 o), (25, ty25 o), (27, ty27 o)]
    fn := tab [(50, .pure (e50 o))]
    rounds := 4096, nt := 12, base := 0
    loops := [] }
noncomputable def b15 : Code := match Try.f15.body with | some b => b | none => .skip
theorem is15 (N : Nat) : FnIs Try.prog (c15 ieee N) 15 Try.f15 b15 := ⟨by kernel_rfl, by kernel_rfl, by kernel_rfl, by kernel_rfl⟩
theorem eq15 (o : FO) (N : Nat) (p0 : List (AV o)) : afun (c15 o N) Try.f15.results.toList b15 [.agg p0] [] = f15 o p0 := by kernel_rfl
theorem cok15 (N : Nat) (hN : 4096 ≤ N) : CtxOk Try.prog (c15 ieee N) := by
  refine ctxOk ?_ ?_ mixed ?_
  · intro p hp
    simp only [List.mem_cons, List.not_mem_nil, or_false] at hp
    rcases hp with rfl | rfl | rfl | rfl | rfl
    · exact tyOk2
    · exact tyOk22
    · exact tyOk24
    · exact tyOk25
    · exact tyOk27
  · intro p hp
    simp only [List.mem_cons, List.not_mem_nil, or_false] at hp
    subst hp; exact ok50 N hN
  · intro p hp; cases hp
noncomputable def k15 (o : FO) : R o → Bool := fun r => match r with | some (.agg _, _) => true | _ => false
theorem k15_c (o : FO) (b : Bool) (x y : R o) : k15 o (bif b then x else y) = bif b then k15 o x else k15 o y := by cases b <;> rfl
noncomputable def m15_ok (o : FO) (p0 : List (AV o)) : Bool := k15 o (f15 o p0)
noncomputable def g15_0 (o : FO) : R o → List (AV o) := fun r => match r with | some (.agg r0, _) => r0 | _ => []
theorem g15_0c (o : FO) (b : Bool) (x y : R o) : g15_0 o (bif b then x else y) = bif b then g15_0 o x else g15_0 o y := by cases b <;> rfl
noncomputable def m15_0 (o : FO) (p0 : List (AV o)) : List (AV o) := g15_0 o (f15 o p0)
noncomputable def m15_h (o : FO) (p0 : List (AV o)) : Heap o := match f15 o p0 with | some (_, h) => h | _ => []
theorem val15 (o : FO) (p0 : List (AV o)) (h : m15_ok o p0 = true) : f15 o p0 = some (.agg (m15_0 o p0), m15_h o p0) := by
  unfold m15_ok k15 at h
  unfold m15_0 g15_0 m15_h
  generalize f15 o p0 = r at h ⊢
  split at h
  · rfl
  · cases h

noncomputable def e15 (o : FO) : List (AV o) → Tr (AV o)
  | [.agg p0] => .br (m15_ok o p0) (.leaf (.agg (m15_0 o p0))) .fail
  | _ => .fail
theorem ok15 (N : Nat) (hN : 4096 ≤ N) : CalOk Try.prog 15 (.pure (e15 ieee)) := by
  refine calOk_pure (cok15 4096 (Nat.le_refl _)) (is15 4096) ?_
  intro args av hg
  unfold e15 at hg
  split at hg
  · obtain ⟨h0, hg⟩ := br_get hg
    cases hg
    exact ⟨rfl, rfl, _, (eq15 ieee 4096 _).trans (val15 ieee _ h0)⟩
  · cases hg

/-! loop.example/g01224/spec.l00In -/
noncomputable def f82 (o : FO) (p0 : Int) (p1 : Int) (p2 : Int) : R o :=
  bif decide (p0 ≥ p1) then
    bif decide (p0 ≤ p2) then
      some (.bool true, [])
    else
      some (.bool false, [])
  else
    some (.bool false, [])
noncomputable def c82 (o : FO) (N : Nat) : Cx o :=
  { ty := tab []
    fn := tab []
    rounds := 4096, nt := 15, base := 0
    loops := [] }
noncomputable def b82 : Code := match Try.f82.body with | some b => b | none => .skip
theorem is82 (N : Nat) : FnIs Try.prog (c82 ieee N) 82 Try.f82 b82 := ⟨by kernel_rfl, by kernel_rfl, by kernel_rfl, by kernel_rfl⟩
theorem eq82 (o : FO) (N : Nat) (p0 : Int) (p1 : Int) (p2 : Int) : afun (c82 o N) Try.f82.results.toList b82 [.int .i64 p0, .int .i64 p1, .int .i64 p2] [] = f82 o p0 p1 p2 := by kernel_rfl
theorem cok82 (N : Nat) (hN : 4096 ≤ N) : CtxOk Try.prog (c82 ieee N) := by
  refine ctxOk ?_ ?_ mixed ?_
  · intro p hp; cases hp
  · intro p hp; cases hp
  · intro p hp; cases hp
noncomputable def m82_0 (o : FO) (p0 : Int) (p1 : Int) (p2 : Int) : Bool :=
  bif decide (p0 ≥ p1) then
    decide (p0 ≤ p2)
  else
    false
theorem val82 (o : FO) (p0 : Int) (p1 : Int) (p2 : Int) : f82 o p0 p1 p2 = some (.bool (m82_0 o p0 p1 p2), []) := by
  unfold f82 m82_0
  try dsimp only
  cases (decide (p0 ≥ p1))
  · rfl
  · cases (decide (p0 ≤ p2))
    · rfl
    · rfl

noncomputable def e82 (o : FO) : List (AV o) → Tr (AV o)
  | [.int .i64 p0, .int .i64 p1, .int .i64 p2] => .leaf (.bool (m82_0 o p0 p1 p2))
  | _ => .fail
theorem ok82 (N : Nat) (hN : 4096 ≤ N) : CalOk Try.prog 82 (.pure (e82 ieee)) := by
  refine calOk_pure (cok82 4096 (Nat.le_refl _)) (is82 4096) ?_
  intro args av hg
  unfold e82 at hg
  split at hg
  · cases hg
    exact ⟨rfl, rfl, _, (eq82 ieee 4096 _ _ _).trans (val82 ieee _ _ _)⟩
  · cases hg

/-! loop.example/g01224/spec.l03Box -/
noncomputable def f49 (o : FO) (p0 : List (AV o)) : R o :=
  rdI .i64 p0 0 fun x1 =>
  bif !(m82_0 o x1 (0 : Int) (1000000000 : Int)) then
    some (.bool false, [.live false true p0])
  else
    rdI .i64 p0 1 fun x2 =>
    bif !(m82_0 o x2 (0 : Int) (1000000000 : Int)) then
      some (.bool false, [.live false true p0])
    else
      rdI .i64 p0 2 fun x3 =>
      bif !(m82_0 o x3 (0 : Int) (1000000000 : Int)) then
        some (.bool false, [.live false true p0])
      else
        rdI .i64 p0 3 fun x4 =>
        bif !(m82_0 o x4 (0 : Int) (1000000000 : Int)) then
          some (.bool false, [.live false true p0])
        else
          rdI .i64 p0 4 fun x5 =>
          bif !(m82_0 o x5 (0 : Int) (1000000000 : Int)) then
            some (.bool false, [.live false true p0])
          else
            rdI .i64 p0 5 fun x6 =>
            bif !(m82_0 o x6 (0 : Int) (1000000000 : Int)) then
              some (.bool false, [.live false true p0])
            else
              rdI .i64 p0 6 fun x7 =>
              bif !(m82_0 o x7 (0 : Int) (1000000000 : Int)) then
                some (.bool false, [.live false true p0])
              else
                rdI .i64 p0 7 fun x8 =>
                bif !(m82_0 o x8 (0 : Int) (1000000000 : Int)) then
                  some (.bool false, [.live false true p0])
                else
                  rdI .i64 p0 8 fun x9 =>
                  bif !(m82_0 o x9 (0 : Int) (1000000000 : Int)) then
                    some (.bool false, [.live false true p0])
                  else
                    rdI .i64 p0 9 fun x10 =>
                    bif !(m82_0 o x10 (0 : Int) (1000000000 : Int)) then
                      some (.bool false, [.live false true p0])
                    else
                      rdI .i64 p0 10 fun x11 =>
                      bif !(m82_0 o x11 (0 : Int) (1000000000 : Int)) then
                        some (.bool false, [.live false true p0])
                      else
                        rdI .i64 p0 11 fun x12 =>
                        bif !(m82_0 o x12 (0 : Int) (1000000000 : Int)) then
                          some (.bool false, [.live false true p0])
                        else
                          rdI .i64 p0 12 fun x13 =>
                          bif !(m82_0 o x13 (0 : Int) (1000000000 : Int)) then
                            some (.bool false, [.live false true p0])
                          else
                            rdI .i64 p0 13 fun x14 =>
                            bif !(m82_0 o x14 (0 : Int) (1000000000 : Int)) then
                              some (.bool false, [.live false true p0])
                            else
                              rdI .i64 p0 14 fun x15 =>
                              bif !(m82_0 o x15 (0 : Int) (1000000000 : Int)) then
                                some (.bool false, [.live false true p0])
                              else
                                rdI .i64 p0 15 fun x16 =>
                                bif !(m82_0 o x16 (0 : Int) (1000000000 : Int)) then
                                  some (.bool false, [.live false true p0])
                                else
                                  rdI .i64 p0 16 fun x17 =>
                                  bif !(m82_0 o x17 (0 : Int) (1000000000 : Int)) then
                                    some (.bool false, [.live false true p0])
                                  else
                                    rdI .i64 p0 17 fun x18 =>
                                    bif !(m82_0 o x18 (0 : Int) (1000000000 : Int)) then
                                      some (.bool false, [.live false true p0])
                                    else
                                      rdI .i64 p0 18 fun x19 =>
                                      bif !(m82_0 o x19 (0 : Int) (1000000000 : Int)) then
                                        some (.bool false, [.live false true p0])
                                      else
                                        rdI .i64 p0 19 fun x20 =>
                                        bif !(m82_0 o x20 (0 : Int) (1000000000 : Int)) then
                                          some (.bool false, [.live false true p0])
                                        else
                                          rdI .i64 p0 20 fun x21 =>
                                          some (.bool (m82_0 o x21 (0 : Int) (1000000000 : Int)), [.live false true p0])
noncomputable def c49 (o : FO) (N : Nat) : Cx o :=
  { ty := tab [(2, ty2 o), (25, ty25 o), (27, ty27 o)]
    fn := tab [(82, .pure (e82 o))]
    rounds := 4096, nt := 21, base := 1
    loops := [loopU [0, 3]] }
noncomputable def b49 : Code := match Try.f49.body with | some b => b | none => .skip
theorem is49 (N : Nat) : FnIs Try.prog (c49 ieee N) 49 Try.f49 b49 := ⟨by kernel_rfl, by kernel_rfl, by kernel_rfl, by kernel_rfl⟩
theorem eq49 (o : FO) (N : Nat) (p0 : List (AV o)) : afun (c49 o N) Try.f49.results.toList b49 [.ptr 0 0] [.live false true p0] = f49 o p0 := by kernel_rfl
theorem cok49 (N : Nat) (hN : 4096 ≤ N) : CtxOk Try.prog (c49 ieee N) := by
  refine ctxOk ?_ ?_ mixed ?_
  · intro p hp
    simp only [List.mem_cons, List.not_mem_nil, or_false] at hp
    rcases hp with rfl | rfl | rfl
    · exact tyOk2
    · exact tyOk25
    · exact tyOk27
  · intro p hp
    simp only [List.mem_cons, List.not_mem_nil, or_false] at hp
    subst hp; exact ok82 N hN
  · intro p hp
    simp only [List.mem_cons, List.not_mem_nil, or_false] at hp
    subst hp; exact loopU_ok _
noncomputable def k49 (o : FO) : R o → Bool := fun r => match r with | some (.bool _, _) => true | _ => false
theorem k49_c (o : FO) (b : Bool) (x y : R o) : k49 o (bif b then x else y) = bif b then k49 o x else k49 o y := by cases b <;> rfl
noncomputable def m49_ok (o : FO) (p0 : List (AV o)) : Bool := k49 o (f49 o p0)
noncomputable def g49_0 (o : FO) : R o → Bool := fun r => match r with | some (.bool r0, _) => r0 | _ => false
theorem g49_0c (o : FO) (b : Bool) (x y : R o) : g49_0 o (bif b then x else y) = bif b then g49_0 o x else g49_0 o y := by cases b <;> rfl
noncomputable def m49_0 (o : FO) (p0 : List (AV o)) : Bool := g49_0 o (f49 o p0)
noncomputable def m49_h (o : FO) (p0 : List (AV o)) : Heap o := match f49 o p0 with | some (_, h) => h | _ => []
theorem val49 (o : FO) (p0 : List (AV o)) (h : m49_ok o p0 = true) : f49 o p0 = some (.bool (m49_0 o p0), m49_h o p0) := by
  unfold m49_ok k49 at h
  unfold m49_0 g49_0 m49_h
  generalize f49 o p0 = r at h ⊢
  split at h
  · rfl
  · cases h

noncomputable def e49 (o : FO) : List (AV o) → Heap o → Tr (AV o)
  | [.ptr 0 0], [.live _ true p0] => .br (m49_ok o p0) (.leaf (.bool (m49_0 o p0))) .fail
  | _, _ => .fail
theorem ok49 (N : Nat) (hN : 4096 ≤ N) : CalOk Try.prog 49 (.ro (e49 ieee)) := by
  refine calOk_ro (cok49 4096 (Nat.le_refl _)) (is49 4096) ?_
  intro args h av hg
  unfold e49 at hg
  split at hg
  · obtain ⟨h0, hg⟩ := br_get hg
    cases hg
    exact ⟨rfl, _, (eq49 ieee 4096 _).trans (val49 ieee _ h0)⟩
  · cases hg

/-! loop.example/g01224/spec.GatherDust -/
noncomputable def f14 (o : FO) (p0 : List (AV o)) : R o :=
  gd (m49_ok o p0) (
  bif !(m49_0 o p0) then
    wrA (List.replicate 21 (.int .i64 (0 : Int))) 0 21 (List.replicate 21 (.int .i64 (0 : Int))) fun c1 =>
    rdA c1 0 21 fun c2 =>
    some (.tup [.agg c2, .int .i64 (1 : Int)], [])
  else
    rdI .i64 p0 20 fun x3 =>
    rdI .i64 p0 19 fun x4 =>
    wr1 p0 19 (.int .i64 (IntKind.wrap .i64 (x4 + ((x3).fdiv (2 ^ ((19 : Int)).toNat))))) fun c5 =>
    rdI .i64 c5 20 fun x6 =>
    wr1 c5 20 (.int .i64 (IntKind.wrap .i64 (x6 - (IntKind.wrap .i64 (((x3).fdiv (2 ^ ((19 : Int)).toNat)) * 2 ^ (min ((19 : Int)).toNat (IntKind.bits .i64))))))) fun c7 =>
    rdI .i64 c7 20 fun x8 =>
    rdI .i64 c7 18 fun x9 =>
    wr1 c7 18 (.int .i64 (IntKind.wrap .i64 (x9 + ((x8).fdiv (2 ^ ((18 : Int)).toNat))))) fun c10 =>
    rdI .i64 c10 20 fun x11 =>
    wr1 c10 20 (.int .i64 (IntKind.wrap .i64 (x11 - (IntKind.wrap .i64 (((x8).fdiv (2 ^ ((18 : Int)).toNat)) * 2 ^ (min ((18 : Int)).toNat (IntKind.bits .i64))))))) fun c12 =>
    rdI .i64 c12 20 fun x13 =>
    rdI .i64 c12 17 fun x14 =>
    wr1 c12 17 (.int .i64 (IntKind.wrap .i64 (x14 + ((x13).fdiv (2 ^ ((17 : Int)).toNat))))) fun c15 =>
    rdI .i64 c15 20 fun x16 =>
    wr1 c15 20 (.int .i64 (IntKind.wrap .i64 (x16 - (IntKind.wrap .i64 (((x13).fdiv (2 ^ ((17 : Int)).toNat)) * 2 ^ (min ((17 : Int)).toNat (IntKind.bits .i64))))))) fun c17 =>
    rdI .i64 c17 20 fun x18 =>
    rdI .i64 c17 16 fun x19 =>
    wr1 c17 16 (.int .i64 (IntKind.wrap .i64 (x19 + ((x18).fdiv (2 ^ ((16 : Int)).toNat))))) fun c20 =>
    rdI .i64 c20 20 fun x21 =>
    wr1 c20 20 (.int .i64 (IntKind.wrap .i64 (x21 - (IntKind.wrap .i64 (((x18).fdiv (2 ^ ((16 : Int)).toNat)) * 2 ^ (min ((16 : Int)).toNat (IntKind.bits .i64))))))) fun c22 =>
    rdI .i64 c22 20 fun x23 =>
    rdI .i64 c22 15 fun x24 =>
    wr1 c22 15 (.int .i64 (IntKind.wrap .i64 (x24 + ((x23).fdiv (2 ^ ((15 : Int)).toNat))))) fun c25 =>
    rdI .i64 c25 20 fun x26 =>
    wr1 c25 20 (.int .i64 (IntKind.wrap .i64 (x26 - (IntKind.wrap .i64 (((x23).fdiv (2 ^ ((15 : Int)).toNat)) * 2 ^ (min ((15 : Int)).toNat (IntKind.bits .i64))))))) fun c27 =>
    rdI .i64 c27 20 fun x28 =>
    rdI .i64 c27 14 fun x29 =>
    wr1 c27 14 (.int .i64 (IntKind.wrap .i64 (x29 + ((x28).fdiv (2 ^ ((14 : Int)).toNat))))) fun c30 =>
    rdI .i64 c30 20 fun x31 =>
    wr1 c30 20 (.int .i64 (IntKind.wrap .i64 (x31 - (IntKind.wrap .i64 (((x28).fdiv (2 ^ ((14 : Int)).toNat)) * 2 ^ (min ((14 : Int)).toNat (IntKind.bits .i64))))))) fun c32 =>
    rdI .i64 c32 20 fun x33 =>
    rdI .i64 c32 13 fun x34 =>
    wr1 c32 13 (.int .i64 (IntKind.wrap .i64 (x34 + ((x33).fdiv (2 ^ ((13 : Int)).toNat))))) fun c35 =>
    rdI .i64 c35 20 fun x36 =>
    wr1 c35 20 (.int .i64 (IntKind.wrap .i64 (x36 - (IntKind.wrap .i64 (((x33).fdiv (2 ^ ((13 : Int)).toNat)) * 2 ^ (min ((13 : Int)).toNat (IntKind.bits .i64))))))) fun c37 =>
    rdI .i64 c37 20 fun x38 =>
    rdI .i64 c37 12 fun x39 =>
    wr1 c37 12 (.int .i64 (IntKind.wrap .i64 (x39 + ((x38).fdiv (2 ^ ((12 : Int)).toNat))))) fun c40 =>
    rdI .i64 c40 20 fun x41 =>
    wr1 c40 20 (.int .i64 (IntKind.wrap .i64 (x41 - (IntKind.wrap .i64 (((x38).fdiv (2 ^ ((12 : Int)).toNat)) * 2 ^ (min ((12 : Int)).toNat (IntKind.bits .i64))))))) fun c42 =>
    rdI .i64 c42 20 fun x43 =>
    rdI .i64 c42 11 fun x44 =>
    wr1 c42 11 (.int .i64 (IntKind.wrap .i64 (x44 + ((x43).fdiv (2 ^ ((11 : Int)).toNat))))) fun c45 =>
    rdI .i64 c45 20 fun x46 =>
    wr1 c45 20 (.int .i64 (IntKind.wrap .i64 (x46 - (IntKind.wrap .i64 (((x43).fdiv (2 ^ ((11 : Int)).toNat)) * 2 ^ (min ((11 : Int)).toNat (IntKind.bits .i64))))))) fun c47 =>
    rdI .i64 c47 20 fun x48 =>
    rdI .i64 c47 10 fun x49 =>
    wr1 c47 10 (.int .i64 (IntKind.wrap .i64 (x49 + ((x48).fdiv (2 ^ ((10 : Int)).toNat))))) fun c50 =>
    rdI .i64 c50 20 fun x51 =>
    wr1 c50 20 (.int .i64 (IntKind.wrap .i64 (x51 - (IntKind.wrap .i64 (((x48).fdiv (2 ^ ((10 : Int)).toNat)) * 2 ^ (min ((10 : Int)).toNat (IntKind.bits .i64))))))) fun c52 =>
    rdI .i64 c52 20 fun x53 =>
    rdI .i64 c52 9 fun x54 =>
    wr1 c52 9 (.int .i64 (IntKind.wrap .i64 (x54 + ((x53).fdiv (2 ^ ((9 : Int)).toNat))))) fun c55 =>
    rdI .i64 c55 20 fun x56 =>
    wr1 c55 20 (.int .i64 (IntKind.wrap .i64 (x56 - (IntKind.wrap .i64 (((x53).fdiv (2 ^ ((9 : Int)).toNat)) * 2 ^ (min ((9 : Int)).toNat (IntKind.bits .i64))))))) fun c57 =>
    rdI .i64 c57 20 fun x58 =>
    rdI .i64 c57 8 fun x59 =>
    wr1 c57 8 (.int .i64 (IntKind.wrap .i64 (x59 + ((x58).fdiv (2 ^ ((8 : Int)).toNat))))) fun c60 =>
    rdI .i64 c60 20 fun x61 =>
    wr1 c60 20 (.int .i64 (IntKind.wrap .i64 (x61 - (IntKind.wrap .i64 (((x58).fdiv (2 ^ ((8 : Int)).toNat)) * 2 ^ (min ((8 : Int)).toNat (IntKind.bits .i64))))))) fun c62 =>
    rdI .i64 c62 20 fun x63 =>
    rdI .i64 c62 7 fun x64 =>
    wr1 c62 7 (.int .i64 (IntKind.wrap .i64 (x64 + ((x63).fdiv (2 ^ ((7 : Int)).toNat))))) fun c65 =>
    rdI .i64 c65 20 fun x66 =>
    wr1 c65 20 (.int .i64 (IntKind.wrap .i64 (x66 - (IntKind.wrap .i64 (((x63).fdiv (2 ^ ((7 : Int)).toNat)) * 2 ^ (min ((7 : Int)).toNat (IntKind.bits .i64))))))) fun c67 =>
    rdI .i64 c67 20 fun x68 =>
    rdI .i64 c67 6 fun x69 =>
    wr1 c67 6 (.int .i64 (IntKind.wrap .i64 (x69 + ((x68).fdiv (2 ^ ((6 : Int)).toNat))))) fun c70 =>
    rdI .i64 c70 20 fun x71 =>
    wr1 c70 20 (.int .i64 (IntKind.wrap .i64 (x71 - (IntKind.wrap .i64 (((x68).fdiv (2 ^ ((6 : Int)).toNat)) * 2 ^ (min ((6 : Int)).toNat (IntKind.bits .i64))))))) fun c72 =>
    rdI .i64 c72 20 fun x73 =>
    rdI .i64 c72 5 fun x74 =>
    wr1 c72 5 (.int .i64 (IntKind.wrap .i64 (x74 + ((x73).fdiv (2 ^ ((5 : Int)).toNat))))) fun c75 =>
    rdI .i64 c75 20 fun x76 =>
    wr1 c75 20 (.int .i64 (IntKind.wrap .i64 (x76 - (IntKind.wrap .i64 (((x73).fdiv (2 ^ ((5 : Int)).toNat)) * 2 ^ (min ((5 : Int)).toNat (IntKind.bits .i64))))))) fun c77 =>
    rdI .i64 c77 20 fun x78 =>
    rdI .i64 c77 4 fun x79 =>
    wr1 c77 4 (.int .i64 (IntKind.wrap .i64 (x79 + ((x78).fdiv (2 ^ ((4 : Int)).toNat))))) fun c80 =>
    rdI .i64 c80 20 fun x81 =>
    wr1 c80 20 (.int .i64 (IntKind.wrap .i64 (x81 - (IntKind.wrap .i64 (((x78).fdiv (2 ^ ((4 : Int)).toNat)) * 2 ^ (min ((4 : Int)).toNat (IntKind.bits .i64))))))) fun c82 =>
    rdI .i64 c82 20 fun x83 =>
    rdI .i64 c82 3 fun x84 =>
    wr1 c82 3 (.int .i64 (IntKind.wrap .i64 (x84 + ((x83).fdiv (2 ^ ((3 : Int)).toNat))))) fun c85 =>
    rdI .i64 c85 20 fun x86 =>
    wr1 c85 20 (.int .i64 (IntKind.wrap .i64 (x86 - (IntKind.wrap .i64 (((x83).fdiv (2 ^ ((3 : Int)).toNat)) * 2 ^ (min ((3 : Int)).toNat (IntKind.bits .i64))))))) fun c87 =>
    rdI .i64 c87 20 fun x88 =>
    rdI .i64 c87 2 fun x89 =>
    wr1 c87 2 (.int .i64 (IntKind.wrap .i64 (x89 + ((x88).fdiv (2 ^ ((2 : Int)).toNat))))) fun c90 =>
    rdI .i64 c90 20 fun x91 =>
    wr1 c90 20 (.int .i64 (IntKind.wrap .i64 (x91 - (IntKind.wrap .i64 (((x88).fdiv (2 ^ ((2 : Int)).toNat)) * 2 ^ (min ((2 : Int)).toNat (IntKind.bits .i64))))))) fun c92 =>
    rdI .i64 c92 20 fun x93 =>
    rdI .i64 c92 1 fun x94 =>
    wr1 c92 1 (.int .i64 (IntKind.wrap .i64 (x94 + ((x93).fdiv (2 ^ ((1 : Int)).toNat))))) fun c95 =>
    rdI .i64 c95 20 fun x96 =>
    wr1 c95 20 (.int .i64 (IntKind.wrap .i64 (x96 - (IntKind.wrap .i64 (((x93).fdiv (2 ^ ((1 : Int)).toNat)) * 2 ^ (min ((1 : Int)).toNat (IntKind.bits .i64))))))) fun c97 =>
    rdI .i64 c97 20 fun x98 =>
    rdI .i64 c97 0 fun x99 =>
    wr1 c97 0 (.int .i64 (IntKind.wrap .i64 (x99 + ((x98).fdiv (2 ^ ((0 : Int)).toNat))))) fun c100 =>
    rdI .i64 c100 20 fun x101 =>
    wr1 c100 20 (.int .i64 (IntKind.wrap .i64 (x101 - (IntKind.wrap .i64 (((x98).fdiv (2 ^ ((0 : Int)).toNat)) * 2 ^ (min ((0 : Int)).toNat (IntKind.bits .i64))))))) fun c102 =>
    gd (m49_ok o c102) (
    bif !(m49_0 o c102) then
      wrA (List.replicate 21 (.int .i64 (0 : Int))) 0 21 (List.replicate 21 (.int .i64 (0 : Int))) fun c103 =>
      rdA c103 0 21 fun c104 =>
      some (.tup [.agg c104, .int .i64 (3 : Int)], [])
    else
      rdA c102 0 21 fun c105 =>
      wrA (List.replicate 21 (.int .i64 (0 : Int))) 0 21 c105 fun c106 =>
      rdA c106 0 21 fun c107 =>
      some (.tup [.agg c107, .int .i64 (0 : Int)], [])))
noncomputable def c14 (o : FO) (N : Nat) : Cx o :=
  { ty := tab [(2, ty2 o), (25, ty25 o), (27, ty27 o), (78, ty78 o)]
    fn := tab [(49, .ro (e49 o))]
    rounds := 4096, nt := 38, base := 0
    loops := [loopU [1, 2, 4]] }
noncomputable def b14 : Code := match Try.f14.body with | some b => b | none => .skip
theorem is14 (N : Nat) : FnIs Try.prog (c14 ieee N) 14 Try.f14 b14 := ⟨by kernel_rfl, by kernel_rfl, by kernel_rfl, by kernel_rfl⟩
theorem eq14 (o : FO) (N : Nat) (p0 : List (AV o)) : afun (c14 o N) Try.f14.results.toList b14 [.agg p0] [] = f14 o p0 := by kernel_rfl
theorem cok14 (N : Nat) (hN : 4096 ≤ N) : CtxOk Try.prog (c14 ieee N) := by
  refine ctxOk ?_ ?_ mixed ?_
  · intro p hp
    simp only [List.mem_cons, List.not_mem_nil, or_false] at hp
    rcases hp with rfl | rfl | rfl | rfl
    · exact tyOk2
    · exact tyOk25
    · exact tyOk27
    · exact tyOk78
  · intro p hp
    simp only [List.mem_cons, List.not_mem_nil, or_false] at hp
    subst hp; exact ok49 N hN
  · intro p hp
    simp only [List.mem_cons, List.not_mem_nil, or_false] at hp
    subst hp; exact loopU_ok _
noncomputable def k14 (o : FO) : R o → Bool := fun r => match r with | some (.tup [.agg _, .int .i64 _], _) => true | _ => false
theorem k14_c (o : FO) (b : Bool) (x y : R o) : k14 o (bif b then x else y) = bif b then k14 o x else k14 o y := by cases b <;> rfl
noncomputable def m14_ok (o : FO) (p0 : List (AV o)) : Bool := k14 o (f14 o p0)
noncomputable def g14_0 (o : FO) : R o → List (AV o) := fun r => match r with | some (.tup [.agg r0, .int .i64 _], _) => r0 | _ => []
theorem g14_0c (o : FO) (b : Bool) (x y : R o) : g14_0 o (bif b then x else y) = bif b then g14_0 o x else g14_0 o y := by cases b <;> rfl
noncomputable def m14_0 (o : FO) (p0 : List (AV o)) : List (AV o) := g14_0 o (f14 o p0)
noncomputable def g14_1 (o : FO) : R o → Int := fun r => match r with | some (.tup [.agg _, .int .i64 r1], _) => r1 | _ => 0
theorem g14_1c (o : FO) (b : Bool) (x y : R o) : g14_1 o (bif b then x else y) = bif b then g14_1 o x else g14_1 o y := by cases b <;> rfl
noncomputable def m14_1 (o : FO) (p0 : List (AV o)) : Int := g14_1 o (f14 o p0)
noncomputable def m14_h (o : FO) (p0 : List (AV o)) : Heap o := match f14 o p0 with | some (_, h) => h | _ => []
theorem val14 (o : FO) (p0 : List (AV o)) (h : m14_ok o p0 = true) : f14 o p0 = some (.tup [.agg (m14_0 o p0), .int .i64 (m14_1 o p0)], m14_h o p0) := by
  unfold m14_ok k14 at h
  unfold m14_0 g14_0 m14_1 g14_1 m14_h
  generalize f14 o p0 = r at h ⊢
  split at h
  · rfl
  · cases h

noncomputable def e14 (o : FO) : List (AV o) → Tr (AV o)
  | [.agg p0] => .br (m14_ok o p0) (.leaf (.tup [.agg (m14_0 o p0), .int .i64 (m14_1 o p0)])) .fail
  | _ => .fail
theorem ok14 (N : Nat) (hN : 4096 ≤ N) : CalOk Try.prog 14 (.pure (e14 ieee)) := by
  refine calOk_pure (cok14 4096 (Nat.le_refl _)) (is14 4096) ?_
  intro args av hg
  unfold e14 at hg
  split at hg
  · obtain ⟨h0, hg⟩ := br_get hg
    cases hg
    exact ⟨rfl, rfl, _, (eq14 ieee 4096 _).trans (val14 ieee _ h0)⟩
  · cases hg

/-! loop.example/g01224/impl.within -/
noncomputable def f84 (o : FO) (p0 : Int) (p1 : Int) (p2 : Int) : R o :=
  bif decide (p0 ≥ p1) then
    bif decide (p0 ≤ p2) then
      some (.bool true, [])
    else
      some (.bool false, [])
  else
    some (.bool false, [])
noncomputable def c84 (o : FO) (N : Nat) : Cx o :=
  { ty := tab []
    fn := tab []
    rounds := 4096, nt := 15, base := 0
    loops := [] }
noncomputable def b84 : Code := match Try.f84.body with | some b => b | none => .skip
theorem is84 (N : Nat) : FnIs Try.prog (c84 ieee N) 84 Try.f84 b84 := ⟨by kernel_rfl, by kernel_rfl, by kernel_rfl, by kernel_rfl⟩
theorem eq84 (o : FO) (N : Nat) (p0 : Int) (p1 : Int) (p2 : Int) : afun (c84 o N) Try.f84.results.toList b84 [.int .i64 p0, .int .i64 p1, .int .i64 p2] [] = f84 o p0 p1 p2 := by kernel_rfl
theorem cok84 (N : Nat) (hN : 4096 ≤ N) : CtxOk Try.prog (c84 ieee N) := by
  refine ctxOk ?_ ?_ mixed ?_
  · intro p hp; cases hp
  · intro p hp; cases hp
  · intro p hp; cases hp
noncomputable def m84_0 (o : FO) (p0 : Int) (p1 : Int) (p2 : Int) : Bool :=
  bif decide (p0 ≥ p1) then
    decide (p0 ≤ p2)
  else
    false
theorem val84 (o : FO) (p0 : Int) (p1 : Int) (p2 : Int) : f84 o p0 p1 p2 = some (.bool (m84_0 o p0 p1 p2), []) := by
  unfold f84 m84_0
  try dsimp only
  cases (decide (p0 ≥ p1))
  · rfl
  · cases (decide (p0 ≤ p2))
    · rfl
    · rfl

noncomputable def e84 (o : FO) : List (AV o) → Tr (AV o)
  | [.int .i64 p0, .int .i64 p1, .int .i64 p2] => .leaf (.bool (m84_0 o p0 p1 p2))
  | _ => .fail
theorem ok84 (N : Nat) (hN : 4096 ≤ N) : CalOk Try.prog 84 (.pure (e84 ieee)) := by
  refine calOk_pure (cok84 4096 (Nat.le_refl _)) (is84 4096) ?_
  intro args av hg
  unfold e84 at hg
  split at hg
  · cases hg
    exact ⟨rfl, rfl, _, (eq84 ieee 4096 _ _ _).trans (val84 ieee _ _ _)⟩
  · cases hg

/-! loop.example/g01224/impl.isCount -/
noncomputable def f87 (o : FO) (p0 : Int) : R o :=
  some (.bool (m84_0 o p0 (0 : Int) (1000000000 : Int)), [])
noncomputable def c87 (o : FO) (N : Nat) : Cx o :=
  { ty := tab []
    fn := tab [(84, .pure (e84 o))]
    rounds := 4096, nt := 5, base := 0
    loops := [] }
noncomputable def b87 : Code := match Try.f87.body with | some b => b | none => .skip
theorem is87 (N : Nat) : FnIs Try.prog (c87 ieee N) 87 Try.f87 b87 := ⟨by kernel_rfl, by kernel_rfl, by kernel_rfl, by kernel_rfl⟩
theorem eq87 (o : FO) (N : Nat) (p0 : Int) : afun (c87 o N) Try.f87.results.toList b87 [.int .i64 p0] [] = f87 o p0 := by kernel_rfl
theorem cok87 (N : Nat) (hN : 4096 ≤ N) : CtxOk Try.prog (c87 ieee N) := by
  refine ctxOk ?_ ?_ mixed ?_
  · intro p hp; cases hp
  · intro p hp
    simp only [List.mem_cons, List.not_mem_nil, or_false] at hp
    subst hp; exact ok84 N hN
  · intro p hp; cases hp
noncomputable def m87_0 (o : FO) (p0 : Int) : Bool :=
  m84_0 o p0 (0 : Int) (1000000000 : Int)
theorem val87 (o : FO) (p0 : Int) : f87 o p0 = some (.bool (m87_0 o p0), []) := by
  unfold f87 m87_0
  rfl

noncomputable def e87 (o : FO) : List (AV o) → Tr (AV o)
  | [.int .i64 p0] => .leaf (.bool (m87_0 o p0))
  | _ => .fail
theorem ok87 (N : Nat) (hN : 4096 ≤ N) : CalOk Try.prog 87 (.pure (e87 ieee)) := by
  refine calOk_pure (cok87 4096 (Nat.le_refl _)) (is87 4096) ?_
  intro args av hg
  unfold e87 at hg
  split at hg
  · cases hg
    exact ⟨rfl, rfl, _, (eq87 ieee 4096 _).trans (val87 ieee _)⟩
  · cases hg

/-! loop.example/g01224/impl.ValidBox -/
noncomputable def f51 (o : FO) (p0 : List (AV o)) : R o :=
  rdA p0 0 20 fun c1 =>
  rdI .i64 c1 0 fun x2 =>
  bif !(m87_0 o x2) then
    some (.bool false, [])
  else
    rdI .i64 c1 1 fun x3 =>
    bif !(m87_0 o x3) then
      some (.bool false, [])
    else
      rdI .i64 c1 2 fun x4 =>
      bif !(m87_0 o x4) then
        some (.bool false, [])
      else
        rdI .i64 c1 3 fun x5 =>
        bif !(m87_0 o x5) then
          some (.bool false, [])
        else
          rdI .i64 c1 4 fun x6 =>
          bif !(m87_0 o x6) then
            some (.bool false, [])
          else
            rdI .i64 c1 5 fun x7 =>
            bif !(m87_0 o x7) then
              some (.bool false, [])
            else
              rdI .i64 c1 6 fun x8 =>
              bif !(m87_0 o x8) then
                some (.bool false, [])
              else
                rdI .i64 c1 7 fun x9 =>
                bif !(m87_0 o x9) then
                  some (.bool false, [])
                else
                  rdI .i64 c1 8 fun x10 =>
                  bif !(m87_0 o x10) then
                    some (.bool false, [])
                  else
                    rdI .i64 c1 9 fun x11 =>
                    bif !(m87_0 o x11) then
                      some (.bool false, [])
                    else
                      rdI .i64 c1 10 fun x12 =>
                      bif !(m87_0 o x12) then
                        some (.bool false, [])
                      else
                        rdI .i64 c1 11 fun x13 =>
                        bif !(m87_0 o x13) then
                          some (.bool false, [])
                        else
                          rdI .i64 c1 12 fun x14 =>
                          bif !(m87_0 o x14) then
                            some (.bool false, [])
                          else
                            rdI .i64 c1 13 fun x15 =>
                            bif !(m87_0 o x15) then
                              some (.bool false, [])
                            else
                              rdI .i64 c1 14 fun x16 =>
                              bif !(m87_0 o x16) then
                                some (.bool false, [])
                              else
                                rdI .i64 c1 15 fun x17 =>
                                bif !(m87_0 o x17) then
                                  some (.bool false, [])
                                else
                                  rdI .i64 c1 16 fun x18 =>
                                  bif !(m87_0 o x18) then
                                    some (.bool false, [])
                                  else
                                    rdI .i64 c1 17 fun x19 =>
                                    bif !(m87_0 o x19) then
                                      some (.bool false, [])
                                    else
                                      rdI .i64 c1 18 fun x20 =>
                                      bif !(m87_0 o x20) then
                                        some (.bool false, [])
                                      else
                                        rdI .i64 c1 19 fun x21 =>
                                        bif !(m87_0 o x21) then
                                          some (.bool false, [])
                                        else
                                          rdI .i64 p0 20 fun x22 =>
                                          some (.bool (m87_0 o x22), [])
noncomputable def c51 (o : FO) (N : Nat) : Cx o :=
  { ty := tab [(2, ty2 o), (25, ty25 o), (27, ty27 o)]
    fn := tab [(87, .pure (e87 o))]
    rounds := 4096, nt := 17, base := 0
    loops := [loopU [1, 6, 7]] }
noncomputable def b51 : Code := match Try.f51.body with | some b => b | none => .skip
theorem is51 (N : Nat) : FnIs Try.prog (c51 ieee N) 51 Try.f51 b51 := ⟨by kernel_rfl, by kernel_rfl, by kernel_rfl, by kernel_rfl⟩
theorem eq51 (o : FO) (N : Nat) (p0 : List (AV o)) : afun (c51 o N) Try.f51.results.toList b51 [.agg p0] [] = f51 o p0 := by kernel_rfl
theorem cok51 (N : Nat) (hN : 4096 ≤ N) : CtxOk Try.prog (c51 ieee N) := by
  refine ctxOk ?_ ?_ mixed ?_
  · intro p hp
    simp only [List.mem_cons, List.not_mem_nil, or_false] at hp
    rcases hp with rfl | rfl | rfl
    · exact tyOk2
    · exact tyOk25
    · exact tyOk27
  · intro p hp
    simp only [List.mem_cons, List.not_mem_nil, or_false] at hp
    subst hp; exact ok87 N hN
  · intro p hp
    simp only [List.mem_cons, List.not_mem_nil, or_false] at hp
    subst hp; exact loopU_ok _
noncomputable def k51 (o : FO) : R o → Bool := fun r => match r with | some (.bool _, _) => true | _ => false
theorem k51_c (o : FO) (b : Bool) (x y : R o) : k51 o (bif b then x else y) = bif b then k51 o x else k51 o y := by cases b <;> rfl
noncomputable def m51_ok (o : FO) (p0 : List (AV o)) : Bool := k51 o (f51 o p0)
noncomputable def g51_0 (o : FO) : R o → Bool := fun r => match r with | some (.bool r0, _) => r0 | _ => false
theorem g51_0c (o : FO) (b : Bool) (x y : R o) : g51_0 o (bif b then x else y) = bif b then g51_0 o x else g51_0 o y := by cases b <;> rfl
noncomputable def m51_0 (o : FO) (p0 : List (AV o)) : Bool := g51_0 o (f51 o p0)
noncomputable def m51_h (o : FO) (p0 : List (AV o)) : Heap o := match f51 o p0 with | some (_, h) => h | _ => []
theorem val51 (o : FO) (p0 : List (AV o)) (h : m51_ok o p0 = true) : f51 o p0 = some (.bool (m51_0 o p0), m51_h o p0) := by
  unfold m51_ok k51 at h
  unfold m51_0 g51_0 m51_h
  generalize f51 o p0 = r at h ⊢
  split at h
  · rfl
  · cases h

noncomputable def e51 (o : FO) : List (AV o) → Tr (AV o)
  | [.agg p0] => .br (m51_ok o p0) (.leaf (.bool (m51_0 o p0))) .fail
  | _ => .fail
theorem ok51 (N : Nat) (hN : 4096 ≤ N) : CalOk Try.prog 51 (.pure (e51 ieee)) := by
  refine calOk_pure (cok51 4096 (Nat.le_refl _)) (is51 4096) ?_
  intro args av hg
  unfold e51 at hg
  split at hg
  · obtain ⟨h0, hg⟩ := br_get hg
    cases hg
    exact ⟨rfl, rfl, _, (eq51 ieee 4096 _).trans (val51 ieee _ h0)⟩
  · cases hg

/-! loop.example/g01224/impl.GatherDust -/
noncomputable def f16 (o : FO) (p0 : List (AV o)) : R o :=
  rdA p0 0 21 fun c1 =>
  gd (m51_ok o c1) (
  bif !(m51_0 o c1) then
    wrA (List.replicate 21 (.int .i64 (0 : Int))) 0 21 (List.replicate 21 (.int .i64 (0 : Int))) fun c2 =>
    rdA c2 0 21 fun c3 =>
    some (.tup [.agg c3, .int .i64 (1 : Int)], [])
  else
    rdI .i64 p0 19 fun x4 =>
    rdI .i64 p0 20 fun x5 =>
    wr1 p0 19 (.int .i64 (IntKind.wrap .i64 (x4 + ((x5).fdiv (2 ^ ((19 : Int)).toNat))))) fun c6 =>
    rdI .i64 c6 20 fun x7 =>
    rdI .i64 c6 20 fun x8 =>
    wr1 c6 20 (.int .i64 (IntKind.wrap .i64 (x7 - (IntKind.wrap .i64 (((x8).fdiv (2 ^ ((19 : Int)).toNat)) * 2 ^ (min ((19 : Int)).toNat (IntKind.bits .i64))))))) fun c9 =>
    rdI .i64 c9 18 fun x10 =>
    rdI .i64 c9 20 fun x11 =>
    wr1 c9 18 (.int .i64 (IntKind.wrap .i64 (x10 + ((x11).fdiv (2 ^ ((18 : Int)).toNat))))) fun c12 =>
    rdI .i64 c12 20 fun x13 =>
    rdI .i64 c12 20 fun x14 =>
    wr1 c12 20 (.int .i64 (IntKind.wrap .i64 (x13 - (IntKind.wrap .i64 (((x14).fdiv (2 ^ ((18 : Int)).toNat)) * 2 ^ (min ((18 : Int)).toNat (IntKind.bits .i64))))))) fun c15 =>
    rdI .i64 c15 17 fun x16 =>
    rdI .i64 c15 20 fun x17 =>
    wr1 c15 17 (.int .i64 (IntKind.wrap .i64 (x16 + ((x17).fdiv (2 ^ ((17 : Int)).toNat))))) fun c18 =>
    rdI .i64 c18 20 fun x19 =>
    rdI .i64 c18 20 fun x20 =>
    wr1 c18 20 (.int .i64 (IntKind.wrap .i64 (x19 - (IntKind.wrap .i64 (((x20).fdiv (2 ^ ((17 : Int)).toNat)) * 2 ^ (min ((17 : Int)).toNat (IntKind.bits .i64))))))) fun c21 =>
    rdI .i64 c21 16 fun x22 =>
    rdI .i64 c21 20 fun x23 =>
    wr1 c21 16 (.int .i64 (IntKind.wrap .i64 (x22 + ((x23).fdiv (2 ^ ((16 : Int)).toNat))))) fun c24 =>
    rdI .i64 c24 20 fun x25 =>
    rdI .i64 c24 20 fun x26 =>
    wr1 c24 20 (.int .i64 (IntKind.wrap .i64 (x25 - (IntKind.wrap .i64 (((x26).fdiv (2 ^ ((16 : Int)).toNat)) * 2 ^ (min ((16 : Int)).toNat (IntKind.bits .i64))))))) fun c27 =>
    rdI .i64 c27 15 fun x28 =>
    rdI .i64 c27 20 fun x29 =>
    wr1 c27 15 (.int .i64 (IntKind.wrap .i64 (x28 + ((x29).fdiv (2 ^ ((15 : Int)).toNat))))) fun c30 =>
    rdI .i64 c30 20 fun x31 =>
    rdI .i64 c30 20 fun x32 =>
    wr1 c30 20 (.int .i64 (IntKind.wrap .i64 (x31 - (IntKind.wrap .i64 (((x32).fdiv (2 ^ ((15 : Int)).toNat)) * 2 ^ (min ((15 : Int)).toNat (IntKind.bits .i64))))))) fun c33 =>
    rdI .i64 c33 14 fun x34 =>
    rdI .i64 c33 20 fun x35 =>
    wr1 c33 14 (.int .i64 (IntKind.wrap .i64 (x34 + ((x35).fdiv (2 ^ ((14 : Int)).toNat))))) fun c36 =>
    rdI .i64 c36 20 fun x37 =>
    rdI .i64 c36 20 fun x38 =>
    wr1 c36 20 (.int .i64 (IntKind.wrap .i64 (x37 - (IntKind.wrap .i64 (((x38).fdiv (2 ^ ((14 : Int)).toNat)) * 2 ^ (min ((14 : Int)).toNat (IntKind.bits .i64))))))) fun c39 =>
    rdI .i64 c39 13 fun x40 =>
    rdI .i64 c39 20 fun x41 =>
    wr1 c39 13 (.int .i64 (IntKind.wrap .i64 (x40 + ((x41).fdiv (2 ^ ((13 : Int)).toNat))))) fun c42 =>
    rdI .i64 c42 20 fun x43 =>
    rdI .i64 c42 20 fun x44 =>
    wr1 c42 20 (.int .i64 (IntKind.wrap .i64 (x43 - (IntKind.wrap .i64 (((x44).fdiv (2 ^ ((13 : Int)).toNat)) * 2 ^ (min ((13 : Int)).toNat (IntKind.bits .i64))))))) fun c45 =>
    rdI .i64 c45 12 fun x46 =>
    rdI .i64 c45 20 fun x47 =>
    wr1 c45 12 (.int .i64 (IntKind.wrap .i64 (x46 + ((x47).fdiv (2 ^ ((12 : Int)).toNat))))) fun c48 =>
    rdI .i64 c48 20 fun x49 =>
    rdI .i64 c48 20 fun x50 =>
    wr1 c48 20 (.int .i64 (IntKind.wrap .i64 (x49 - (IntKind.wrap .i64 (((x50).fdiv (2 ^ ((12 : Int)).toNat)) * 2 ^ (min ((12 : Int)).toNat (IntKind.bits .i64))))))) fun c51 =>
    rdI .i64 c51 11 fun x52 =>
    rdI .i64 c51 20 fun x53 =>
    wr1 c51 11 (.int .i64 (IntKind.wrap .i64 (x52 + ((x53).fdiv (2 ^ ((11 : Int)).toNat))))) fun c54 =>
    rdI .i64 c54 20 fun x55 =>
    rdI .i64 c54 20 fun x56 =>
    wr1 c54 20 (.int .i64 (IntKind.wrap .i64 (x55 - (IntKind.wrap .i64 (((x56).fdiv (2 ^ ((11 : Int)).toNat)) * 2 ^ (min ((11 : Int)).toNat (IntKind.bits .i64))))))) fun c57 =>
    rdI .i64 c57 10 fun x58 =>
    rdI .i64 c57 20 fun x59 =>
    wr1 c57 10 (.int .i64 (IntKind.wrap .i64 (x58 + ((x59).fdiv (2 ^ ((10 : Int)).toNat))))) fun c60 =>
    rdI .i64 c60 20 fun x61 =>
    rdI .i64 c60 20 fun x62 =>
    wr1 c60 20 (.int .i64 (IntKind.wrap .i64 (x61 - (IntKind.wrap .i64 (((x62).fdiv (2 ^ ((10 : Int)).toNat)) * 2 ^ (min ((10 : Int)).toNat (IntKind.bits .i64))))))) fun c63 =>
    rdI .i64 c63 9 fun x64 =>
    rdI .i64 c63 20 fun x65 =>
    wr1 c63 9 (.int .i64 (IntKind.wrap .i64 (x64 + ((x65).fdiv (2 ^ ((9 : Int)).toNat))))) fun c66 =>
    rdI .i64 c66 20 fun x67 =>
    rdI .i64 c66 20 fun x68 =>
    wr1 c66 20 (.int .i64 (IntKind.wrap .i64 (x67 - (IntKind.wrap .i64 (((x68).fdiv (2 ^ ((9 : Int)).toNat)) * 2 ^ (min ((9 : Int)).toNat (IntKind.bits .i64))))))) fun c69 =>
    rdI .i64 c69 8 fun x70 =>
    rdI .i64 c69 20 fun x71 =>
    wr1 c69 8 (.int .i64 (IntKind.wrap .i64 (x70 + ((x71).fdiv (2 ^ ((8 : Int)).toNat))))) fun c72 =>
    rdI .i64 c72 20 fun x73 =>
    rdI .i64 c72 20 fun x74 =>
    wr1 c72 20 (.int .i64 (IntKind.wrap .i64 (x73 - (IntKind.wrap .i64 (((x74).fdiv (2 ^ ((8 : Int)).toNat)) * 2 ^ (min ((8 : Int)).toNat (IntKind.bits .i64))))))) fun c75 =>
    rdI .i64 c75 7 fun x76 =>
    rdI .i64 c75 20 fun x77 =>
    wr1 c75 7 (.int .i64 (IntKind.wrap .i64 (x76 + ((x77).fdiv (2 ^ ((7 : Int)).toNat))))) fun c78 =>
    rdI .i64 c78 20 fun x79 =>
    rdI .i64 c78 20 fun x80 =>
    wr1 c78 20 (.int .i64 (IntKind.wrap .i64 (x79 - (IntKind.wrap .i64 (((x80).fdiv (2 ^ ((7 : Int)).toNat)) * 2 ^ (min ((7 : Int)).toNat (IntKind.bits .i64))))))) fun c81 =>
    rdI .i64 c81 6 fun x82 =>
    rdI .i64 c81 20 fun x83 =>
    wr1 c81 6 (.int .i64 (IntKind.wrap .i64 (x82 + ((x83).fdiv (2 ^ ((6 : Int)).toNat))))) fun c84 =>
    rdI .i64 c84 20 fun x85 =>
    rdI .i64 c84 20 fun x86 =>
    wr1 c84 20 (.int .i64 (IntKind.wrap .i64 (x85 - (IntKind.wrap .i64 (((x86).fdiv (2 ^ ((6 : Int)).toNat)) * 2 ^ (min ((6 : Int)).toNat (IntKind.bits .i64))))))) fun c87 =>
    rdI .i64 c87 5 fun x88 =>
    rdI .i64 c87 20 fun x89 =>
    wr1 c87 5 (.int .i64 (IntKind.wrap .i64 (x88 + ((x89).fdiv (2 ^ ((5 : Int)).toNat))))) fun c90 =>
    rdI .i64 c90 20 fun x91 =>
    rdI .i64 c90 20 fun x92 =>
    wr1 c90 20 (.int .i64 (IntKind.wrap .i64 (x91 - (IntKind.wrap .i64 (((x92).fdiv (2 ^ ((5 : Int)).toNat)) * 2 ^ (min ((5 : Int)).toNat (IntKind.bits .i64))))))) fun c93 =>
    rdI .i64 c93 4 fun x94 =>
    rdI .i64 c93 20 fun x95 =>
    wr1 c93 4 (.int .i64 (IntKind.wrap .i64 (x94 + ((x95).fdiv (2 ^ ((4 : Int)).toNat))))) fun c96 =>
    rdI .i64 c96 20 fun x97 =>
    rdI .i64 c96 20 fun x98 =>
    wr1 c96 20 (.int .i64 (IntKind.wrap .i64 (x97 - (IntKind.wrap .i64 (((x98).fdiv (2 ^ ((4 : Int)).toNat)) * 2 ^ (min ((4 : Int)).toNat (IntKind.bits .i64))))))) fun c99 =>
    rdI .i64 c99 3 fun x100 =>
    rdI .i64 c99 20 fun x101 =>
    wr1 c99 3 (.int .i64 (IntKind.wrap .i64 (x100 + ((x101).fdiv (2 ^ ((3 : Int)).toNat))))) fun c102 =>
    rdI .i64 c102 20 fun x103 =>
    rdI .i64 c102 20 fun x104 =>
    wr1 c102 20 (.int .i64 (IntKind.wrap .i64 (x103 - (IntKind.wrap .i64 (((x104).fdiv (2 ^ ((3 : Int)).toNat)) * 2 ^ (min ((3 : Int)).toNat (IntKind.bits .i64))))))) fun c105 =>
    rdI .i64 c105 2 fun x106 =>
    rdI .i64 c105 20 fun x107 =>
    wr1 c105 2 (.int .i64 (IntKind.wrap .i64 (x106 + ((x107).fdiv (2 ^ ((2 : Int)).toNat))))) fun c108 =>
    rdI .i64 c108 20 fun x109 =>
    rdI .i64 c108 20 fun x110 =>
    wr1 c108 20 (.int .i64 (IntKind.wrap .i64 (x109 - (IntKind.wrap .i64 (((x110).fdiv (2 ^ ((2 : Int)).toNat)) * 2 ^ (min ((2 : Int)).toNat (IntKind.bits .i64))))))) fun c111 =>
    rdI .i64 c111 1 fun x112 =>
    rdI .i64 c111 20 fun x113 =>
    wr1 c111 1 (.int .i64 (IntKind.wrap .i64 (x112 + ((x113).fdiv (2 ^ ((1 : Int)).toNat))))) fun c114 =>
    rdI .i64 c114 20 fun x115 =>
    rdI .i64 c114 20 fun x116 =>
    wr1 c114 20 (.int .i64 (IntKind.wrap .i64 (x115 - (IntKind.wrap .i64 (((x116).fdiv (2 ^ ((1 : Int)).toNat)) * 2 ^ (min ((1 : Int)).toNat (IntKind.bits .i64))))))) fun c117 =>
    rdI .i64 c117 0 fun x118 =>
    rdI .i64 c117 20 fun x119 =>
    wr1 c117 0 (.int .i64 (IntKind.wrap .i64 (x118 + ((x119).fdiv (2 ^ ((0 : Int)).toNat))))) fun c120 =>
    rdI .i64 c120 20 fun x121 =>
    rdI .i64 c120 20 fun x122 =>
    wr1 c120 20 (.int .i64 (IntKind.wrap .i64 (x121 - (IntKind.wrap .i64 (((x122).fdiv (2 ^ ((0 : Int)).toNat)) * 2 ^ (min ((0 : Int)).toNat (IntKind.bits .i64))))))) fun c123 =>
    rdA c123 0 21 fun c124 =>
    gd (m51_ok o c124) (
    bif !(m51_0 o c124) then
      wrA (List.replicate 21 (.int .i64 (0 : Int))) 0 21 (List.replicate 21 (.int .i64 (0 : Int))) fun c125 =>
      rdA c125 0 21 fun c126 =>
      some (.tup [.agg c126, .int .i64 (3 : Int)], [])
    else
      rdA c123 0 21 fun c127 =>
      wrA (List.replicate 21 (.int .i64 (0 : Int))) 0 21 c127 fun c128 =>
      rdA c128 0 21 fun c129 =>
      some (.tup [.agg c129, .int .i64 (0 : Int)], [])))
noncomputable def c16 (o : FO) (N : Nat) : Cx o :=
  { ty := tab [(2, ty2 o), (25, ty25 o), (27, ty27 o)]
    fn := tab [(51, .pure (e51 o))]
    rounds := 4096, nt := 39, base := 0
    loops := [loopU [1, 2, 4]] }
noncomputable def b16 : Code := match Try.f16.body with | some b => b | none => .skip
theorem is16 (N : Nat) : FnIs Try.prog (c16 ieee N) 16 Try.f16 b16 := ⟨by kernel_rfl, by kernel_rfl, by kernel_rfl, by kernel_rfl⟩
theorem eq16 (o : FO) (N : Nat) (p0 : List (AV o)) : afun (c16 o N) Try.f16.results.toList b16 [.agg p0] [] = f16 o p0 := by kernel_rfl
theorem cok16 (N : Nat) (hN : 4096 ≤ N) : CtxOk Try.prog (c16 ieee N) := by
  refine ctxOk ?_ ?_ mixed ?_
  · intro p hp
    simp only [List.mem_cons, List.not_mem_nil, or_false] at hp
    rcases hp with rfl | rfl | rfl
    · exact tyOk2
    · exact tyOk25
    · exact tyOk27
  · intro p hp
    simp only [List.mem_cons, List.not_mem_nil, or_false] at hp
    subst hp; exact ok51 N hN
  · intro p hp
    simp only [List.mem_cons, List.not_mem_nil, or_false] at hp
    subst hp; exact loopU_ok _
noncomputable def k16 (o : FO) : R o → Bool := fun r => match r with | some (.tup [.agg _, .int .i64 _], _) => true | _ => false
theorem k16_c (o : FO) (b : Bool) (x y : R o) : k16 o (bif b then x else y) = bif b then k16 o x else k16 o y := by cases b <;> rfl
noncomputable def m16_ok (o : FO) (p0 : List (AV o)) : Bool := k16 o (f16 o p0)
noncomputable def g16_0 (o : FO) : R o → List (AV o) := fun r => match r with | some (.tup [.agg r0, .int .i64 _], _) => r0 | _ => []
theorem g16_0c (o : FO) (b : Bool) (x y : R o) : g16_0 o (bif b then x else y) = bif b then g16_0 o x else g16_0 o y := by cases b <;> rfl
noncomputable def m16_0 (o : FO) (p0 : List (AV o)) : List (AV o) := g16_0 o (f16 o p0)
noncomputable def g16_1 (o : FO) : R o → Int := fun r => match r with | some (.tup [.agg _, .int .i64 r1], _) => r1 | _ => 0
theorem g16_1c (o : FO) (b : Bool) (x y : R o) : g16_1 o (bif b then x else y) = bif b then g16_1 o x else g16_1 o y := by cases b <;> rfl
noncomputable def m16_1 (o : FO) (p0 : List (AV o)) : Int := g16_1 o (f16 o p0)
noncomputable def m16_h (o : FO) (p0 : List (AV o)) : Heap o := match f16 o p0 with | some (_, h) => h | _ => []
theorem val16 (o : FO) (p0 : List (AV o)) (h : m16_ok o p0 = true) : f16 o p0 = some (.tup [.agg (m16_0 o p0), .int .i64 (m16_1 o p0)], m16_h o p0) := by
  unfold m16_ok k16 at h
  unfold m16_0 g16_0 m16_1 g16_1 m16_h
  generalize f16 o p0 = r at h ⊢
  split at h
  · rfl
  · cases h

noncomputable def e16 (o : FO) : List (AV o) → Tr (AV o)
  | [.agg p0] => .br (m16_ok o p0) (.leaf (.tup [.agg (m16_0 o p0), .int .i64 (m16_1 o p0)])) .fail
  | _ => .fail
theorem ok16 (N : Nat) (hN : 4096 ≤ N) : CalOk Try.prog 16 (.pure (e16 ieee)) := by
  refine calOk_pure (cok16 4096 (Nat.le_refl _)) (is16 4096) ?_
  intro args av hg
  unfold e16 at hg
  split at hg
  · obtain ⟨h0, hg⟩ := br_get hg
    cases hg
    exact ⟨rfl, rfl, _, (eq16 ieee 4096 _).trans (val16 ieee _ h0)⟩
  · cases hg

/-! loop.example/g01224/laws.eqCounts -/
noncomputable def f52 (o : FO) (p0 : List (AV o)) (p1 : List (AV o)) : R o :=
  rdI .i64 p0 0 fun x1 =>
  rdI .i64 p1 0 fun x2 =>
  bif x1 != x2 then
    some (.bool false, [])
  else
    rdI .i64 p0 1 fun x3 =>
    rdI .i64 p1 1 fun x4 =>
    bif x3 != x4 then
      some (.bool false, [])
    else
      rdI .i64 p0 2 fun x5 =>
      rdI .i64 p1 2 fun x6 =>
      bif x5 != x6 then
        some (.bool false, [])
      else
        rdI .i64 p0 3 fun x7 =>
        rdI .i64 p1 3 fun x8 =>
        bif x7 != x8 then
          some (.bool false, [])
        else
          rdI .i64 p0 4 fun x9 =>
          rdI .i64 p1 4 fun x10 =>
          bif x9 != x10 then
            some (.bool false, [])
          else
            rdI .i64 p0 5 fun x11 =>
            rdI .i64 p1 5 fun x12 =>
            bif x11 != x12 then
              some (.bool false, [])
            else
              rdI .i64 p0 6 fun x13 =>
              rdI .i64 p1 6 fun x14 =>
              bif x13 != x14 then
                some (.bool false, [])
              else
                rdI .i64 p0 7 fun x15 =>
                rdI .i64 p1 7 fun x16 =>
                bif x15 != x16 then
                  some (.bool false, [])
                else
                  rdI .i64 p0 8 fun x17 =>
                  rdI .i64 p1 8 fun x18 =>
                  bif x17 != x18 then
                    some (.bool false, [])
                  else
                    rdI .i64 p0 9 fun x19 =>
                    rdI .i64 p1 9 fun x20 =>
                    bif x19 != x20 then
                      some (.bool false, [])
                    else
                      rdI .i64 p0 10 fun x21 =>
                      rdI .i64 p1 10 fun x22 =>
                      bif x21 != x22 then
                        some (.bool false, [])
                      else
                        rdI .i64 p0 11 fun x23 =>
                        rdI .i64 p1 11 fun x24 =>
                        bif x23 != x24 then
                          some (.bool false, [])
                        else
                          rdI .i64 p0 12 fun x25 =>
                          rdI .i64 p1 12 fun x26 =>
                          bif x25 != x26 then
                            some (.bool false, [])
                          else
                            rdI .i64 p0 13 fun x27 =>
                            rdI .i64 p1 13 fun x28 =>
                            bif x27 != x28 then
                              some (.bool false, [])
                            else
                              rdI .i64 p0 14 fun x29 =>
                              rdI .i64 p1 14 fun x30 =>
                              bif x29 != x30 then
                                some (.bool false, [])
                              else
                                rdI .i64 p0 15 fun x31 =>
                                rdI .i64 p1 15 fun x32 =>
                                bif x31 != x32 then
                                  some (.bool false, [])
                                else
                                  rdI .i64 p0 16 fun x33 =>
                                  rdI .i64 p1 16 fun x34 =>
                                  bif x33 != x34 then
                                    some (.bool false, [])
                                  else
                                    rdI .i64 p0 17 fun x35 =>
                                    rdI .i64 p1 17 fun x36 =>
                                    bif x35 != x36 then
                                      some (.bool false, [])
                                    else
                                      rdI .i64 p0 18 fun x37 =>
                                      rdI .i64 p1 18 fun x38 =>
                                      bif x37 != x38 then
                                        some (.bool false, [])
                                      else
                                        rdI .i64 p0 19 fun x39 =>
                                        rdI .i64 p1 19 fun x40 =>
                                        bif x39 != x40 then
                                          some (.bool false, [])
                                        else
                                          some (.bool true, [])
noncomputable def c52 (o : FO) (N : Nat) : Cx o :=
  { ty := tab [(2, ty2 o), (25, ty25 o)]
    fn := tab []
    rounds := 4096, nt := 17, base := 0
    loops := [loopU [2, 3, 5]] }
noncomputable def b52 : Code := match Try.f52.body with | some b => b | none => .skip
theorem is52 (N : Nat) : FnIs Try.prog (c52 ieee N) 52 Try.f52 b52 := ⟨by kernel_rfl, by kernel_rfl, by kernel_rfl, by kernel_rfl⟩
theorem eq52 (o : FO) (N : Nat) (p0 : List (AV o)) (p1 : List (AV o)) : afun (c52 o N) Try.f52.results.toList b52 [.agg p0, .agg p1] [] = f52 o p0 p1 := by kernel_rfl
theorem cok52 (N : Nat) (hN : 4096 ≤ N) : CtxOk Try.prog (c52 ieee N) := by
  refine ctxOk ?_ ?_ mixed ?_
  · intro p hp
    simp only [List.mem_cons, List.not_mem_nil, or_false] at hp
    rcases hp with rfl | rfl
    · exact tyOk2
    · exact tyOk25
  · intro p hp; cases hp
  · intro p hp
    simp only [List.mem_cons, List.not_mem_nil, or_false] at hp
    subst hp; exact loopU_ok _
noncomputable def k52 (o : FO) : R o → Bool := fun r => match r with | some (.bool _, _) => true | _ => false
theorem k52_c (o : FO) (b : Bool) (x y : R o) : k52 o (bif b then x else y) = bif b then k52 o x else k52 o y := by cases b <;> rfl
noncomputable def m52_ok (o : FO) (p0 : List (AV o)) (p1 : List (AV o)) : Bool := k52 o (f52 o p0 p1)
noncomputable def g52_0 (o : FO) : R o → Bool := fun r => match r with | some (.bool r0, _) => r0 | _ => false
theorem g52_0c (o : FO) (b : Bool) (x y : R o) : g52_0 o (bif b then x else y) = bif b then g52_0 o x else g52_0 o y := by cases b <;> rfl
noncomputable def m52_0 (o : FO) (p0 : List (AV o)) (p1 : List (AV o)) : Bool := g52_0 o (f52 o p0 p1)
noncomputable def m52_h (o : FO) (p0 : List (AV o)) (p1 : List (AV o)) : Heap o := match f52 o p0 p1 with | some (_, h) => h | _ => []
theorem val52 (o : FO) (p0 : List (AV o)) (p1 : List (AV o)) (h : m52_ok o p0 p1 = true) : f52 o p0 p1 = some (.bool (m52_0 o p0 p1), m52_h o p0 p1) := by
  unfold m52_ok k52 at h
  unfold m52_0 g52_0 m52_h
  generalize f52 o p0 p1 = r at h ⊢
  split at h
  · rfl
  · cases h

noncomputable def e52 (o : FO) : List (AV o) → Tr (AV o)
  | [.agg p0, .agg p1] => .br (m52_ok o p0 p1) (.leaf (.bool (m52_0 o p0 p1))) .fail
  | _ => .fail
theorem ok52 (N : Nat) (hN : 4096 ≤ N) : CalOk Try.prog 52 (.pure (e52 ieee)) := by
  refine calOk_pure (cok52 4096 (Nat.le_refl _)) (is52 4096) ?_
  intro args av hg
  unfold e52 at hg
  split at hg
  · obtain ⟨h0, hg⟩ := br_get hg
    cases hg
    exact ⟨rfl, rfl, _, (eq52 ieee 4096 _ _).trans (val52 ieee _ _ h0)⟩
  · cases hg

/-! loop.example/g01224/laws.eqBox -/
noncomputable def f17 (o : FO) (p0 : List (AV o)) (p1 : List (AV o)) : R o :=
  rdA p0 0 20 fun c1 =>
  rdA p1 0 20 fun c2 =>
  gd (m52_ok o c1 c2) (
  bif !(m52_0 o c1 c2) then
    some (.bool false, [])
  else
    rdI .i64 p0 20 fun x3 =>
    rdI .i64 p1 20 fun x4 =>
    bif x3 != x4 then
      some (.bool false, [])
    else
      some (.bool true, []))
noncomputable def c17 (o : FO) (N : Nat) : Cx o :=
  { ty := tab [(2, ty2 o), (25, ty25 o), (27, ty27 o)]
    fn := tab [(52, .pure (e52 o))]
    rounds := 4096, nt := 16, base := 0
    loops := [] }
noncomputable def b17 : Code := match Try.f17.body with | some b => b | none => .skip
theorem is17 (N : Nat) : FnIs Try.prog (c17 ieee N) 17 Try.f17 b17 := ⟨by kernel_rfl, by kernel_rfl, by kernel_rfl, by kernel_rfl⟩
theorem eq17 (o : FO) (N : Nat) (p0 : List (AV o)) (p1 : List (AV o)) : afun (c17 o N) Try.f17.results.toList b17 [.agg p0, .agg p1] [] = f17 o p0 p1 := by kernel_rfl
theorem cok17 (N : Nat) (hN : 4096 ≤ N) : CtxOk Try.prog (c17 ieee N) := by
  refine ctxOk ?_ ?_ mixed ?_
  · intro p hp
    simp only [List.mem_cons, List.not_mem_nil, or_false] at hp
    rcases hp with rfl | rfl | rfl
    · exact tyOk2
    · exact tyOk25
    · exact tyOk27
  · intro p hp
    simp only [List.mem_cons, List.not_mem_nil, or_false] at hp
    subst hp; exact ok52 N hN
  · intro p hp; cases hp
noncomputable def k17 (o : FO) : R o → Bool := fun r => match r with | some (.bool _, _) => true | _ => false
theorem k17_c (o : FO) (b : Bool) (x y : R o) : k17 o (bif b then x else y) = bif b then k17 o x else k17 o y := by cases b <;> rfl
noncomputable def m17_ok (o : FO) (p0 : List (AV o)) (p1 : List (AV o)) : Bool := k17 o (f17 o p0 p1)
noncomputable def g17_0 (o : FO) : R o → Bool := fun r => match r with | some (.bool r0, _) => r0 | _ => false
theorem g17_0c (o : FO) (b : Bool) (x y : R o) : g17_0 o (bif b then x else y) = bif b then g17_0 o x else g17_0 o y := by cases b <;> rfl
noncomputable def m17_0 (o : FO) (p0 : List (AV o)) (p1 : List (AV o)) : Bool := g17_0 o (f17 o p0 p1)
noncomputable def m17_h (o : FO) (p0 : List (AV o)) (p1 : List (AV o)) : Heap o := match f17 o p0 p1 with | some (_, h) => h | _ => []
theorem val17 (o : FO) (p0 : List (AV o)) (p1 : List (AV o)) (h : m17_ok o p0 p1 = true) : f17 o p0 p1 = some (.bool (m17_0 o p0 p1), m17_h o p0 p1) := by
  unfold m17_ok k17 at h
  unfold m17_0 g17_0 m17_h
  generalize f17 o p0 p1 = r at h ⊢
  split at h
  · rfl
  · cases h

noncomputable def e17 (o : FO) : List (AV o) → Tr (AV o)
  | [.agg p0, .agg p1] => .br (m17_ok o p0 p1) (.leaf (.bool (m17_0 o p0 p1))) .fail
  | _ => .fail
theorem ok17 (N : Nat) (hN : 4096 ≤ N) : CalOk Try.prog 17 (.pure (e17 ieee)) := by
  refine calOk_pure (cok17 4096 (Nat.le_refl _)) (is17 4096) ?_
  intro args av hg
  unfold e17 at hg
  split at hg
  · obtain ⟨h0, hg⟩ := br_get hg
    cases hg
    exact ⟨rfl, rfl, _, (eq17 ieee 4096 _ _).trans (val17 ieee _ _ h0)⟩
  · cases hg

/-! loop.example/g01224/laws.FnExactGatherDust -/
noncomputable def f3 (o : FO) (p0 : List (AV o)) : R o :=
  rdA p0 0 21 fun c1 =>
  gd (m15_ok o c1) (
  gd (m14_ok o (m15_0 o c1)) (
  wrA (List.replicate 21 (.int .i64 (0 : Int))) 0 21 (m14_0 o (m15_0 o c1)) fun c2 =>
  rdA p0 0 21 fun c3 =>
  gd (m15_ok o c3) (
  gd (m16_ok o (m15_0 o c3)) (
  wrA (List.replicate 21 (.int .i64 (0 : Int))) 0 21 (m16_0 o (m15_0 o c3)) fun c4 =>
  rdA c4 0 21 fun c5 =>
  rdA c2 0 21 fun c6 =>
  gd (m17_ok o c5 c6) (
  bif m17_0 o c5 c6 then
    bif (m16_1 o (m15_0 o c3)) != (m14_1 o (m15_0 o c1)) then
      some (.bool false, [])
    else
      some (.bool true, [])
  else
    some (.bool false, []))))))
noncomputable def c3 (o : FO) (N : Nat) : Cx o :=
  { ty := tab [(24, ty24 o), (27, ty27 o)]
    fn := tab [(14, .pure (e14 o)), (15, .pure (e15 o)), (16, .pure (e16 o)), (17, .pure (e17 o))]
    rounds := 4096, nt := 28, base := 0
    loops := [] }
noncomputable def b3 : Code := match Try.f3.body with | some b => b | none => .skip
theorem is3 (N : Nat) : FnIs Try.prog (c3 ieee N) 3 Try.f3 b3 := ⟨by kernel_rfl, by kernel_rfl, by kernel_rfl, by kernel_rfl⟩
theorem eq3 (o : FO) (N : Nat) (p0 : List (AV o)) : afun (c3 o N) Try.f3.results.toList b3 [.agg p0] [] = f3 o p0 := by kernel_rfl
theorem cok3 (N : Nat) (hN : 4096 ≤ N) : CtxOk Try.prog (c3 ieee N) := by
  refine ctxOk ?_ ?_ mixed ?_
  · intro p hp
    simp only [List.mem_cons, List.not_mem_nil, or_false] at hp
    rcases hp with rfl | rfl
    · exact tyOk24
    · exact tyOk27
  · intro p hp
    simp only [List.mem_cons, List.not_mem_nil, or_false] at hp
    rcases hp with rfl | rfl | rfl | rfl
    · exact ok14 N hN
    · exact ok15 N hN
    · exact ok16 N hN
    · exact ok17 N hN
  · intro p hp; cases hp
noncomputable def k3 (o : FO) : R o → Bool := fun r => match r with | some (.bool _, _) => true | _ => false
theorem k3_c (o : FO) (b : Bool) (x y : R o) : k3 o (bif b then x else y) = bif b then k3 o x else k3 o y := by cases b <;> rfl
noncomputable def m3_ok (o : FO) (p0 : List (AV o)) : Bool := k3 o (f3 o p0)
noncomputable def g3_0 (o : FO) : R o → Bool := fun r => match r with | some (.bool r0, _) => r0 | _ => false
theorem g3_0c (o : FO) (b : Bool) (x y : R o) : g3_0 o (bif b then x else y) = bif b then g3_0 o x else g3_0 o y := by cases b <;> rfl
noncomputable def m3_0 (o : FO) (p0 : List (AV o)) : Bool := g3_0 o (f3 o p0)
noncomputable def m3_h (o : FO) (p0 : List (AV o)) : Heap o := match f3 o p0 with | some (_, h) => h | _ => []
theorem val3 (o : FO) (p0 : List (AV o)) (h : m3_ok o p0 = true) : f3 o p0 = some (.bool (m3_0 o p0), m3_h o p0) := by
  unfold m3_ok k3 at h
  unfold m3_0 g3_0 m3_h
  generalize f3 o p0 = r at h ⊢
  split at h
  · rfl
  · cases h

noncomputable def e3 (o : FO) : List (AV o) → Tr (AV o)
  | [.agg p0] => .br (m3_ok o p0) (.leaf (.bool (m3_0 o p0))) .fail
  | _ => .fail
theorem ok3 (N : Nat) (hN : 4096 ≤ N) : CalOk Try.prog 3 (.pure (e3 ieee)) := by
  refine calOk_pure (cok3 4096 (Nat.le_refl _)) (is3 4096) ?_
  intro args av hg
  unfold e3 at hg
  split at hg
  · obtain ⟨h0, hg⟩ := br_get hg
    cases hg
    exact ⟨rfl, rfl, _, (eq3 ieee 4096 _).trans (val3 ieee _ h0)⟩
  · cases hg

end Go.Proofs.Ytbmakfcooonogaa
