import Derived.Test.YtbmakfcooonogaaG0
set_option linter.unusedVariables false
set_option maxRecDepth 100000
namespace Go.Proofs.Ytbmakfcooonogaa
open Go.Ab Go.RowKit

/-! loop.example/g01224/laws.toCounts -/
noncomputable def f50 (o : FO) (p0 : List (AV o)) : R o :=
  rdI .i64 p0 0 fun x1 =>
  wr1 (List.replicate 20 (.int .i64 (0 : Int))) 0 (.int .i64 x1) fun c2 =>
  rdI .i64 p0 1 fun x3 =>
  wr1 c2 1 (.int .i64 x3) fun c4 =>
  rdI .i64 p0 2 fun x5 =>
  wr1 c4 2 (.int .i64 x5) fun c6 =>
  rdI .i64 p0 3 fun x7 =>
  wr1 c6 3 (.int .i64 x7) fun c8 =>
  rdI .i64 p0 4 fun x9 =>
  wr1 c8 4 (.int .i64 x9) fun c10 =>
  rdI .i64 p0 5 fun x11 =>
  wr1 c10 5 (.int .i64 x11) fun c12 =>
  rdI .i64 p0 6 fun x13 =>
  wr1 c12 6 (.int .i64 x13) fun c14 =>
  rdI .i64 p0 7 fun x15 =>
  wr1 c14 7 (.int .i64 x15) fun c16 =>
  rdI .i64 p0 8 fun x17 =>
  wr1 c16 8 (.int .i64 x17) fun c18 =>
  rdI .i64 p0 9 fun x19 =>
  wr1 c18 9 (.int .i64 x19) fun c20 =>
  rdI .i64 p0 10 fun x21 =>
  wr1 c20 10 (.int .i64 x21) fun c22 =>
  rdI .i64 p0 11 fun x23 =>
  wr1 c22 11 (.int .i64 x23) fun c24 =>
  rdI .i64 p0 12 fun x25 =>
  wr1 c24 12 (.int .i64 x25) fun c26 =>
  rdI .i64 p0 13 fun x27 =>
  wr1 c26 13 (.int .i64 x27) fun c28 =>
  rdI .i64 p0 14 fun x29 =>
  wr1 c28 14 (.int .i64 x29) fun c30 =>
  rdI .i64 p0 15 fun x31 =>
  wr1 c30 15 (.int .i64 x31) fun c32 =>
  rdI .i64 p0 16 fun x33 =>
  wr1 c32 16 (.int .i64 x33) fun c34 =>
  rdI .i64 p0 17 fun x35 =>
  wr1 c34 17 (.int .i64 x35) fun c36 =>
  rdI .i64 p0 18 fun x37 =>
  wr1 c36 18 (.int .i64 x37) fun c38 =>
  rdI .i64 p0 19 fun x39 =>
  wr1 c38 19 (.int .i64 x39) fun c40 =>
  rdA c40 0 20 fun c41 =>
  wrA (List.replicate 20 (.int .i64 (0 : Int))) 0 20 c41 fun c42 =>
  rdA c42 0 20 fun c43 =>
  some (.agg c43, [])
noncomputable def c50 (o : FO) (N : Nat) : Cx o :=
  { ty := tab [(2, ty2 o), (22, ty22 o), (25, ty25 o)]
    fn := tab []
    rounds := 4096, nt := 15, base := 0
    loops := [loopU [1, 2, 3, 4]] }
noncomputable def b50 : Code := match Try.f50.body with | some b => b | none => .skip
theorem is50 (N : Nat) : FnIs Try.prog (c50 ieee N) 50 Try.f50 b50 := ⟨by kernel_rfl, by kernel_rfl, by kernel_rfl, by kernel_rfl⟩
theorem eq50 (o : FO) (N : Nat) (p0 : List (AV o)) : afun (c50 o N) Try.f50.results.toList b50 [.agg p0] [] = f50 o p0 := by kernel_rfl
theorem cok50 (N : Nat) (hN : 4096 ≤ N) : CtxOk Try.prog (c50 ieee N) := by
  refine ctxOk ?_ ?_ mixed ?_
  · intro p hp
    simp only [List.mem_cons, List.not_mem_nil, or_false] at hp
    rcases hp with rfl | rfl | rfl
    · exact tyOk2
    · exact tyOk22
    · exact tyOk25
  · intro p hp; cases hp
  · intro p hp
    simp only [List.mem_cons, List.not_mem_nil, or_false] at hp
    subst hp; exact loopU_ok _
noncomputable def k50 (o : FO) : R o → Bool := fun r => match r with | some (.agg _, _) => true | _ => false
theorem k50_c (o : FO) (b : Bool) (x y : R o) : k50 o (bif b then x else y) = bif b then k50 o x else k50 o y := by cases b <;> rfl
noncomputable def m50_ok (o : FO) (p0 : List (AV o)) : Bool := k50 o (f50 o p0)
noncomputable def g50_0 (o : FO) : R o → List (AV o) := fun r => match r with | some (.agg r0, _) => r0 | _ => []
theorem g50_0c (o : FO) (b : Bool) (x y : R o) : g50_0 o (bif b then x else y) = bif b then g50_0 o x else g50_0 o y := by cases b <;> rfl
noncomputable def m50_0 (o : FO) (p0 : List (AV o)) : List (AV o) := g50_0 o (f50 o p0)
noncomputable def m50_h (o : FO) (p0 : List (AV o)) : Heap o := match f50 o p0 with | some (_, h) => h | _ => []
theorem val50 (o : FO) (p0 : List (AV o)) (h : m50_ok o p0 = true) : f50 o p0 = some (.agg (m50_0 o p0), m50_h o p0) := by
  unfold m50_ok k50 at h
  unfold m50_0 g50_0 m50_h
  generalize f50 o p0 = r at h ⊢
  split at h
  · rfl
  · cases h

noncomputable def e50 (o : FO) : List (AV o) → Tr (AV o)
  | [.agg p0] => .br (m50_ok o p0) (.leaf (.agg (m50_0 o p0))) .fail
  | _ => .fail
theorem ok50 (N : Nat) (hN : 4096 ≤ N) : CalOk Try.prog 50 (.pure (e50 ieee)) := by
  refine calOk_pure (cok50 4096 (by decide)) (is50 4096) ?_
  intro args av hg
  unfold e50 at hg
  split at hg
  · obtain ⟨h0, hg⟩ := br_get hg
    cases hg
    exact ⟨rfl, rfl, _, (eq50 ieee 4096 _).trans (val50 ieee _ h0)⟩
  · cases hg

/-! loop.example/g01224/laws.toBox -/
noncomputable def f15 (o : FO) (p0 : List (AV o)) : R o :=
  rdA p0 0 20 fun c1 =>
  gd (m50_ok o c1) (
  wrA (List.replicate 21 (.int .i64 (0 : Int))) 0 20 (m50_0 o c1) fun c2 =>
  rdI .i64 p0 20 fun x3 =>
  wr1 c2 20 (.int .i64 x3) fun c4 =>
  rdA c4 0 21 fun c5 =>
  wrA (List.replicate 21 (.int .i64 (0 : Int))) 0 21 c5 fun c6 =>
  rdA c6 0 21 fun c7 =>
  some (.agg c7, []))
noncomputable def c15 (o : FO) (N : Nat) : Cx o :=
  { ty := tab [(2, ty2 o), (22, ty22 o), (24, ty24 o), (25, ty25 o), (27, ty27 o)]
    fn := tab [(50, .pure (e50 o))]
    rounds := 4096, nt := 12, base := 0
    loops := [] }
noncomputable def b15 : Code := match Try.f15.body with | some b => b | none => .skip
theorem is15 (N : Nat) : FnIs Try.prog (c15 ieee N) 15 Try.f15 b15 := ⟨by kernel_rfl, by kernel_rfl, by kernel_rfl, by kernel_rfl⟩
theorem eq15 (o : FO) (N : Nat) (p0 : List (AV o)) : afun (c15 o N) Try.f15.results.toList b15 [.agg p0] [] = f15 o p0 := by kernel_rfl
theorem cok15 (N : Nat) (hN : 4096 ≤ N) : CtxOk Try.prog (c15 ieee N) := by
  refine ctxOk ?_ ?_ mixed ?_
  · intro p hp
    simp only [List.mem_cons, List.not_mem_nil, or_false] at hp
    rcases hp with rfl | rfl | rfl | rfl | rfl
    · exact tyOk2
    · exact tyOk22
    · exact tyOk24
    · exact tyOk25
    · exact tyOk27
  · intro p hp
    simp only [List.mem_cons, List.not_mem_nil, or_false] at hp
    subst hp; exact ok50 N hN
  · intro p hp; cases hp
noncomputable def k15 (o : FO) : R o → Bool := fun r => match r with | some (.agg _, _) => true | _ => false
theorem k15_c (o : FO) (b : Bool) (x y : R o) : k15 o (bif b then x else y) = bif b then k15 o x else k15 o y := by cases b <;> rfl
noncomputable def m15_ok (o : FO) (p0 : List (AV o)) : Bool := k15 o (f15 o p0)
noncomputable def g15_0 (o : FO) : R o → List (AV o) := fun r => match r with | some (.agg r0, _) => r0 | _ => []
theorem g15_0c (o : FO) (b : Bool) (x y : R o) : g15_0 o (bif b then x else y) = bif b then g15_0 o x else g15_0 o y := by cases b <;> rfl
noncomputable def m15_0 (o : FO) (p0 : List (AV o)) : List (AV o) := g15_0 o (f15 o p0)
noncomputable def m15_h (o : FO) (p0 : List (AV o)) : Heap o := match f15 o p0 with | some (_, h) => h | _ => []
theorem val15 (o : FO) (p0 : List (AV o)) (h : m15_ok o p0 = true) : f15 o p0 = some (.agg (m15_0 o p0), m15_h o p0) := by
  unfold m15_ok k15 at h
  unfold m15_0 g15_0 m15_h
  generalize f15 o p0 = r at h ⊢
  split at h
  · rfl
  · cases h

noncomputable def e15 (o : FO) : List (AV o) → Tr (AV o)
  | [.agg p0] => .br (m15_ok o p0) (.leaf (.agg (m15_0 o p0))) .fail
  | _ => .fail
theorem ok15 (N : Nat) (hN : 4096 ≤ N) : CalOk Try.prog 15 (.pure (e15 ieee)) := by
  refine calOk_pure (cok15 4096 (by decide)) (is15 4096) ?_
  intro args av hg
  unfold e15 at hg
  split at hg
  · obtain ⟨h0, hg⟩ := br_get hg
    cases hg
    exact ⟨rfl, rfl, _, (eq15 ieee 4096 _).trans (val15 ieee _ h0)⟩
  · cases hg

/-! loop.example/g01224/laws.toPair -/
noncomputable def f38 (o : FO) (p0 : Int) (p1 : Int) : R o :=
  some (.agg [.int .i64 p0, .int .i64 p1], [])
noncomputable def c38 (o : FO) (N : Nat) : Cx o :=
  { ty := tab [(2, ty2 o), (58, ty58 o), (60, ty60 o)]
    fn := tab []
    rounds := 4096, nt := 11, base := 0
    loops := [] }
noncomputable def b38 : Code := match Try.f38.body with | some b => b | none => .skip
theorem is38 (N : Nat) : FnIs Try.prog (c38 ieee N) 38 Try.f38 b38 := ⟨by kernel_rfl, by kernel_rfl, by kernel_rfl, by kernel_rfl⟩
theorem eq38 (o : FO) (N : Nat) (p0 : Int) (p1 : Int) : afun (c38 o N) Try.f38.results.toList b38 [.agg [.int .i64 p0, .int .i64 p1]] [] = f38 o p0 p1 := by kernel_rfl
theorem cok38 (N : Nat) (hN : 4096 ≤ N) : CtxOk Try.prog (c38 ieee N) := by
  refine ctxOk ?_ ?_ mixed ?_
  · intro p hp
    simp only [List.mem_cons, List.not_mem_nil, or_false] at hp
    rcases hp with rfl | rfl | rfl
    · exact tyOk2
    · exact tyOk58
    · exact tyOk60
  · intro p hp; cases hp
  · intro p hp; cases hp
theorem val38 (o : FO) (p0 : Int) (p1 : Int) : f38 o p0 p1 = some (.agg [.int .i64 p0, .int .i64 p1], []) := by
  unfold f38
  rfl

noncomputable def e38 (o : FO) : List (AV o) → Tr (AV o)
  | [.agg [.int .i64 p0, .int .i64 p1]] => .leaf (.agg [.int .i64 p0, .int .i64 p1])
  | _ => .fail
theorem ok38 (N : Nat) (hN : 4096 ≤ N) : CalOk Try.prog 38 (.pure (e38 ieee)) := by
  refine calOk_pure (cok38 4096 (by decide)) (is38 4096) ?_
  intro args av hg
  unfold e38 at hg
  split at hg
  · cases hg
    exact ⟨rfl, rfl, _, (eq38 ieee 4096 _ _).trans (val38 ieee _ _)⟩
  · cases hg

/-! loop.example/g01224/spec.l00In -/
noncomputable def f82 (o : FO) (p0 : Int) (p1 : Int) (p2 : Int) : R o :=
  bif decide (p0 ≥ p1) then
    bif decide (p0 ≤ p2) then
      some (.bool true, [])
    else
      some (.bool false, [])
  else
    some (.bool false, [])
noncomputable def c82 (o : FO) (N : Nat) : Cx o :=
  { ty := tab []
    fn := tab []
    rounds := 4096, nt := 15, base := 0
    loops := [] }
noncomputable def b82 : Code := match Try.f82.body with | some b => b | none => .skip
theorem is82 (N : Nat) : FnIs Try.prog (c82 ieee N) 82 Try.f82 b82 := ⟨by kernel_rfl, by kernel_rfl, by kernel_rfl, by kernel_rfl⟩
theorem eq82 (o : FO) (N : Nat) (p0 : Int) (p1 : Int) (p2 : Int) : afun (c82 o N) Try.f82.results.toList b82 [.int .i64 p0, .int .i64 p1, .int .i64 p2] [] = f82 o p0 p1 p2 := by kernel_rfl
theorem cok82 (N : Nat) (hN : 4096 ≤ N) : CtxOk Try.prog (c82 ieee N) := by
  refine ctxOk ?_ ?_ mixed ?_
  · intro p hp; cases hp
  · intro p hp; cases hp
  · intro p hp; cases hp
noncomputable def m82_0 (o : FO) (p0 : Int) (p1 : Int) (p2 : Int) : Bool :=
  bif decide (p0 ≥ p1) then
    decide (p0 ≤ p2)
  else
    false
theorem val82 (o : FO) (p0 : Int) (p1 : Int) (p2 : Int) : f82 o p0 p1 p2 = some (.bool (m82_0 o p0 p1 p2), []) := by
  unfold f82 m82_0
  try dsimp only
  cases (decide (p0 ≥ p1))
  · rfl
  · cases (decide (p0 ≤ p2))
    · rfl
    · rfl

noncomputable def e82 (o : FO) : List (AV o) → Tr (AV o)
  | [.int .i64 p0, .int .i64 p1, .int .i64 p2] => .leaf (.bool (m82_0 o p0 p1 p2))
  | _ => .fail
theorem ok82 (N : Nat) (hN : 4096 ≤ N) : CalOk Try.prog 82 (.pure (e82 ieee)) := by
  refine calOk_pure (cok82 4096 (by decide)) (is82 4096) ?_
  intro args av hg
  unfold e82 at hg
  split at hg
  · cases hg
    exact ⟨rfl, rfl, _, (eq82 ieee 4096 _ _ _).trans (val82 ieee _ _ _)⟩
  · cases hg

/-! loop.example/g01224/spec.l03Box -/
noncomputable def f49 (o : FO) (p0 : List (AV o)) : R o :=
  rdI .i64 p0 0 fun x1 =>
  bif !(m82_0 o x1 (0 : Int) (1000000000 : Int)) then
    some (.bool false, [.live false true p0])
  else
    rdI .i64 p0 1 fun x2 =>
    bif !(m82_0 o x2 (0 : Int) (1000000000 : Int)) then
      some (.bool false, [.live false true p0])
    else
      rdI .i64 p0 2 fun x3 =>
      bif !(m82_0 o x3 (0 : Int) (1000000000 : Int)) then
        some (.bool false, [.live false true p0])
      else
        rdI .i64 p0 3 fun x4 =>
        bif !(m82_0 o x4 (0 : Int) (1000000000 : Int)) then
          some (.bool false, [.live false true p0])
        else
          rdI .i64 p0 4 fun x5 =>
          bif !(m82_0 o x5 (0 : Int) (1000000000 : Int)) then
            some (.bool false, [.live false true p0])
          else
            rdI .i64 p0 5 fun x6 =>
            bif !(m82_0 o x6 (0 : Int) (1000000000 : Int)) then
              some (.bool false, [.live false true p0])
            else
              rdI .i64 p0 6 fun x7 =>
              bif !(m82_0 o x7 (0 : Int) (1000000000 : Int)) then
                some (.bool false, [.live false true p0])
              else
                rdI .i64 p0 7 fun x8 =>
                bif !(m82_0 o x8 (0 : Int) (1000000000 : Int)) then
                  some (.bool false, [.live false true p0])
                else
                  rdI .i64 p0 8 fun x9 =>
                  bif !(m82_0 o x9 (0 : Int) (1000000000 : Int)) then
                    some (.bool false, [.live false true p0])
                  else
                    rdI .i64 p0 9 fun x10 =>
                    bif !(m82_0 o x10 (0 : Int) (1000000000 : Int)) then
                      some (.bool false, [.live false true p0])
                    else
                      rdI .i64 p0 10 fun x11 =>
                      bif !(m82_0 o x11 (0 : Int) (1000000000 : Int)) then
                        some (.bool false, [.live false true p0])
                      else
                        rdI .i64 p0 11 fun x12 =>
                        bif !(m82_0 o x12 (0 : Int) (1000000000 : Int)) then
                          some (.bool false, [.live false true p0])
                        else
                          rdI .i64 p0 12 fun x13 =>
                          bif !(m82_0 o x13 (0 : Int) (1000000000 : Int)) then
                            some (.bool false, [.live false true p0])
                          else
                            rdI .i64 p0 13 fun x14 =>
                            bif !(m82_0 o x14 (0 : Int) (1000000000 : Int)) then
                              some (.bool false, [.live false true p0])
                            else
                              rdI .i64 p0 14 fun x15 =>
                              bif !(m82_0 o x15 (0 : Int) (1000000000 : Int)) then
                                some (.bool false, [.live false true p0])
                              else
                                rdI .i64 p0 15 fun x16 =>
                                bif !(m82_0 o x16 (0 : Int) (1000000000 : Int)) then
                                  some (.bool false, [.live false true p0])
                                else
                                  rdI .i64 p0 16 fun x17 =>
                                  bif !(m82_0 o x17 (0 : Int) (1000000000 : Int)) then
                                    some (.bool false, [.live false true p0])
                                  else
                                    rdI .i64 p0 17 fun x18 =>
                                    bif !(m82_0 o x18 (0 : Int) (1000000000 : Int)) then
                                      some (.bool false, [.live false true p0])
                                    else
                                      rdI .i64 p0 18 fun x19 =>
                                      bif !(m82_0 o x19 (0 : Int) (1000000000 : Int)) then
                                        some (.bool false, [.live false true p0])
                                      else
                                        rdI .i64 p0 19 fun x20 =>
                                        bif !(m82_0 o x20 (0 : Int) (1000000000 : Int)) then
                                          some (.bool false, [.live false true p0])
                                        else
                                          rdI .i64 p0 20 fun x21 =>
                                          some (.bool (m82_0 o x21 (0 : Int) (1000000000 : Int)), [.live false true p0])
noncomputable def c49 (o : FO) (N : Nat) : Cx o :=
  { ty := tab [(2, ty2 o), (25, ty25 o), (27, ty27 o)]
    fn := tab [(82, .pure (e82 o))]
    rounds := 4096, nt := 21, base := 1
    loops := [loopU [0, 3]] }
noncomputable def b49 : Code := match Try.f49.body with | some b => b | none => .skip
theorem is49 (N : Nat) : FnIs Try.prog (c49 ieee N) 49 Try.f49 b49 := ⟨by kernel_rfl, by kernel_rfl, by kernel_rfl, by kernel_rfl⟩
theorem eq49 (o : FO) (N : Nat) (p0 : List (AV o)) : afun (c49 o N) Try.f49.results.toList b49 [.ptr 0 0] [.live false true p0] = f49 o p0 := by kernel_rfl
theorem cok49 (N : Nat) (hN : 4096 ≤ N) : CtxOk Try.prog (c49 ieee N) := by
  refine ctxOk ?_ ?_ mixed ?_
  · intro p hp
    simp only [List.mem_cons, List.not_mem_nil, or_false] at hp
    rcases hp with rfl | rfl | rfl
    · exact tyOk2
    · exact tyOk25
    · exact tyOk27
  · intro p hp
    simp only [List.mem_cons, List.not_mem_nil, or_false] at hp
    subst hp; exact ok82 N hN
  · intro p hp
    simp only [List.mem_cons, List.not_mem_nil, or_false] at hp
    subst hp; exact loopU_ok _
noncomputable def k49 (o : FO) : R o → Bool := fun r => match r with | some (.bool _, _) => true | _ => false
theorem k49_c (o : FO) (b : Bool) (x y : R o) : k49 o (bif b then x else y) = bif b then k49 o x else k49 o y := by cases b <;> rfl
noncomputable def m49_ok (o : FO) (p0 : List (AV o)) : Bool := k49 o (f49 o p0)
noncomputable def g49_0 (o : FO) : R o → Bool := fun r => match r with | some (.bool r0, _) => r0 | _ => false
theorem g49_0c (o : FO) (b : Bool) (x y : R o) : g49_0 o (bif b then x else y) = bif b then g49_0 o x else g49_0 o y := by cases b <;> rfl
noncomputable def m49_0 (o : FO) (p0 : List (AV o)) : Bool := g49_0 o (f49 o p0)
noncomputable def m49_h (o : FO) (p0 : List (AV o)) : Heap o := match f49 o p0 with | some (_, h) => h | _ => []
theorem val49 (o : FO) (p0 : List (AV o)) (h : m49_ok o p0 = true) : f49 o p0 = some (.bool (m49_0 o p0), m49_h o p0) := by
  unfold m49_ok k49 at h
  unfold m49_0 g49_0 m49_h
  generalize f49 o p0 = r at h ⊢
  split at h
  · rfl
  · cases h

noncomputable def e49 (o : FO) : List (AV o) → Heap o → Tr (AV o)
  | [.ptr 0 0], [.live _ true p0] => .br (m49_ok o p0) (.leaf (.bool (m49_0 o p0))) .fail
  | _, _ => .fail
theorem ok49 (N : Nat) (hN : 4096 ≤ N) : CalOk Try.prog 49 (.ro (e49 ieee)) := by
  refine calOk_ro (cok49 4096 (by decide)) (is49 4096) ?_
  intro args h av hg
  unfold e49 at hg
  split at hg
  · obtain ⟨h0, hg⟩ := br_get hg
    cases hg
    exact ⟨rfl, _, (eq49 ieee 4096 _).trans (val49 ieee _ h0)⟩
  · cases hg

/-! loop.example/g01224/spec.l01Class -/
noncomputable def f53 (o : FO) (p0 : Int) : R o :=
  some (.bool (m82_0 o p0 (0 : Int) (19 : Int)), [])
noncomputable def c53 (o : FO) (N : Nat) : Cx o :=
  { ty := tab []
    fn := tab [(82, .pure (e82 o))]
    rounds := 4096, nt := 5, base := 0
    loops := [] }
noncomputable def b53 : Code := match Try.f53.body with | some b => b | none => .skip
theorem is53 (N : Nat) : FnIs Try.prog (c53 ieee N) 53 Try.f53 b53 := ⟨by kernel_rfl, by kernel_rfl, by kernel_rfl, by kernel_rfl⟩
theorem eq53 (o : FO) (N : Nat) (p0 : Int) : afun (c53 o N) Try.f53.results.toList b53 [.int .i64 p0] [] = f53 o p0 := by kernel_rfl
theorem cok53 (N : Nat) (hN : 4096 ≤ N) : CtxOk Try.prog (c53 ieee N) := by
  refine ctxOk ?_ ?_ mixed ?_
  · intro p hp; cases hp
  · intro p hp
    simp only [List.mem_cons, List.not_mem_nil, or_false] at hp
    subst hp; exact ok82 N hN
  · intro p hp; cases hp
noncomputable def m53_0 (o : FO) (p0 : Int) : Bool :=
  m82_0 o p0 (0 : Int) (19 : Int)
theorem val53 (o : FO) (p0 : Int) : f53 o p0 = some (.bool (m53_0 o p0), []) := by
  unfold f53 m53_0
  rfl

noncomputable def e53 (o : FO) : List (AV o) → Tr (AV o)
  | [.int .i64 p0] => .leaf (.bool (m53_0 o p0))
  | _ => .fail
theorem ok53 (N : Nat) (hN : 4096 ≤ N) : CalOk Try.prog 53 (.pure (e53 ieee)) := by
  refine calOk_pure (cok53 4096 (by decide)) (is53 4096) ?_
  intro args av hg
  unfold e53 at hg
  split at hg
  · cases hg
    exact ⟨rfl, rfl, _, (eq53 ieee 4096 _).trans (val53 ieee _)⟩
  · cases hg

/-! loop.example/g01224/spec.l03Whole -/
noncomputable def f99 (o : FO) (p0 : Int) : R o :=
  bif decide ((2 : Int) ≤ p0) then
    bif decide ((4 : Int) ≤ p0) then
      bif decide ((8 : Int) ≤ p0) then
        bif decide ((16 : Int) ≤ p0) then
          bif decide ((32 : Int) ≤ p0) then
            bif decide ((64 : Int) ≤ p0) then
              bif decide ((128 : Int) ≤ p0) then
                bif decide ((256 : Int) ≤ p0) then
                  bif decide ((512 : Int) ≤ p0) then
                    bif decide ((1024 : Int) ≤ p0) then
                      bif decide ((2048 : Int) ≤ p0) then
                        bif decide ((4096 : Int) ≤ p0) then
                          bif decide ((8192 : Int) ≤ p0) then
                            bif decide ((16384 : Int) ≤ p0) then
                              bif decide ((32768 : Int) ≤ p0) then
                                bif decide ((65536 : Int) ≤ p0) then
                                  bif decide ((131072 : Int) ≤ p0) then
                                    bif decide ((262144 : Int) ≤ p0) then
                                      bif decide ((524288 : Int) ≤ p0) then
                                        some (.int .i64 (19 : Int), [])
                                      else
                                        some (.int .i64 (18 : Int), [])
                                    else
                                      some (.int .i64 (17 : Int), [])
                                  else
                                    some (.int .i64 (16 : Int), [])
                                else
                                  some (.int .i64 (15 : Int), [])
                              else
                                some (.int .i64 (14 : Int), [])
                            else
                              some (.int .i64 (13 : Int), [])
                          else
                            some (.int .i64 (12 : Int), [])
                        else
                          some (.int .i64 (11 : Int), [])
                      else
                        some (.int .i64 (10 : Int), [])
                    else
                      some (.int .i64 (9 : Int), [])
                  else
                    some (.int .i64 (8 : Int), [])
                else
                  some (.int .i64 (7 : Int), [])
              else
                some (.int .i64 (6 : Int), [])
            else
              some (.int .i64 (5 : Int), [])
          else
            some (.int .i64 (4 : Int), [])
        else
          some (.int .i64 (3 : Int), [])
      else
        some (.int .i64 (2 : Int), [])
    else
      some (.int .i64 (1 : Int), [])
  else
    some (.int .i64 (0 : Int), [])
noncomputable def c99 (o : FO) (N : Nat) : Cx o :=
  { ty := tab [(2, ty2 o), (78, ty78 o)]
    fn := tab []
    rounds := 4096, nt := 17, base := 0
    loops := [loopU [0, 3]] }
noncomputable def b99 : Code := match Try.f99.body with | some b => b | none => .skip
theorem is99 (N : Nat) : FnIs Try.prog (c99 ieee N) 99 Try.f99 b99 := ⟨by kernel_rfl, by kernel_rfl, by kernel_rfl, by kernel_rfl⟩
theorem eq99 (o : FO) (N : Nat) (p0 : Int) : afun (c99 o N) Try.f99.results.toList b99 [.int .i64 p0] [] = f99 o p0 := by kernel_rfl
theorem cok99 (N : Nat) (hN : 4096 ≤ N) : CtxOk Try.prog (c99 ieee N) := by
  refine ctxOk ?_ ?_ mixed ?_
  · intro p hp
    simp only [List.mem_cons, List.not_mem_nil, or_false] at hp
    rcases hp with rfl | rfl
    · exact tyOk2
    · exact tyOk78
  · intro p hp; cases hp
  · intro p hp
    simp only [List.mem_cons, List.not_mem_nil, or_false] at hp
    subst hp; exact loopU_ok _
noncomputable def m99_0 (o : FO) (p0 : Int) : Int :=
  bif decide ((2 : Int) ≤ p0) then
    bif decide ((4 : Int) ≤ p0) then
      bif decide ((8 : Int) ≤ p0) then
        bif decide ((16 : Int) ≤ p0) then
          bif decide ((32 : Int) ≤ p0) then
            bif decide ((64 : Int) ≤ p0) then
              bif decide ((128 : Int) ≤ p0) then
                bif decide ((256 : Int) ≤ p0) then
                  bif decide ((512 : Int) ≤ p0) then
                    bif decide ((1024 : Int) ≤ p0) then
                      bif decide ((2048 : Int) ≤ p0) then
                        bif decide ((4096 : Int) ≤ p0) then
                          bif decide ((8192 : Int) ≤ p0) then
                            bif decide ((16384 : Int) ≤ p0) then
                              bif decide ((32768 : Int) ≤ p0) then
                                bif decide ((65536 : Int) ≤ p0) then
                                  bif decide ((131072 : Int) ≤ p0) then
                                    bif decide ((262144 : Int) ≤ p0) then
                                      bif decide ((524288 : Int) ≤ p0) then
                                        (19 : Int)
                                      else
                                        (18 : Int)
                                    else
                                      (17 : Int)
                                  else
                                    (16 : Int)
                                else
                                  (15 : Int)
                              else
                                (14 : Int)
                            else
                              (13 : Int)
                          else
                            (12 : Int)
                        else
                          (11 : Int)
                      else
                        (10 : Int)
                    else
                      (9 : Int)
                  else
                    (8 : Int)
                else
                  (7 : Int)
              else
                (6 : Int)
            else
              (5 : Int)
          else
            (4 : Int)
        else
          (3 : Int)
      else
        (2 : Int)
    else
      (1 : Int)
  else
    (0 : Int)
theorem val99 (o : FO) (p0 : Int) : f99 o p0 = some (.int .i64 (m99_0 o p0), []) := by
  unfold f99 m99_0
  try dsimp only
  cases (decide ((2 : Int) ≤ p0))
  · rfl
  · cases (decide ((4 : Int) ≤ p0))
    · rfl
    · cases (decide ((8 : Int) ≤ p0))
      · rfl
      · cases (decide ((16 : Int) ≤ p0))
        · rfl
        · cases (decide ((32 : Int) ≤ p0))
          · rfl
          · cases (decide ((64 : Int) ≤ p0))
            · rfl
            · cases (decide ((128 : Int) ≤ p0))
              · rfl
              · cases (decide ((256 : Int) ≤ p0))
                · rfl
                · cases (decide ((512 : Int) ≤ p0))
                  · rfl
                  · cases (decide ((1024 : Int) ≤ p0))
                    · rfl
                    · cases (decide ((2048 : Int) ≤ p0))
                      · rfl
                      · cases (decide ((4096 : Int) ≤ p0))
                        · rfl
                        · cases (decide ((8192 : Int) ≤ p0))
                          · rfl
                          · cases (decide ((16384 : Int) ≤ p0))
                            · rfl
                            · cases (decide ((32768 : Int) ≤ p0))
                              · rfl
                              · cases (decide ((65536 : Int) ≤ p0))
                                · rfl
                                · cases (decide ((131072 : Int) ≤ p0))
                                  · rfl
                                  · cases (decide ((262144 : Int) ≤ p0))
                                    · rfl
                                    · cases (decide ((524288 : Int) ≤ p0))
                                      · rfl
                                      · rfl

noncomputable def e99 (o : FO) : List (AV o) → Tr (AV o)
  | [.int .i64 p0] => .leaf (.int .i64 (m99_0 o p0))
  | _ => .fail
theorem ok99 (N : Nat) (hN : 4096 ≤ N) : CalOk Try.prog 99 (.pure (e99 ieee)) := by
  refine calOk_pure (cok99 4096 (by decide)) (is99 4096) ?_
  intro args av hg
  unfold e99 at hg
  split at hg
  · cases hg
    exact ⟨rfl, rfl, _, (eq99 ieee 4096 _).trans (val99 ieee _)⟩
  · cases hg

/-! loop.example/g01224/spec.l03Pair -/
noncomputable def f79 (o : FO) (p0 : List (AV o)) (p1 : Int) (p2 : Int) : R o :=
  bif m53_0 o p1 then
    bif m53_0 o p2 then
      gd (decide (0 ≤ p1) && decide (p1 < ((20 : Nat) : Int))) (
      rdI .i64 p0 (0 + (((p1).toNat) * 1)) fun x1 =>
      gd (decide (0 ≤ p1) && decide (p1 < ((20 : Nat) : Int))) (
      wr1 p0 (0 + (((p1).toNat) * 1)) (.int .i64 (IntKind.wrap .i64 (x1 - (1 : Int)))) fun c2 =>
      gd (decide (0 ≤ p2) && decide (p2 < ((20 : Nat) : Int))) (
      rdI .i64 c2 (0 + (((p2).toNat) * 1)) fun x3 =>
      gd (decide (0 ≤ p2) && decide (p2 < ((20 : Nat) : Int))) (
      wr1 c2 (0 + (((p2).toNat) * 1)) (.int .i64 (IntKind.wrap .i64 (x3 - (1 : Int)))) fun c4 =>
      gd (decide (0 ≤ p1) && decide (p1 < ((20 : Nat) : Int))) (
      rdI .i64 c4 (0 + (((p1).toNat) * 1)) fun x5 =>
      bif decide (x5 < (0 : Int)) then
        wrA (List.replicate 21 (.int .i64 (0 : Int))) 0 21 (List.replicate 21 (.int .i64 (0 : Int))) fun c6 =>
        rdA c6 0 21 fun c7 =>
        some (.tup [.agg c7, .int .i64 (6 : Int)], [.live false true [.int .i64 p1, .int .i64 p2]])
      else
        gd (decide (0 ≤ p2) && decide (p2 < ((20 : Nat) : Int))) (
        rdI .i64 c4 (0 + (((p2).toNat) * 1)) fun x8 =>
        bif decide (x8 < (0 : Int)) then
          wrA (List.replicate 21 (.int .i64 (0 : Int))) 0 21 (List.replicate 21 (.int .i64 (0 : Int))) fun c9 =>
          rdA c9 0 21 fun c10 =>
          some (.tup [.agg c10, .int .i64 (6 : Int)], [.live false true [.int .i64 p1, .int .i64 p2]])
        else
          gd (decide (0 ≤ (IntKind.wrap .u64 p1))) (
          let v1 : Int := IntKind.wrap .i64 ((1 : Int) * 2 ^ (min ((IntKind.wrap .u64 p1)).toNat (IntKind.bits .i64)))
          gd (decide (0 ≤ (IntKind.wrap .u64 p2))) (
          let v2 : Int := IntKind.wrap .i64 ((1 : Int) * 2 ^ (min ((IntKind.wrap .u64 p2)).toNat (IntKind.bits .i64)))
          let v3 : Int := IntKind.wrap .i64 (v1 + v2)
          let v4 : Int := m99_0 o v3
          gd (decide (0 ≤ v4) && decide (v4 < ((20 : Nat) : Int))) (
          rdI .i64 c4 (0 + (((v4).toNat) * 1)) fun x11 =>
          gd (decide (0 ≤ v4) && decide (v4 < ((20 : Nat) : Int))) (
          wr1 c4 (0 + (((v4).toNat) * 1)) (.int .i64 (IntKind.wrap .i64 (x11 + (1 : Int)))) fun c12 =>
          rdI .i64 c12 20 fun x13 =>
          let v5 : Int := IntKind.wrap .u64 v4
          gd (decide (0 ≤ v5)) (
          wr1 c12 20 (.int .i64 (IntKind.wrap .i64 (x13 + (IntKind.wrap .i64 (v3 - (IntKind.wrap .i64 ((1 : Int) * 2 ^ (min (v5).toNat (IntKind.bits .i64))))))))) fun c14 =>
          gd (m49_ok o c14) (
          bif !(m49_0 o c14) then
            wrA (List.replicate 21 (.int .i64 (0 : Int))) 0 21 (List.replicate 21 (.int .i64 (0 : Int))) fun c15 =>
            rdA c15 0 21 fun c16 =>
            some (.tup [.agg c16, .int .i64 (3 : Int)], [.live false true [.int .i64 p1, .int .i64 p2]])
          else
            rdA c14 0 21 fun c17 =>
            wrA (List.replicate 21 (.int .i64 (0 : Int))) 0 21 c17 fun c18 =>
            rdA c18 0 21 fun c19 =>
            some (.tup [.agg c19, .int .i64 (0 : Int)], [.live false true [.int .i64 p1, .int .i64 p2]])))))))))))))
    else
      wrA (List.replicate 21 (.int .i64 (0 : Int))) 0 21 (List.replicate 21 (.int .i64 (0 : Int))) fun c20 =>
      rdA c20 0 21 fun c21 =>
      some (.tup [.agg c21, .int .i64 (2 : Int)], [.live false true [.int .i64 p1, .int .i64 p2]])
  else
    wrA (List.replicate 21 (.int .i64 (0 : Int))) 0 21 (List.replicate 21 (.int .i64 (0 : Int))) fun c22 =>
    rdA c22 0 21 fun c23 =>
    some (.tup [.agg c23, .int .i64 (2 : Int)], [.live false true [.int .i64 p1, .int .i64 p2]])
noncomputable def c79 (o : FO) (N : Nat) : Cx o :=
  { ty := tab [(2, ty2 o), (25, ty25 o), (27, ty27 o), (60, ty60 o), (78, ty78 o)]
    fn := tab [(49, .ro (e49 o)), (53, .pure (e53 o)), (99, .pure (e99 o))]
    rounds := 4096, nt := 97, base := 1
    loops := [] }
noncomputable def b79 : Code := match Try.f79.body with | some b => b | none => .skip
theorem is79 (N : Nat) : FnIs Try.prog (c79 ieee N) 79 Try.f79 b79 := ⟨by kernel_rfl, by kernel_rfl, by kernel_rfl, by kernel_rfl⟩
theorem eq79 (o : FO) (N : Nat) (p0 : List (AV o)) (p1 : Int) (p2 : Int) : afun (c79 o N) Try.f79.results.toList b79 [.agg p0, .ptr 0 0] [.live false true [.int .i64 p1, .int .i64 p2]] = f79 o p0 p1 p2 := by kernel_rfl
theorem cok79 (N : Nat) (hN : 4096 ≤ N) : CtxOk Try.prog (c79 ieee N) := by
  refine ctxOk ?_ ?_ mixed ?_
  · intro p hp
    simp only [List.mem_cons, List.not_mem_nil, or_false] at hp
    rcases hp with rfl | rfl | rfl | rfl | rfl
    · exact tyOk2
    · exact tyOk25
    · exact tyOk27
    · exact tyOk60
    · exact tyOk78
  · intro p hp
    simp only [List.mem_cons, List.not_mem_nil, or_false] at hp
    rcases hp with rfl | rfl | rfl
    · exact ok49 N hN
    · exact ok53 N hN
    · exact ok99 N hN
  · intro p hp; cases hp
noncomputable def k79 (o : FO) : R o → Bool := fun r => match r with | some (.tup [.agg _, .int .i64 _], _) => true | _ => false
theorem k79_c (o : FO) (b : Bool) (x y : R o) : k79 o (bif b then x else y) = bif b then k79 o x else k79 o y := by cases b <;> rfl
noncomputable def m79_ok (o : FO) (p0 : List (AV o)) (p1 : Int) (p2 : Int) : Bool := k79 o (f79 o p0 p1 p2)
noncomputable def g79_0 (o : FO) : R o → List (AV o) := fun r => match r with | some (.tup [.agg r0, .int .i64 _], _) => r0 | _ => []
theorem g79_0c (o : FO) (b : Bool) (x y : R o) : g79_0 o (bif b then x else y) = bif b then g79_0 o x else g79_0 o y := by cases b <;> rfl
noncomputable def m79_0 (o : FO) (p0 : List (AV o)) (p1 : Int) (p2 : Int) : List (AV o) := g79_0 o (f79 o p0 p1 p2)
noncomputable def g79_1 (o : FO) : R o → Int := fun r => match r with | some (.tup [.agg _, .int .i64 r1], _) => r1 | _ => 0
theorem g79_1c (o : FO) (b : Bool) (x y : R o) : g79_1 o (bif b then x else y) = bif b then g79_1 o x else g79_1 o y := by cases b <;> rfl
noncomputable def m79_1 (o : FO) (p0 : List (AV o)) (p1 : Int) (p2 : Int) : Int := g79_1 o (f79 o p0 p1 p2)
noncomputable def m79_h (o : FO) (p0 : List (AV o)) (p1 : Int) (p2 : Int) : Heap o := match f79 o p0 p1 p2 with | some (_, h) => h | _ => []
theorem val79 (o : FO) (p0 : List (AV o)) (p1 : Int) (p2 : Int) (h : m79_ok o p0 p1 p2 = true) : f79 o p0 p1 p2 = some (.tup [.agg (m79_0 o p0 p1 p2), .int .i64 (m79_1 o p0 p1 p2)], m79_h o p0 p1 p2) := by
  unfold m79_ok k79 at h
  unfold m79_0 g79_0 m79_1 g79_1 m79_h
  generalize f79 o p0 p1 p2 = r at h ⊢
  split at h
  · rfl
  · cases h

noncomputable def e79 (o : FO) : List (AV o) → Heap o → Tr (AV o)
  | [.agg p0, .ptr 0 0], [.live _ true [.int .i64 p1, .int .i64 p2]] => .br (m79_ok o p0 p1 p2) (.leaf (.tup [.agg (m79_0 o p0 p1 p2), .int .i64 (m79_1 o p0 p1 p2)])) .fail
  | _, _ => .fail
theorem ok79 (N : Nat) (hN : 4096 ≤ N) : CalOk Try.prog 79 (.ro (e79 ieee)) := by
  refine calOk_ro (cok79 4096 (by decide)) (is79 4096) ?_
  intro args h av hg
  unfold e79 at hg
  split at hg
  · obtain ⟨h0, hg⟩ := br_get hg
    cases hg
    exact ⟨rfl, _, (eq79 ieee 4096 _ _ _).trans (val79 ieee _ _ _ h0)⟩
  · cases hg

/-! loop.example/g01224/spec.CollidePair -/
noncomputable def f37 (o : FO) (p0 : List (AV o)) (p1 : Int) (p2 : Int) : R o :=
  gd (m49_ok o p0) (
  bif !(m49_0 o p0) then
    wrA (List.replicate 21 (.int .i64 (0 : Int))) 0 21 (List.replicate 21 (.int .i64 (0 : Int))) fun c1 =>
    rdA c1 0 21 fun c2 =>
    some (.tup [.agg c2, .int .i64 (1 : Int)], [])
  else
    rdA p0 0 21 fun c3 =>
    gd (m79_ok o c3 p1 p2) (
    wrA (List.replicate 21 (.int .i64 (0 : Int))) 0 21 (m79_0 o c3 p1 p2) fun c4 =>
    rdA c4 0 21 fun c5 =>
    some (.tup [.agg c5, .int .i64 (m79_1 o c3 p1 p2)], [])))
noncomputable def c37 (o : FO) (N : Nat) : Cx o :=
  { ty := tab [(2, ty2 o), (25, ty25 o), (27, ty27 o), (60, ty60 o)]
    fn := tab [(49, .ro (e49 o)), (79, .ro (e79 o))]
    rounds := 4096, nt := 13, base := 0
    loops := [] }
noncomputable def b37 : Code := match Try.f37.body with | some b => b | none => .skip
theorem is37 (N : Nat) : FnIs Try.prog (c37 ieee N) 37 Try.f37 b37 := ⟨by kernel_rfl, by kernel_rfl, by kernel_rfl, by kernel_rfl⟩
theorem eq37 (o : FO) (N : Nat) (p0 : List (AV o)) (p1 : Int) (p2 : Int) : afun (c37 o N) Try.f37.results.toList b37 [.agg p0, .agg [.int .i64 p1, .int .i64 p2]] [] = f37 o p0 p1 p2 := by kernel_rfl
theorem cok37 (N : Nat) (hN : 4096 ≤ N) : CtxOk Try.prog (c37 ieee N) := by
  refine ctxOk ?_ ?_ mixed ?_
  · intro p hp
    simp only [List.mem_cons, List.not_mem_nil, or_false] at hp
    rcases hp with rfl | rfl | rfl | rfl
    · exact tyOk2
    · exact tyOk25
    · exact tyOk27
    · exact tyOk60
  · intro p hp
    simp only [List.mem_cons, List.not_mem_nil, or_false] at hp
    rcases hp with rfl | rfl
    · exact ok49 N hN
    · exact ok79 N hN
  · intro p hp; cases hp
noncomputable def k37 (o : FO) : R o → Bool := fun r => match r with | some (.tup [.agg _, .int .i64 _], _) => true | _ => false
theorem k37_c (o : FO) (b : Bool) (x y : R o) : k37 o (bif b then x else y) = bif b then k37 o x else k37 o y := by cases b <;> rfl
noncomputable def m37_ok (o : FO) (p0 : List (AV o)) (p1 : Int) (p2 : Int) : Bool := k37 o (f37 o p0 p1 p2)
noncomputable def g37_0 (o : FO) : R o → List (AV o) := fun r => match r with | some (.tup [.agg r0, .int .i64 _], _) => r0 | _ => []
theorem g37_0c (o : FO) (b : Bool) (x y : R o) : g37_0 o (bif b then x else y) = bif b then g37_0 o x else g37_0 o y := by cases b <;> rfl
noncomputable def m37_0 (o : FO) (p0 : List (AV o)) (p1 : Int) (p2 : Int) : List (AV o) := g37_0 o (f37 o p0 p1 p2)
noncomputable def g37_1 (o : FO) : R o → Int := fun r => match r with | some (.tup [.agg _, .int .i64 r1], _) => r1 | _ => 0
theorem g37_1c (o : FO) (b : Bool) (x y : R o) : g37_1 o (bif b then x else y) = bif b then g37_1 o x else g37_1 o y := by cases b <;> rfl
noncomputable def m37_1 (o : FO) (p0 : List (AV o)) (p1 : Int) (p2 : Int) : Int := g37_1 o (f37 o p0 p1 p2)
noncomputable def m37_h (o : FO) (p0 : List (AV o)) (p1 : Int) (p2 : Int) : Heap o := match f37 o p0 p1 p2 with | some (_, h) => h | _ => []
theorem val37 (o : FO) (p0 : List (AV o)) (p1 : Int) (p2 : Int) (h : m37_ok o p0 p1 p2 = true) : f37 o p0 p1 p2 = some (.tup [.agg (m37_0 o p0 p1 p2), .int .i64 (m37_1 o p0 p1 p2)], m37_h o p0 p1 p2) := by
  unfold m37_ok k37 at h
  unfold m37_0 g37_0 m37_1 g37_1 m37_h
  generalize f37 o p0 p1 p2 = r at h ⊢
  split at h
  · rfl
  · cases h

noncomputable def e37 (o : FO) : List (AV o) → Tr (AV o)
  | [.agg p0, .agg [.int .i64 p1, .int .i64 p2]] => .br (m37_ok o p0 p1 p2) (.leaf (.tup [.agg (m37_0 o p0 p1 p2), .int .i64 (m37_1 o p0 p1 p2)])) .fail
  | _ => .fail
theorem ok37 (N : Nat) (hN : 4096 ≤ N) : CalOk Try.prog 37 (.pure (e37 ieee)) := by
  refine calOk_pure (cok37 4096 (by decide)) (is37 4096) ?_
  intro args av hg
  unfold e37 at hg
  split at hg
  · obtain ⟨h0, hg⟩ := br_get hg
    cases hg
    exact ⟨rfl, rfl, _, (eq37 ieee 4096 _ _ _).trans (val37 ieee _ _ _ h0)⟩
  · cases hg

/-! loop.example/g01224/impl.within -/
noncomputable def f84 (o : FO) (p0 : Int) (p1 : Int) (p2 : Int) : R o :=
  bif decide (p0 ≥ p1) then
    bif decide (p0 ≤ p2) then
      some (.bool true, [])
    else
      some (.bool false, [])
  else
    some (.bool false, [])
noncomputable def c84 (o : FO) (N : Nat) : Cx o :=
  { ty := tab []
    fn := tab []
    rounds := 4096, nt := 15, base := 0
    loops := [] }
noncomputable def b84 : Code := match Try.f84.body with | some b => b | none => .skip
theorem is84 (N : Nat) : FnIs Try.prog (c84 ieee N) 84 Try.f84 b84 := ⟨by kernel_rfl, by kernel_rfl, by kernel_rfl, by kernel_rfl⟩
theorem eq84 (o : FO) (N : Nat) (p0 : Int) (p1 : Int) (p2 : Int) : afun (c84 o N) Try.f84.results.toList b84 [.int .i64 p0, .int .i64 p1, .int .i64 p2] [] = f84 o p0 p1 p2 := by kernel_rfl
theorem cok84 (N : Nat) (hN : 4096 ≤ N) : CtxOk Try.prog (c84 ieee N) := by
  refine ctxOk ?_ ?_ mixed ?_
  · intro p hp; cases hp
  · intro p hp; cases hp
  · intro p hp; cases hp
noncomputable def m84_0 (o : FO) (p0 : Int) (p1 : Int) (p2 : Int) : Bool :=
  bif decide (p0 ≥ p1) then
    decide (p0 ≤ p2)
  else
    false
theorem val84 (o : FO) (p0 : Int) (p1 : Int) (p2 : Int) : f84 o p0 p1 p2 = some (.bool (m84_0 o p0 p1 p2), []) := by
  unfold f84 m84_0
  try dsimp only
  cases (decide (p0 ≥ p1))
  · rfl
  · cases (decide (p0 ≤ p2))
    · rfl
    · rfl

noncomputable def e84 (o : FO) : List (AV o) → Tr (AV o)
  | [.int .i64 p0, .int .i64 p1, .int .i64 p2] => .leaf (.bool (m84_0 o p0 p1 p2))
  | _ => .fail
theorem ok84 (N : Nat) (hN : 4096 ≤ N) : CalOk Try.prog 84 (.pure (e84 ieee)) := by
  refine calOk_pure (cok84 4096 (by decide)) (is84 4096) ?_
  intro args av hg
  unfold e84 at hg
  split at hg
  · cases hg
    exact ⟨rfl, rfl, _, (eq84 ieee 4096 _ _ _).trans (val84 ieee _ _ _)⟩
  · cases hg

/-! loop.example/g01224/impl.isCount -/
noncomputable def f87 (o : FO) (p0 : Int) : R o :=
  some (.bool (m84_0 o p0 (0 : Int) (1000000000 : Int)), [])
noncomputable def c87 (o : FO) (N : Nat) : Cx o :=
  { ty := tab []
    fn := tab [(84, .pure (e84 o))]
    rounds := 4096, nt := 5, base := 0
    loops := [] }
noncomputable def b87 : Code := match Try.f87.body with | some b => b | none => .skip
theorem is87 (N : Nat) : FnIs Try.prog (c87 ieee N) 87 Try.f87 b87 := ⟨by kernel_rfl, by kernel_rfl, by kernel_rfl, by kernel_rfl⟩
theorem eq87 (o : FO) (N : Nat) (p0 : Int) : afun (c87 o N) Try.f87.results.toList b87 [.int .i64 p0] [] = f87 o p0 := by kernel_rfl
theorem cok87 (N : Nat) (hN : 4096 ≤ N) : CtxOk Try.prog (c87 ieee N) := by
  refine ctxOk ?_ ?_ mixed ?_
  · intro p hp; cases hp
  · intro p hp
    simp only [List.mem_cons, List.not_mem_nil, or_false] at hp
    subst hp; exact ok84 N hN
  · intro p hp; cases hp
noncomputable def m87_0 (o : FO) (p0 : Int) : Bool :=
  m84_0 o p0 (0 : Int) (1000000000 : Int)
theorem val87 (o : FO) (p0 : Int) : f87 o p0 = some (.bool (m87_0 o p0), []) := by
  unfold f87 m87_0
  rfl

noncomputable def e87 (o : FO) : List (AV o) → Tr (AV o)
  | [.int .i64 p0] => .leaf (.bool (m87_0 o p0))
  | _ => .fail
theorem ok87 (N : Nat) (hN : 4096 ≤ N) : CalOk Try.prog 87 (.pure (e87 ieee)) := by
  refine calOk_pure (cok87 4096 (by decide)) (is87 4096) ?_
  intro args av hg
  unfold e87 at hg
  split at hg
  · cases hg
    exact ⟨rfl, rfl, _, (eq87 ieee 4096 _).trans (val87 ieee _)⟩
  · cases hg

/-! loop.example/g01224/impl.ValidBox -/
noncomputable def f51 (o : FO) (p0 : List (AV o)) : R o :=
  rdA p0 0 20 fun c1 =>
  rdI .i64 c1 0 fun x2 =>
  bif !(m87_0 o x2) then
    some (.bool false, [])
  else
    rdI .i64 c1 1 fun x3 =>
    bif !(m87_0 o x3) then
      some (.bool false, [])
    else
      rdI .i64 c1 2 fun x4 =>
      bif !(m87_0 o x4) then
        some (.bool false, [])
      else
        rdI .i64 c1 3 fun x5 =>
        bif !(m87_0 o x5) then
          some (.bool false, [])
        else
          rdI .i64 c1 4 fun x6 =>
          bif !(m87_0 o x6) then
            some (.bool false, [])
          else
            rdI .i64 c1 5 fun x7 =>
            bif !(m87_0 o x7) then
              some (.bool false, [])
            else
              rdI .i64 c1 6 fun x8 =>
              bif !(m87_0 o x8) then
                some (.bool false, [])
              else
                rdI .i64 c1 7 fun x9 =>
                bif !(m87_0 o x9) then
                  some (.bool false, [])
                else
                  rdI .i64 c1 8 fun x10 =>
                  bif !(m87_0 o x10) then
                    some (.bool false, [])
                  else
                    rdI .i64 c1 9 fun x11 =>
                    bif !(m87_0 o x11) then
                      some (.bool false, [])
                    else
                      rdI .i64 c1 10 fun x12 =>
                      bif !(m87_0 o x12) then
                        some (.bool false, [])
                      else
                        rdI .i64 c1 11 fun x13 =>
                        bif !(m87_0 o x13) then
                          some (.bool false, [])
                        else
                          rdI .i64 c1 12 fun x14 =>
                          bif !(m87_0 o x14) then
                            some (.bool false, [])
                          else
                            rdI .i64 c1 13 fun x15 =>
                            bif !(m87_0 o x15) then
                              some (.bool false, [])
                            else
                              rdI .i64 c1 14 fun x16 =>
                              bif !(m87_0 o x16) then
                                some (.bool false, [])
                              else
                                rdI .i64 c1 15 fun x17 =>
                                bif !(m87_0 o x17) then
                                  some (.bool false, [])
                                else
                                  rdI .i64 c1 16 fun x18 =>
                                  bif !(m87_0 o x18) then
                                    some (.bool false, [])
                                  else
                                    rdI .i64 c1 17 fun x19 =>
                                    bif !(m87_0 o x19) then
                                      some (.bool false, [])
                                    else
                                      rdI .i64 c1 18 fun x20 =>
                                      bif !(m87_0 o x20) then
                                        some (.bool false, [])
                                      else
                                        rdI .i64 c1 19 fun x21 =>
                                        bif !(m87_0 o x21) then
                                          some (.bool false, [])
                                        else
                                          rdI .i64 p0 20 fun x22 =>
                                          some (.bool (m87_0 o x22), [])
noncomputable def c51 (o : FO) (N : Nat) : Cx o :=
  { ty := tab [(2, ty2 o), (25, ty25 o), (27, ty27 o)]
    fn := tab [(87, .pure (e87 o))]
    rounds := 4096, nt := 17, base := 0
    loops := [loopU [1, 6, 7]] }
noncomputable def b51 : Code := match Try.f51.body with | some b => b | none => .skip
theorem is51 (N : Nat) : FnIs Try.prog (c51 ieee N) 51 Try.f51 b51 := ⟨by kernel_rfl, by kernel_rfl, by kernel_rfl, by kernel_rfl⟩
theorem eq51 (o : FO) (N : Nat) (p0 : List (AV o)) : afun (c51 o N) Try.f51.results.toList b51 [.agg p0] [] = f51 o p0 := by kernel_rfl
theorem cok51 (N : Nat) (hN : 4096 ≤ N) : CtxOk Try.prog (c51 ieee N) := by
  refine ctxOk ?_ ?_ mixed ?_
  · intro p hp
    simp only [List.mem_cons, List.not_mem_nil, or_false] at hp
    rcases hp with rfl | rfl | rfl
    · exact tyOk2
    · exact tyOk25
    · exact tyOk27
  · intro p hp
    simp only [List.mem_cons, List.not_mem_nil, or_false] at hp
    subst hp; exact ok87 N hN
  · intro p hp
    simp only [List.mem_cons, List.not_mem_nil, or_false] at hp
    subst hp; exact loopU_ok _
noncomputable def k51 (o : FO) : R o → Bool := fun r => match r with | some (.bool _, _) => true | _ => false
theorem k51_c (o : FO) (b : Bool) (x y : R o) : k51 o (bif b then x else y) = bif b then k51 o x else k51 o y := by cases b <;> rfl
noncomputable def m51_ok (o : FO) (p0 : List (AV o)) : Bool := k51 o (f51 o p0)
noncomputable def g51_0 (o : FO) : R o → Bool := fun r => match r with | some (.bool r0, _) => r0 | _ => false
theorem g51_0c (o : FO) (b : Bool) (x y : R o) : g51_0 o (bif b then x else y) = bif b then g51_0 o x else g51_0 o y := by cases b <;> rfl
noncomputable def m51_0 (o : FO) (p0 : List (AV o)) : Bool := g51_0 o (f51 o p0)
noncomputable def m51_h (o : FO) (p0 : List (AV o)) : Heap o := match f51 o p0 with | some (_, h) => h | _ => []
theorem val51 (o : FO) (p0 : List (AV o)) (h : m51_ok o p0 = true) : f51 o p0 = some (.bool (m51_0 o p0), m51_h o p0) := by
  unfold m51_ok k51 at h
  unfold m51_0 g51_0 m51_h
  generalize f51 o p0 = r at h ⊢
  split at h
  · rfl
  · cases h

noncomputable def e51 (o : FO) : List (AV o) → Tr (AV o)
  | [.agg p0] => .br (m51_ok o p0) (.leaf (.bool (m51_0 o p0))) .fail
  | _ => .fail
theorem ok51 (N : Nat) (hN : 4096 ≤ N) : CalOk Try.prog 51 (.pure (e51 ieee)) := by
  refine calOk_pure (cok51 4096 (by decide)) (is51 4096) ?_
  intro args av hg
  unfold e51 at hg
  split at hg
  · obtain ⟨h0, hg⟩ := br_get hg
    cases hg
    exact ⟨rfl, rfl, _, (eq51 ieee 4096 _).trans (val51 ieee _ h0)⟩
  · cases hg

/-! loop.example/g01224/impl.isClass -/
noncomputable def f55 (o : FO) (p0 : Int) : R o :=
  some (.bool (m84_0 o p0 (0 : Int) (19 : Int)), [])
noncomputable def c55 (o : FO) (N : Nat) : Cx o :=
  { ty := tab []
    fn := tab [(84, .pure (e84 o))]
    rounds := 4096, nt := 5, base := 0
    loops := [] }
noncomputable def b55 : Code := match Try.f55.body with | some b => b | none => .skip
theorem is55 (N : Nat) : FnIs Try.prog (c55 ieee N) 55 Try.f55 b55 := ⟨by kernel_rfl, by kernel_rfl, by kernel_rfl, by kernel_rfl⟩
theorem eq55 (o : FO) (N : Nat) (p0 : Int) : afun (c55 o N) Try.f55.results.toList b55 [.int .i64 p0] [] = f55 o p0 := by kernel_rfl
theorem cok55 (N : Nat) (hN : 4096 ≤ N) : CtxOk Try.prog (c55 ieee N) := by
  refine ctxOk ?_ ?_ mixed ?_
  · intro p hp; cases hp
  · intro p hp
    simp only [List.mem_cons, List.not_mem_nil, or_false] at hp
    subst hp; exact ok84 N hN
  · intro p hp; cases hp
noncomputable def m55_0 (o : FO) (p0 : Int) : Bool :=
  m84_0 o p0 (0 : Int) (19 : Int)
theorem val55 (o : FO) (p0 : Int) : f55 o p0 = some (.bool (m55_0 o p0), []) := by
  unfold f55 m55_0
  rfl

noncomputable def e55 (o : FO) : List (AV o) → Tr (AV o)
  | [.int .i64 p0] => .leaf (.bool (m55_0 o p0))
  | _ => .fail
theorem ok55 (N : Nat) (hN : 4096 ≤ N) : CalOk Try.prog 55 (.pure (e55 ieee)) := by
  refine calOk_pure (cok55 4096 (by decide)) (is55 4096) ?_
  intro args av hg
  unfold e55 at hg
  split at hg
  · cases hg
    exact ⟨rfl, rfl, _, (eq55 ieee 4096 _).trans (val55 ieee _)⟩
  · cases hg

/-! (*loop.example/g01224/impl.Box).collide -/
noncomputable def f80 (o : FO) (p0 : Int) (p1 : Int) (p2 : List (AV o)) : R o :=
  bif m55_0 o p0 then
    bif m55_0 o p1 then
      rdA p2 0 21 fun c1 =>
      wrA (List.replicate 21 (.int .i64 (0 : Int))) 0 21 c1 fun c2 =>
      gd (decide (0 ≤ p0) && decide (p0 < ((20 : Nat) : Int))) (
      rdI .i64 c2 (0 + (((p0).toNat) * 1)) fun x3 =>
      gd (decide (0 ≤ p0) && decide (p0 < ((20 : Nat) : Int))) (
      wr1 c2 (0 + (((p0).toNat) * 1)) (.int .i64 (IntKind.wrap .i64 (x3 - (1 : Int)))) fun c4 =>
      gd (decide (0 ≤ p1) && decide (p1 < ((20 : Nat) : Int))) (
      rdI .i64 c4 (0 + (((p1).toNat) * 1)) fun x5 =>
      gd (decide (0 ≤ p1) && decide (p1 < ((20 : Nat) : Int))) (
      wr1 c4 (0 + (((p1).toNat) * 1)) (.int .i64 (IntKind.wrap .i64 (x5 - (1 : Int)))) fun c6 =>
      gd (decide (0 ≤ p0) && decide (p0 < ((20 : Nat) : Int))) (
      rdI .i64 c6 (0 + (((p0).toNat) * 1)) fun x7 =>
      bif decide (x7 < (0 : Int)) then
        some (.int .i64 (6 : Int), [.live true true p2])
      else
        gd (decide (0 ≤ p1) && decide (p1 < ((20 : Nat) : Int))) (
        rdI .i64 c6 (0 + (((p1).toNat) * 1)) fun x8 =>
        bif decide (x8 < (0 : Int)) then
          some (.int .i64 (6 : Int), [.live true true p2])
        else
          gd (decide (0 ≤ p0)) (
          let v1 : Int := IntKind.wrap .i64 ((1 : Int) * 2 ^ (min (p0).toNat (IntKind.bits .i64)))
          gd (decide (0 ≤ p1)) (
          let v2 : Int := IntKind.wrap .i64 ((1 : Int) * 2 ^ (min (p1).toNat (IntKind.bits .i64)))
          let v3 : Int := IntKind.wrap .i64 (v1 + v2)
          bif decide ((2 : Int) ≤ v3) then
            bif decide ((4 : Int) ≤ v3) then
              bif decide ((8 : Int) ≤ v3) then
                bif decide ((16 : Int) ≤ v3) then
                  bif decide ((32 : Int) ≤ v3) then
                    bif decide ((64 : Int) ≤ v3) then
                      bif decide ((128 : Int) ≤ v3) then
                        bif decide ((256 : Int) ≤ v3) then
                          bif decide ((512 : Int) ≤ v3) then
                            bif decide ((1024 : Int) ≤ v3) then
                              bif decide ((2048 : Int) ≤ v3) then
                                bif decide ((4096 : Int) ≤ v3) then
                                  bif decide ((8192 : Int) ≤ v3) then
                                    bif decide ((16384 : Int) ≤ v3) then
                                      bif decide ((32768 : Int) ≤ v3) then
                                        bif decide ((65536 : Int) ≤ v3) then
                                          bif decide ((131072 : Int) ≤ v3) then
                                            bif decide ((262144 : Int) ≤ v3) then
                                              bif decide ((524288 : Int) ≤ v3) then
                                                rdI .i64 c6 19 fun x9 =>
                                                wr1 c6 19 (.int .i64 (IntKind.wrap .i64 (x9 + (1 : Int)))) fun c10 =>
                                                rdI .i64 c10 20 fun x11 =>
                                                wr1 c10 20 (.int .i64 (IntKind.wrap .i64 (x11 + (IntKind.wrap .i64 (v3 - (524288 : Int)))))) fun c12 =>
                                                rdA c12 0 21 fun c13 =>
                                                gd (m51_ok o c13) (
                                                bif !(m51_0 o c13) then
                                                  some (.int .i64 (3 : Int), [.live true true p2])
                                                else
                                                  rdA c12 0 21 fun c14 =>
                                                  wrA p2 0 21 c14 fun c15 =>
                                                  some (.int .i64 (0 : Int), [.live true true c15]))
                                              else
                                                rdI .i64 c6 18 fun x16 =>
                                                wr1 c6 18 (.int .i64 (IntKind.wrap .i64 (x16 + (1 : Int)))) fun c17 =>
                                                rdI .i64 c17 20 fun x18 =>
                                                wr1 c17 20 (.int .i64 (IntKind.wrap .i64 (x18 + (IntKind.wrap .i64 (v3 - (262144 : Int)))))) fun c19 =>
                                                rdA c19 0 21 fun c20 =>
                                                gd (m51_ok o c20) (
                                                bif !(m51_0 o c20) then
                                                  some (.int .i64 (3 : Int), [.live true true p2])
                                                else
                                                  rdA c19 0 21 fun c21 =>
                                                  wrA p2 0 21 c21 fun c22 =>
                                                  some (.int .i64 (0 : Int), [.live true true c22]))
                                            else
                                              rdI .i64 c6 17 fun x23 =>
                                              wr1 c6 17 (.int .i64 (IntKind.wrap .i64 (x23 + (1 : Int)))) fun c24 =>
                                              rdI .i64 c24 20 fun x25 =>
                                              wr1 c24 20 (.int .i64 (IntKind.wrap .i64 (x25 + (IntKind.wrap .i64 (v3 - (131072 : Int)))))) fun c26 =>
                                              rdA c26 0 21 fun c27 =>
                                              gd (m51_ok o c27) (
                                              bif !(m51_0 o c27) then
                                                some (.int .i64 (3 : Int), [.live true true p2])
                                              else
                                                rdA c26 0 21 fun c28 =>
                                                wrA p2 0 21 c28 fun c29 =>
                                                some (.int .i64 (0 : Int), [.live true true c29]))
                                          else
                                            rdI .i64 c6 16 fun x30 =>
                                            wr1 c6 16 (.int .i64 (IntKind.wrap .i64 (x30 + (1 : Int)))) fun c31 =>
                                            rdI .i64 c31 20 fun x32 =>
                                            wr1 c31 20 (.int .i64 (IntKind.wrap .i64 (x32 + (IntKind.wrap .i64 (v3 - (65536 : Int)))))) fun c33 =>
                                            rdA c33 0 21 fun c34 =>
                                            gd (m51_ok o c34) (
                                            bif !(m51_0 o c34) then
                                              some (.int .i64 (3 : Int), [.live true true p2])
                                            else
                                              rdA c33 0 21 fun c35 =>
                                              wrA p2 0 21 c35 fun c36 =>
                                              some (.int .i64 (0 : Int), [.live true true c36]))
                                        else
                                          rdI .i64 c6 15 fun x37 =>
                                          wr1 c6 15 (.int .i64 (IntKind.wrap .i64 (x37 + (1 : Int)))) fun c38 =>
                                          rdI .i64 c38 20 fun x39 =>
                                          wr1 c38 20 (.int .i64 (IntKind.wrap .i64 (x39 + (IntKind.wrap .i64 (v3 - (32768 : Int)))))) fun c40 =>
                                          rdA c40 0 21 fun c41 =>
                                          gd (m51_ok o c41) (
                                          bif !(m51_0 o c41) then
                                            some (.int .i64 (3 : Int), [.live true true p2])
                                          else
                                            rdA c40 0 21 fun c42 =>
                                            wrA p2 0 21 c42 fun c43 =>
                                            some (.int .i64 (0 : Int), [.live true true c43]))
                                      else
                                        rdI .i64 c6 14 fun x44 =>
                                        wr1 c6 14 (.int .i64 (IntKind.wrap .i64 (x44 + (1 : Int)))) fun c45 =>
                                        rdI .i64 c45 20 fun x46 =>
                                        wr1 c45 20 (.int .i64 (IntKind.wrap .i64 (x46 + (IntKind.wrap .i64 (v3 - (16384 : Int)))))) fun c47 =>
                                        rdA c47 0 21 fun c48 =>
                                        gd (m51_ok o c48) (
                                        bif !(m51_0 o c48) then
                                          some (.int .i64 (3 : Int), [.live true true p2])
                                        else
                                          rdA c47 0 21 fun c49 =>
                                          wrA p2 0 21 c49 fun c50 =>
                                          some (.int .i64 (0 : Int), [.live true true c50]))
                                    else
                                      rdI .i64 c6 13 fun x51 =>
                                      wr1 c6 13 (.int .i64 (IntKind.wrap .i64 (x51 + (1 : Int)))) fun c52 =>
                                      rdI .i64 c52 20 fun x53 =>
                                      wr1 c52 20 (.int .i64 (IntKind.wrap .i64 (x53 + (IntKind.wrap .i64 (v3 - (8192 : Int)))))) fun c54 =>
                                      rdA c54 0 21 fun c55 =>
                                      gd (m51_ok o c55) (
                                      bif !(m51_0 o c55) then
                                        some (.int .i64 (3 : Int), [.live true true p2])
                                      else
                                        rdA c54 0 21 fun c56 =>
                                        wrA p2 0 21 c56 fun c57 =>
                                        some (.int .i64 (0 : Int), [.live true true c57]))
                                  else
                                    rdI .i64 c6 12 fun x58 =>
                                    wr1 c6 12 (.int .i64 (IntKind.wrap .i64 (x58 + (1 : Int)))) fun c59 =>
                                    rdI .i64 c59 20 fun x60 =>
                                    wr1 c59 20 (.int .i64 (IntKind.wrap .i64 (x60 + (IntKind.wrap .i64 (v3 - (4096 : Int)))))) fun c61 =>
                                    rdA c61 0 21 fun c62 =>
                                    gd (m51_ok o c62) (
                                    bif !(m51_0 o c62) then
                                      some (.int .i64 (3 : Int), [.live true true p2])
                                    else
                                      rdA c61 0 21 fun c63 =>
                                      wrA p2 0 21 c63 fun c64 =>
                                      some (.int .i64 (0 : Int), [.live true true c64]))
                                else
                                  rdI .i64 c6 11 fun x65 =>
                                  wr1 c6 11 (.int .i64 (IntKind.wrap .i64 (x65 + (1 : Int)))) fun c66 =>
                                  rdI .i64 c66 20 fun x67 =>
                                  wr1 c66 20 (.int .i64 (IntKind.wrap .i64 (x67 + (IntKind.wrap .i64 (v3 - (2048 : Int)))))) fun c68 =>
                                  rdA c68 0 21 fun c69 =>
                                  gd (m51_ok o c69) (
                                  bif !(m51_0 o c69) then
                                    some (.int .i64 (3 : Int), [.live true true p2])
                                  else
                                    rdA c68 0 21 fun c70 =>
                                    wrA p2 0 21 c70 fun c71 =>
                                    some (.int .i64 (0 : Int), [.live true true c71]))
                              else
                                rdI .i64 c6 10 fun x72 =>
                                wr1 c6 10 (.int .i64 (IntKind.wrap .i64 (x72 + (1 : Int)))) fun c73 =>
                                rdI .i64 c73 20 fun x74 =>
                                wr1 c73 20 (.int .i64 (IntKind.wrap .i64 (x74 + (IntKind.wrap .i64 (v3 - (1024 : Int)))))) fun c75 =>
                                rdA c75 0 21 fun c76 =>
                                gd (m51_ok o c76) (
                                bif !(m51_0 o c76) then
                                  some (.int .i64 (3 : Int), [.live true true p2])
                                else
                                  rdA c75 0 21 fun c77 =>
                                  wrA p2 0 21 c77 fun c78 =>
                                  some (.int .i64 (0 : Int), [.live true true c78]))
                            else
                              rdI .i64 c6 9 fun x79 =>
                              wr1 c6 9 (.int .i64 (IntKind.wrap .i64 (x79 + (1 : Int)))) fun c80 =>
                              rdI .i64 c80 20 fun x81 =>
                              wr1 c80 20 (.int .i64 (IntKind.wrap .i64 (x81 + (IntKind.wrap .i64 (v3 - (512 : Int)))))) fun c82 =>
                              rdA c82 0 21 fun c83 =>
                              gd (m51_ok o c83) (
                              bif !(m51_0 o c83) then
                                some (.int .i64 (3 : Int), [.live true true p2])
                              else
                                rdA c82 0 21 fun c84 =>
                                wrA p2 0 21 c84 fun c85 =>
                                some (.int .i64 (0 : Int), [.live true true c85]))
                          else
                            rdI .i64 c6 8 fun x86 =>
                            wr1 c6 8 (.int .i64 (IntKind.wrap .i64 (x86 + (1 : Int)))) fun c87 =>
                            rdI .i64 c87 20 fun x88 =>
                            wr1 c87 20 (.int .i64 (IntKind.wrap .i64 (x88 + (IntKind.wrap .i64 (v3 - (256 : Int)))))) fun c89 =>
                            rdA c89 0 21 fun c90 =>
                            gd (m51_ok o c90) (
                            bif !(m51_0 o c90) then
                              some (.int .i64 (3 : Int), [.live true true p2])
                            else
                              rdA c89 0 21 fun c91 =>
                              wrA p2 0 21 c91 fun c92 =>
                              some (.int .i64 (0 : Int), [.live true true c92]))
                        else
                          rdI .i64 c6 7 fun x93 =>
                          wr1 c6 7 (.int .i64 (IntKind.wrap .i64 (x93 + (1 : Int)))) fun c94 =>
                          rdI .i64 c94 20 fun x95 =>
                          wr1 c94 20 (.int .i64 (IntKind.wrap .i64 (x95 + (IntKind.wrap .i64 (v3 - (128 : Int)))))) fun c96 =>
                          rdA c96 0 21 fun c97 =>
                          gd (m51_ok o c97) (
                          bif !(m51_0 o c97) then
                            some (.int .i64 (3 : Int), [.live true true p2])
                          else
                            rdA c96 0 21 fun c98 =>
                            wrA p2 0 21 c98 fun c99 =>
                            some (.int .i64 (0 : Int), [.live true true c99]))
                      else
                        rdI .i64 c6 6 fun x100 =>
                        wr1 c6 6 (.int .i64 (IntKind.wrap .i64 (x100 + (1 : Int)))) fun c101 =>
                        rdI .i64 c101 20 fun x102 =>
                        wr1 c101 20 (.int .i64 (IntKind.wrap .i64 (x102 + (IntKind.wrap .i64 (v3 - (64 : Int)))))) fun c103 =>
                        rdA c103 0 21 fun c104 =>
                        gd (m51_ok o c104) (
                        bif !(m51_0 o c104) then
                          some (.int .i64 (3 : Int), [.live true true p2])
                        else
                          rdA c103 0 21 fun c105 =>
                          wrA p2 0 21 c105 fun c106 =>
                          some (.int .i64 (0 : Int), [.live true true c106]))
                    else
                      rdI .i64 c6 5 fun x107 =>
                      wr1 c6 5 (.int .i64 (IntKind.wrap .i64 (x107 + (1 : Int)))) fun c108 =>
                      rdI .i64 c108 20 fun x109 =>
                      wr1 c108 20 (.int .i64 (IntKind.wrap .i64 (x109 + (IntKind.wrap .i64 (v3 - (32 : Int)))))) fun c110 =>
                      rdA c110 0 21 fun c111 =>
                      gd (m51_ok o c111) (
                      bif !(m51_0 o c111) then
                        some (.int .i64 (3 : Int), [.live true true p2])
                      else
                        rdA c110 0 21 fun c112 =>
                        wrA p2 0 21 c112 fun c113 =>
                        some (.int .i64 (0 : Int), [.live true true c113]))
                  else
                    rdI .i64 c6 4 fun x114 =>
                    wr1 c6 4 (.int .i64 (IntKind.wrap .i64 (x114 + (1 : Int)))) fun c115 =>
                    rdI .i64 c115 20 fun x116 =>
                    wr1 c115 20 (.int .i64 (IntKind.wrap .i64 (x116 + (IntKind.wrap .i64 (v3 - (16 : Int)))))) fun c117 =>
                    rdA c117 0 21 fun c118 =>
                    gd (m51_ok o c118) (
                    bif !(m51_0 o c118) then
                      some (.int .i64 (3 : Int), [.live true true p2])
                    else
                      rdA c117 0 21 fun c119 =>
                      wrA p2 0 21 c119 fun c120 =>
                      some (.int .i64 (0 : Int), [.live true true c120]))
                else
                  rdI .i64 c6 3 fun x121 =>
                  wr1 c6 3 (.int .i64 (IntKind.wrap .i64 (x121 + (1 : Int)))) fun c122 =>
                  rdI .i64 c122 20 fun x123 =>
                  wr1 c122 20 (.int .i64 (IntKind.wrap .i64 (x123 + (IntKind.wrap .i64 (v3 - (8 : Int)))))) fun c124 =>
                  rdA c124 0 21 fun c125 =>
                  gd (m51_ok o c125) (
                  bif !(m51_0 o c125) then
                    some (.int .i64 (3 : Int), [.live true true p2])
                  else
                    rdA c124 0 21 fun c126 =>
                    wrA p2 0 21 c126 fun c127 =>
                    some (.int .i64 (0 : Int), [.live true true c127]))
              else
                rdI .i64 c6 2 fun x128 =>
                wr1 c6 2 (.int .i64 (IntKind.wrap .i64 (x128 + (1 : Int)))) fun c129 =>
                rdI .i64 c129 20 fun x130 =>
                wr1 c129 20 (.int .i64 (IntKind.wrap .i64 (x130 + (IntKind.wrap .i64 (v3 - (4 : Int)))))) fun c131 =>
                rdA c131 0 21 fun c132 =>
                gd (m51_ok o c132) (
                bif !(m51_0 o c132) then
                  some (.int .i64 (3 : Int), [.live true true p2])
                else
                  rdA c131 0 21 fun c133 =>
                  wrA p2 0 21 c133 fun c134 =>
                  some (.int .i64 (0 : Int), [.live true true c134]))
            else
              rdI .i64 c6 1 fun x135 =>
              wr1 c6 1 (.int .i64 (IntKind.wrap .i64 (x135 + (1 : Int)))) fun c136 =>
              rdI .i64 c136 20 fun x137 =>
              wr1 c136 20 (.int .i64 (IntKind.wrap .i64 (x137 + (IntKind.wrap .i64 (v3 - (2 : Int)))))) fun c138 =>
              rdA c138 0 21 fun c139 =>
              gd (m51_ok o c139) (
              bif !(m51_0 o c139) then
                some (.int .i64 (3 : Int), [.live true true p2])
              else
                rdA c138 0 21 fun c140 =>
                wrA p2 0 21 c140 fun c141 =>
                some (.int .i64 (0 : Int), [.live true true c141]))
          else
            rdI .i64 c6 0 fun x142 =>
            wr1 c6 0 (.int .i64 (IntKind.wrap .i64 (x142 + (1 : Int)))) fun c143 =>
            rdI .i64 c143 20 fun x144 =>
            wr1 c143 20 (.int .i64 (IntKind.wrap .i64 (x144 + (IntKind.wrap .i64 (v3 - (1 : Int)))))) fun c145 =>
            rdA c145 0 21 fun c146 =>
            gd (m51_ok o c146) (
            bif !(m51_0 o c146) then
              some (.int .i64 (3 : Int), [.live true true p2])
            else
              rdA c145 0 21 fun c147 =>
              wrA p2 0 21 c147 fun c148 =>
              some (.int .i64 (0 : Int), [.live true true c148]))))))))))
    else
      some (.int .i64 (2 : Int), [.live true true p2])
  else
    some (.int .i64 (2 : Int), [.live true true p2])
noncomputable def c80 (o : FO) (N : Nat) : Cx o :=
  { ty := tab [(2, ty2 o), (25, ty25 o), (27, ty27 o), (60, ty60 o)]
    fn := tab [(51, .pure (e51 o)), (55, .pure (e55 o))]
    rounds := 4096, nt := 90, base := 1
    loops := [loopU [0, 5, 6, 7]] }
noncomputable def b80 : Code := match Try.f80.body with | some b => b | none => .skip
theorem is80 (N : Nat) : FnIs Try.prog (c80 ieee N) 80 Try.f80 b80 := ⟨by kernel_rfl, by kernel_rfl, by kernel_rfl, by kernel_rfl⟩
theorem eq80 (o : FO) (N : Nat) (p0 : Int) (p1 : Int) (p2 : List (AV o)) : afun (c80 o N) Try.f80.results.toList b80 [.ptr 0 0, .agg [.int .i64 p0, .int .i64 p1]] [.live true true p2] = f80 o p0 p1 p2 := by kernel_rfl
theorem cok80 (N : Nat) (hN : 4096 ≤ N) : CtxOk Try.prog (c80 ieee N) := by
  refine ctxOk ?_ ?_ mixed ?_
  · intro p hp
    simp only [List.mem_cons, List.not_mem_nil, or_false] at hp
    rcases hp with rfl | rfl | rfl | rfl
    · exact tyOk2
    · exact tyOk25
    · exact tyOk27
    · exact tyOk60
  · intro p hp
    simp only [List.mem_cons, List.not_mem_nil, or_false] at hp
    rcases hp with rfl | rfl
    · exact ok51 N hN
    · exact ok55 N hN
  · intro p hp
    simp only [List.mem_cons, List.not_mem_nil, or_false] at hp
    subst hp; exact loopU_ok _
noncomputable def k80 (o : FO) : R o → Bool := fun r => match r with | some (.int .i64 _, [.live true true _]) => true | _ => false
theorem k80_c (o : FO) (b : Bool) (x y : R o) : k80 o (bif b then x else y) = bif b then k80 o x else k80 o y := by cases b <;> rfl
noncomputable def m80_ok (o : FO) (p0 : Int) (p1 : Int) (p2 : List (AV o)) : Bool := k80 o (f80 o p0 p1 p2)
noncomputable def g80_0 (o : FO) : R o → Int := fun r => match r with | some (.int .i64 r0, [.live true true _]) => r0 | _ => 0
theorem g80_0c (o : FO) (b : Bool) (x y : R o) : g80_0 o (bif b then x else y) = bif b then g80_0 o x else g80_0 o y := by cases b <;> rfl
noncomputable def m80_0 (o : FO) (p0 : Int) (p1 : Int) (p2 : List (AV o)) : Int := g80_0 o (f80 o p0 p1 p2)
noncomputable def g80_1 (o : FO) : R o → List (AV o) := fun r => match r with | some (.int .i64 _, [.live true true r1]) => r1 | _ => []
theorem g80_1c (o : FO) (b : Bool) (x y : R o) : g80_1 o (bif b then x else y) = bif b then g80_1 o x else g80_1 o y := by cases b <;> rfl
noncomputable def m80_1 (o : FO) (p0 : Int) (p1 : Int) (p2 : List (AV o)) : List (AV o) := g80_1 o (f80 o p0 p1 p2)
theorem val80 (o : FO) (p0 : Int) (p1 : Int) (p2 : List (AV o)) (h : m80_ok o p0 p1 p2 = true) : f80 o p0 p1 p2 = some (.int .i64 (m80_0 o p0 p1 p2), [.live true true (m80_1 o p0 p1 p2)]) := by
  unfold m80_ok k80 at h
  unfold m80_0 g80_0 m80_1 g80_1
  generalize f80 o p0 p1 p2 = r at h ⊢
  split at h
  · rfl
  · cases h

noncomputable def e80 (o : FO) : List (AV o) → Heap o → Tr (AV o × Heap o)
  | [.ptr 0 0, .agg [.int .i64 p0, .int .i64 p1]], [.live true true p2] => .br (m80_ok o p0 p1 p2) (.leaf ((.int .i64 (m80_0 o p0 p1 p2), [.live true true (m80_1 o p0 p1 p2)]))) .fail
  | _, _ => .fail
theorem ok80 (N : Nat) (hN : 4096 ≤ N) : CalOk Try.prog 80 (.rw (e80 ieee)) := by
  refine calOk_rw (cok80 4096 (by decide)) (is80 4096) ?_
  intro args h av h2 hg
  unfold e80 at hg
  split at hg
  · obtain ⟨h0, hg⟩ := br_get hg
    cases hg
    exact (eq80 ieee 4096 _ _ _).trans (val80 ieee _ _ _ h0)
  · cases hg

/-! loop.example/g01224/impl.CollidePair -/
noncomputable def f39 (o : FO) (p0 : List (AV o)) (p1 : Int) (p2 : Int) : R o :=
  rdA p0 0 21 fun c1 =>
  gd (m51_ok o c1) (
  bif !(m51_0 o c1) then
    wrA (List.replicate 21 (.int .i64 (0 : Int))) 0 21 (List.replicate 21 (.int .i64 (0 : Int))) fun c2 =>
    rdA c2 0 21 fun c3 =>
    some (.tup [.agg c3, .int .i64 (1 : Int)], [])
  else
    gd (m80_ok o p1 p2 p0) (
    let v1 : Int := m80_0 o p1 p2 p0
    bif v1 != (0 : Int) then
      wrA (List.replicate 21 (.int .i64 (0 : Int))) 0 21 (List.replicate 21 (.int .i64 (0 : Int))) fun c4 =>
      rdA c4 0 21 fun c5 =>
      some (.tup [.agg c5, .int .i64 v1], [])
    else
      rdA (m80_1 o p1 p2 p0) 0 21 fun c6 =>
      wrA (List.replicate 21 (.int .i64 (0 : Int))) 0 21 c6 fun c7 =>
      rdA c7 0 21 fun c8 =>
      some (.tup [.agg c8, .int .i64 (0 : Int)], [])))
noncomputable def c39 (o : FO) (N : Nat) : Cx o :=
  { ty := tab [(2, ty2 o), (25, ty25 o), (27, ty27 o), (60, ty60 o)]
    fn := tab [(51, .pure (e51 o)), (80, .rw (e80 o))]
    rounds := 4096, nt := 18, base := 0
    loops := [] }
noncomputable def b39 : Code := match Try.f39.body with | some b => b | none => .skip
theorem is39 (N : Nat) : FnIs Try.prog (c39 ieee N) 39 Try.f39 b39 := ⟨by kernel_rfl, by kernel_rfl, by kernel_rfl, by kernel_rfl⟩
theorem eq39 (o : FO) (N : Nat) (p0 : List (AV o)) (p1 : Int) (p2 : Int) : afun (c39 o N) Try.f39.results.toList b39 [.agg p0, .agg [.int .i64 p1, .int .i64 p2]] [] = f39 o p0 p1 p2 := by kernel_rfl
theorem cok39 (N : Nat) (hN : 4096 ≤ N) : CtxOk Try.prog (c39 ieee N) := by
  refine ctxOk ?_ ?_ mixed ?_
  · intro p hp
    simp only [List.mem_cons, List.not_mem_nil, or_false] at hp
    rcases hp with rfl | rfl | rfl | rfl
    · exact tyOk2
    · exact tyOk25
    · exact tyOk27
    · exact tyOk60
  · intro p hp
    simp only [List.mem_cons, List.not_mem_nil, or_false] at hp
    rcases hp with rfl | rfl
    · exact ok51 N hN
    · exact ok80 N hN
  · intro p hp; cases hp
noncomputable def k39 (o : FO) : R o → Bool := fun r => match r with | some (.tup [.agg _, .int .i64 _], _) => true | _ => false
theorem k39_c (o : FO) (b : Bool) (x y : R o) : k39 o (bif b then x else y) = bif b then k39 o x else k39 o y := by cases b <;> rfl
noncomputable def m39_ok (o : FO) (p0 : List (AV o)) (p1 : Int) (p2 : Int) : Bool := k39 o (f39 o p0 p1 p2)
noncomputable def g39_0 (o : FO) : R o → List (AV o) := fun r => match r with | some (.tup [.agg r0, .int .i64 _], _) => r0 | _ => []
theorem g39_0c (o : FO) (b : Bool) (x y : R o) : g39_0 o (bif b then x else y) = bif b then g39_0 o x else g39_0 o y := by cases b <;> rfl
noncomputable def m39_0 (o : FO) (p0 : List (AV o)) (p1 : Int) (p2 : Int) : List (AV o) := g39_0 o (f39 o p0 p1 p2)
noncomputable def g39_1 (o : FO) : R o → Int := fun r => match r with | some (.tup [.agg _, .int .i64 r1], _) => r1 | _ => 0
theorem g39_1c (o : FO) (b : Bool) (x y : R o) : g39_1 o (bif b then x else y) = bif b then g39_1 o x else g39_1 o y := by cases b <;> rfl
noncomputable def m39_1 (o : FO) (p0 : List (AV o)) (p1 : Int) (p2 : Int) : Int := g39_1 o (f39 o p0 p1 p2)
noncomputable def m39_h (o : FO) (p0 : List (AV o)) (p1 : Int) (p2 : Int) : Heap o := match f39 o p0 p1 p2 with | some (_, h) => h | _ => []
theorem val39 (o : FO) (p0 : List (AV o)) (p1 : Int) (p2 : Int) (h : m39_ok o p0 p1 p2 = true) : f39 o p0 p1 p2 = some (.tup [.agg (m39_0 o p0 p1 p2), .int .i64 (m39_1 o p0 p1 p2)], m39_h o p0 p1 p2) := by
  unfold m39_ok k39 at h
  unfold m39_0 g39_0 m39_1 g39_1 m39_h
  generalize f39 o p0 p1 p2 = r at h ⊢
  split at h
  · rfl
  · cases h

noncomputable def e39 (o : FO) : List (AV o) → Tr (AV o)
  | [.agg p0, .agg [.int .i64 p1, .int .i64 p2]] => .br (m39_ok o p0 p1 p2) (.leaf (.tup [.agg (m39_0 o p0 p1 p2), .int .i64 (m39_1 o p0 p1 p2)])) .fail
  | _ => .fail
theorem ok39 (N : Nat) (hN : 4096 ≤ N) : CalOk Try.prog 39 (.pure (e39 ieee)) := by
  refine calOk_pure (cok39 4096 (by decide)) (is39 4096) ?_
  intro args av hg
  unfold e39 at hg
  split at hg
  · obtain ⟨h0, hg⟩ := br_get hg
    cases hg
    exact ⟨rfl, rfl, _, (eq39 ieee 4096 _ _ _).trans (val39 ieee _ _ _ h0)⟩
  · cases hg

/-! loop.example/g01224/laws.eqCounts -/
noncomputable def f52 (o : FO) (p0 : List (AV o)) (p1 : List (AV o)) : R o :=
  rdI .i64 p0 0 fun x1 =>
  rdI .i64 p1 0 fun x2 =>
  bif x1 != x2 then
    some (.bool false, [])
  else
    rdI .i64 p0 1 fun x3 =>
    rdI .i64 p1 1 fun x4 =>
    bif x3 != x4 then
      some (.bool false, [])
    else
      rdI .i64 p0 2 fun x5 =>
      rdI .i64 p1 2 fun x6 =>
      bif x5 != x6 then
        some (.bool false, [])
      else
        rdI .i64 p0 3 fun x7 =>
        rdI .i64 p1 3 fun x8 =>
        bif x7 != x8 then
          some (.bool false, [])
        else
          rdI .i64 p0 4 fun x9 =>
          rdI .i64 p1 4 fun x10 =>
          bif x9 != x10 then
            some (.bool false, [])
          else
            rdI .i64 p0 5 fun x11 =>
            rdI .i64 p1 5 fun x12 =>
            bif x11 != x12 then
              some (.bool false, [])
            else
              rdI .i64 p0 6 fun x13 =>
              rdI .i64 p1 6 fun x14 =>
              bif x13 != x14 then
                some (.bool false, [])
              else
                rdI .i64 p0 7 fun x15 =>
                rdI .i64 p1 7 fun x16 =>
                bif x15 != x16 then
                  some (.bool false, [])
                else
                  rdI .i64 p0 8 fun x17 =>
                  rdI .i64 p1 8 fun x18 =>
                  bif x17 != x18 then
                    some (.bool false, [])
                  else
                    rdI .i64 p0 9 fun x19 =>
                    rdI .i64 p1 9 fun x20 =>
                    bif x19 != x20 then
                      some (.bool false, [])
                    else
                      rdI .i64 p0 10 fun x21 =>
                      rdI .i64 p1 10 fun x22 =>
                      bif x21 != x22 then
                        some (.bool false, [])
                      else
                        rdI .i64 p0 11 fun x23 =>
                        rdI .i64 p1 11 fun x24 =>
                        bif x23 != x24 then
                          some (.bool false, [])
                        else
                          rdI .i64 p0 12 fun x25 =>
                          rdI .i64 p1 12 fun x26 =>
                          bif x25 != x26 then
                            some (.bool false, [])
                          else
                            rdI .i64 p0 13 fun x27 =>
                            rdI .i64 p1 13 fun x28 =>
                            bif x27 != x28 then
                              some (.bool false, [])
                            else
                              rdI .i64 p0 14 fun x29 =>
                              rdI .i64 p1 14 fun x30 =>
                              bif x29 != x30 then
                                some (.bool false, [])
                              else
                                rdI .i64 p0 15 fun x31 =>
                                rdI .i64 p1 15 fun x32 =>
                                bif x31 != x32 then
                                  some (.bool false, [])
                                else
                                  rdI .i64 p0 16 fun x33 =>
                                  rdI .i64 p1 16 fun x34 =>
                                  bif x33 != x34 then
                                    some (.bool false, [])
                                  else
                                    rdI .i64 p0 17 fun x35 =>
                                    rdI .i64 p1 17 fun x36 =>
                                    bif x35 != x36 then
                                      some (.bool false, [])
                                    else
                                      rdI .i64 p0 18 fun x37 =>
                                      rdI .i64 p1 18 fun x38 =>
                                      bif x37 != x38 then
                                        some (.bool false, [])
                                      else
                                        rdI .i64 p0 19 fun x39 =>
                                        rdI .i64 p1 19 fun x40 =>
                                        bif x39 != x40 then
                                          some (.bool false, [])
                                        else
                                          some (.bool true, [])
noncomputable def c52 (o : FO) (N : Nat) : Cx o :=
  { ty := tab [(2, ty2 o), (25, ty25 o)]
    fn := tab []
    rounds := 4096, nt := 17, base := 0
    loops := [loopU [2, 3, 5]] }
noncomputable def b52 : Code := match Try.f52.body with | some b => b | none => .skip
theorem is52 (N : Nat) : FnIs Try.prog (c52 ieee N) 52 Try.f52 b52 := ⟨by kernel_rfl, by kernel_rfl, by kernel_rfl, by kernel_rfl⟩
theorem eq52 (o : FO) (N : Nat) (p0 : List (AV o)) (p1 : List (AV o)) : afun (c52 o N) Try.f52.results.toList b52 [.agg p0, .agg p1] [] = f52 o p0 p1 := by kernel_rfl
theorem cok52 (N : Nat) (hN : 4096 ≤ N) : CtxOk Try.prog (c52 ieee N) := by
  refine ctxOk ?_ ?_ mixed ?_
  · intro p hp
    simp only [List.mem_cons, List.not_mem_nil, or_false] at hp
    rcases hp with rfl | rfl
    · exact tyOk2
    · exact tyOk25
  · intro p hp; cases hp
  · intro p hp
    simp only [List.mem_cons, List.not_mem_nil, or_false] at hp
    subst hp; exact loopU_ok _
noncomputable def k52 (o : FO) : R o → Bool := fun r => match r with | some (.bool _, _) => true | _ => false
theorem k52_c (o : FO) (b : Bool) (x y : R o) : k52 o (bif b then x else y) = bif b then k52 o x else k52 o y := by cases b <;> rfl
noncomputable def m52_ok (o : FO) (p0 : List (AV o)) (p1 : List (AV o)) : Bool := k52 o (f52 o p0 p1)
noncomputable def g52_0 (o : FO) : R o → Bool := fun r => match r with | some (.bool r0, _) => r0 | _ => false
theorem g52_0c (o : FO) (b : Bool) (x y : R o) : g52_0 o (bif b then x else y) = bif b then g52_0 o x else g52_0 o y := by cases b <;> rfl
noncomputable def m52_0 (o : FO) (p0 : List (AV o)) (p1 : List (AV o)) : Bool := g52_0 o (f52 o p0 p1)
noncomputable def m52_h (o : FO) (p0 : List (AV o)) (p1 : List (AV o)) : Heap o := match f52 o p0 p1 with | some (_, h) => h | _ => []
theorem val52 (o : FO) (p0 : List (AV o)) (p1 : List (AV o)) (h : m52_ok o p0 p1 = true) : f52 o p0 p1 = some (.bool (m52_0 o p0 p1), m52_h o p0 p1) := by
  unfold m52_ok k52 at h
  unfold m52_0 g52_0 m52_h
  generalize f52 o p0 p1 = r at h ⊢
  split at h
  · rfl
  · cases h

noncomputable def e52 (o : FO) : List (AV o) → Tr (AV o)
  | [.agg p0, .agg p1] => .br (m52_ok o p0 p1) (.leaf (.bool (m52_0 o p0 p1))) .fail
  | _ => .fail
theorem ok52 (N : Nat) (hN : 4096 ≤ N) : CalOk Try.prog 52 (.pure (e52 ieee)) := by
  refine calOk_pure (cok52 4096 (by decide)) (is52 4096) ?_
  intro args av hg
  unfold e52 at hg
  split at hg
  · obtain ⟨h0, hg⟩ := br_get hg
    cases hg
    exact ⟨rfl, rfl, _, (eq52 ieee 4096 _ _).trans (val52 ieee _ _ h0)⟩
  · cases hg

/-! loop.example/g01224/laws.eqBox -/
noncomputable def f17 (o : FO) (p0 : List (AV o)) (p1 : List (AV o)) : R o :=
  rdA p0 0 20 fun c1 =>
  rdA p1 0 20 fun c2 =>
  gd (m52_ok o c1 c2) (
  bif !(m52_0 o c1 c2) then
    some (.bool false, [])
  else
    rdI .i64 p0 20 fun x3 =>
    rdI .i64 p1 20 fun x4 =>
    bif x3 != x4 then
      some (.bool false, [])
    else
      some (.bool true, []))
noncomputable def c17 (o : FO) (N : Nat) : Cx o :=
  { ty := tab [(2, ty2 o), (25, ty25 o), (27, ty27 o)]
    fn := tab [(52, .pure (e52 o))]
    rounds := 4096, nt := 16, base := 0
    loops := [] }
noncomputable def b17 : Code := match Try.f17.body with | some b => b | none => .skip
theorem is17 (N : Nat) : FnIs Try.prog (c17 ieee N) 17 Try.f17 b17 := ⟨by kernel_rfl, by kernel_rfl, by kernel_rfl, by kernel_rfl⟩
theorem eq17 (o : FO) (N : Nat) (p0 : List (AV o)) (p1 : List (AV o)) : afun (c17 o N) Try.f17.results.toList b17 [.agg p0, .agg p1] [] = f17 o p0 p1 := by kernel_rfl
theorem cok17 (N : Nat) (hN : 4096 ≤ N) : CtxOk Try.prog (c17 ieee N) := by
  refine ctxOk ?_ ?_ mixed ?_
  · intro p hp
    simp only [List.mem_cons, List.not_mem_nil, or_false] at hp
    rcases hp with rfl | rfl | rfl
    · exact tyOk2
    · exact tyOk25
    · exact tyOk27
  · intro p hp
    simp only [List.mem_cons, List.not_mem_nil, or_false] at hp
    subst hp; exact ok52 N hN
  · intro p hp; cases hp
noncomputable def k17 (o : FO) : R o → Bool := fun r => match r with | some (.bool _, _) => true | _ => false
theorem k17_c (o : FO) (b : Bool) (x y : R o) : k17 o (bif b then x else y) = bif b then k17 o x else k17 o y := by cases b <;> rfl
noncomputable def m17_ok (o : FO) (p0 : List (AV o)) (p1 : List (AV o)) : Bool := k17 o (f17 o p0 p1)
noncomputable def g17_0 (o : FO) : R o → Bool := fun r => match r with | some (.bool r0, _) => r0 | _ => false
theorem g17_0c (o : FO) (b : Bool) (x y : R o) : g17_0 o (bif b then x else y) = bif b then g17_0 o x else g17_0 o y := by cases b <;> rfl
noncomputable def m17_0 (o : FO) (p0 : List (AV o)) (p1 : List (AV o)) : Bool := g17_0 o (f17 o p0 p1)
noncomputable def m17_h (o : FO) (p0 : List (AV o)) (p1 : List (AV o)) : Heap o := match f17 o p0 p1 with | some (_, h) => h | _ => []
theorem val17 (o : FO) (p0 : List (AV o)) (p1 : List (AV o)) (h : m17_ok o p0 p1 = true) : f17 o p0 p1 = some (.bool (m17_0 o p0 p1), m17_h o p0 p1) := by
  unfold m17_ok k17 at h
  unfold m17_0 g17_0 m17_h
  generalize f17 o p0 p1 = r at h ⊢
  split at h
  · rfl
  · cases h

noncomputable def e17 (o : FO) : List (AV o) → Tr (AV o)
  | [.agg p0, .agg p1] => .br (m17_ok o p0 p1) (.leaf (.bool (m17_0 o p0 p1))) .fail
  | _ => .fail
theorem ok17 (N : Nat) (hN : 4096 ≤ N) : CalOk Try.prog 17 (.pure (e17 ieee)) := by
  refine calOk_pure (cok17 4096 (by decide)) (is17 4096) ?_
  intro args av hg
  unfold e17 at hg
  split at hg
  · obtain ⟨h0, hg⟩ := br_get hg
    cases hg
    exact ⟨rfl, rfl, _, (eq17 ieee 4096 _ _).trans (val17 ieee _ _ h0)⟩
  · cases hg

/-! loop.example/g01224/laws.FnExactCollidePair -/
noncomputable def f11 (o : FO) (p0 : List (AV o)) (p1 : Int) (p2 : Int) : R o :=
  rdA p0 0 21 fun c1 =>
  gd (m15_ok o c1) (
  gd (m37_ok o (m15_0 o c1) p1 p2) (
  wrA (List.replicate 21 (.int .i64 (0 : Int))) 0 21 (m37_0 o (m15_0 o c1) p1 p2) fun c2 =>
  rdA p0 0 21 fun c3 =>
  gd (m15_ok o c3) (
  gd (m39_ok o (m15_0 o c3) p1 p2) (
  wrA (List.replicate 21 (.int .i64 (0 : Int))) 0 21 (m39_0 o (m15_0 o c3) p1 p2) fun c4 =>
  rdA c4 0 21 fun c5 =>
  rdA c2 0 21 fun c6 =>
  gd (m17_ok o c5 c6) (
  bif m17_0 o c5 c6 then
    bif (m39_1 o (m15_0 o c3) p1 p2) != (m37_1 o (m15_0 o c1) p1 p2) then
      some (.bool false, [])
    else
      some (.bool true, [])
  else
    some (.bool false, []))))))
noncomputable def c11 (o : FO) (N : Nat) : Cx o :=
  { ty := tab [(24, ty24 o), (27, ty27 o), (58, ty58 o)]
    fn := tab [(15, .pure (e15 o)), (17, .pure (e17 o)), (37, .pure (e37 o)), (38, .pure (e38 o)), (39, .pure (e39 o))]
    rounds := 4096, nt := 34, base := 0
    loops := [] }
noncomputable def b11 : Code := match Try.f11.body with | some b => b | none => .skip
theorem is11 (N : Nat) : FnIs Try.prog (c11 ieee N) 11 Try.f11 b11 := ⟨by kernel_rfl, by kernel_rfl, by kernel_rfl, by kernel_rfl⟩
theorem eq11 (o : FO) (N : Nat) (p0 : List (AV o)) (p1 : Int) (p2 : Int) : afun (c11 o N) Try.f11.results.toList b11 [.agg p0, .agg [.int .i64 p1, .int .i64 p2]] [] = f11 o p0 p1 p2 := by kernel_rfl
theorem cok11 (N : Nat) (hN : 4096 ≤ N) : CtxOk Try.prog (c11 ieee N) := by
  refine ctxOk ?_ ?_ mixed ?_
  · intro p hp
    simp only [List.mem_cons, List.not_mem_nil, or_false] at hp
    rcases hp with rfl | rfl | rfl
    · exact tyOk24
    · exact tyOk27
    · exact tyOk58
  · intro p hp
    simp only [List.mem_cons, List.not_mem_nil, or_false] at hp
    rcases hp with rfl | rfl | rfl | rfl | rfl
    · exact ok15 N hN
    · exact ok17 N hN
    · exact ok37 N hN
    · exact ok38 N hN
    · exact ok39 N hN
  · intro p hp; cases hp
noncomputable def k11 (o : FO) : R o → Bool := fun r => match r with | some (.bool _, _) => true | _ => false
theorem k11_c (o : FO) (b : Bool) (x y : R o) : k11 o (bif b then x else y) = bif b then k11 o x else k11 o y := by cases b <;> rfl
noncomputable def m11_ok (o : FO) (p0 : List (AV o)) (p1 : Int) (p2 : Int) : Bool := k11 o (f11 o p0 p1 p2)
noncomputable def g11_0 (o : FO) : R o → Bool := fun r => match r with | some (.bool r0, _) => r0 | _ => false
theorem g11_0c (o : FO) (b : Bool) (x y : R o) : g11_0 o (bif b then x else y) = bif b then g11_0 o x else g11_0 o y := by cases b <;> rfl
noncomputable def m11_0 (o : FO) (p0 : List (AV o)) (p1 : Int) (p2 : Int) : Bool := g11_0 o (f11 o p0 p1 p2)
noncomputable def m11_h (o : FO) (p0 : List (AV o)) (p1 : Int) (p2 : Int) : Heap o := match f11 o p0 p1 p2 with | some (_, h) => h | _ => []
theorem val11 (o : FO) (p0 : List (AV o)) (p1 : Int) (p2 : Int) (h : m11_ok o p0 p1 p2 = true) : f11 o p0 p1 p2 = some (.bool (m11_0 o p0 p1 p2), m11_h o p0 p1 p2) := by
  unfold m11_ok k11 at h
  unfold m11_0 g11_0 m11_h
  generalize f11 o p0 p1 p2 = r at h ⊢
  split at h
  · rfl
  · cases h

noncomputable def e11 (o : FO) : List (AV o) → Tr (AV o)
  | [.agg p0, .agg [.int .i64 p1, .int .i64 p2]] => .br (m11_ok o p0 p1 p2) (.leaf (.bool (m11_0 o p0 p1 p2))) .fail
  | _ => .fail
theorem ok11 (N : Nat) (hN : 4096 ≤ N) : CalOk Try.prog 11 (.pure (e11 ieee)) := by
  refine calOk_pure (cok11 4096 (by decide)) (is11 4096) ?_
  intro args av hg
  unfold e11 at hg
  split at hg
  · obtain ⟨h0, hg⟩ := br_get hg
    cases hg
    exact ⟨rfl, rfl, _, (eq11 ieee 4096 _ _ _).trans (val11 ieee _ _ _ h0)⟩
  · cases hg

end Go.Proofs.Ytbmakfcooonogaa
