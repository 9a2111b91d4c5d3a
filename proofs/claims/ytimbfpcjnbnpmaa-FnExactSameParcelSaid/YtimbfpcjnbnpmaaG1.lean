import Derived.Test.YtimbfpcjnbnpmaaG0
set_option linter.unusedVariables false
set_option maxRecDepth 100000
namespace Go.Proofs.Ytimbfpcjnbnpmaa
open Go.Ab Go.RowKit

/-! loop.example/g01224/laws.toAir -/
noncomputable def f23 (o : FO) (p0 : o.S) (p1 : o.S) : R o :=
  some (.agg [.f32 p0, .f32 p1], [])
noncomputable def c23 (o : FO) (N : Nat) : Cx o :=
  { ty := tab [(22, ty22 o), (24, ty24 o), (28, ty28 o)]
    fn := tab []
    rounds := N, nt := 11, base := 0
    loops := [] }
noncomputable def b23 : Code := match Try.f23.body with | some b => b | none => .skip
theorem is23 (N : Nat) : FnIs Try.prog (c23 ieee N) 23 Try.f23 b23 := ⟨by kernel_rfl, by kernel_rfl, by kernel_rfl, by kernel_rfl⟩
theorem eq23 (o : FO) (N : Nat) (p0 : o.S) (p1 : o.S) : afun (c23 o N) Try.f23.results.toList b23 [.agg [.f32 p0, .f32 p1]] [] = f23 o p0 p1 := by kernel_rfl
theorem cok23 (N : Nat) (hN : 4096 ≤ N) : CtxOk Try.prog (c23 ieee N) := by
  refine ctxOk ?_ ?_ mixed ?_
  · intro p hp
    simp only [List.mem_cons, List.not_mem_nil, or_false] at hp
    rcases hp with rfl | rfl | rfl
    · exact tyOk22
    · exact tyOk24
    · exact tyOk28
  · intro p hp; cases hp
  · intro p hp; cases hp
theorem val23 (o : FO) (p0 : o.S) (p1 : o.S) : f23 o p0 p1 = some (.agg [.f32 p0, .f32 p1], []) := by
  unfold f23
  rfl

noncomputable def e23 (o : FO) : List (AV o) → Tr (AV o)
  | [.agg [.f32 p0, .f32 p1]] => .leaf (.agg [.f32 p0, .f32 p1])
  | _ => .fail
theorem ok23 (N : Nat) (hN : 4096 ≤ N) : CalOk Try.prog 23 (.pure (e23 ieee)) := by
  refine calOk_pure (cok23 N hN) (is23 N) ?_
  intro args av hg
  unfold e23 at hg
  split at hg
  · cases hg
    exact ⟨rfl, rfl, _, (eq23 ieee N _ _).trans (val23 ieee _ _)⟩
  · cases hg

/-! loop.example/g01224/laws.toParcel -/
noncomputable def f13 (o : FO) (p0 : o.S) (p1 : o.S) (p2 : o.S) : R o :=
  some (.agg [.f32 p0, .f32 p1, .f32 p2], [])
noncomputable def c13 (o : FO) (N : Nat) : Cx o :=
  { ty := tab [(22, ty22 o), (24, ty24 o), (26, ty26 o), (28, ty28 o), (30, ty30 o)]
    fn := tab [(23, .pure (e23 o))]
    rounds := N, nt := 12, base := 0
    loops := [] }
noncomputable def b13 : Code := match Try.f13.body with | some b => b | none => .skip
theorem is13 (N : Nat) : FnIs Try.prog (c13 ieee N) 13 Try.f13 b13 := ⟨by kernel_rfl, by kernel_rfl, by kernel_rfl, by kernel_rfl⟩
theorem eq13 (o : FO) (N : Nat) (p0 : o.S) (p1 : o.S) (p2 : o.S) : afun (c13 o N) Try.f13.results.toList b13 [.agg [.f32 p0, .f32 p1, .f32 p2]] [] = f13 o p0 p1 p2 := by kernel_rfl
theorem cok13 (N : Nat) (hN : 4096 ≤ N) : CtxOk Try.prog (c13 ieee N) := by
  refine ctxOk ?_ ?_ mixed ?_
  · intro p hp
    simp only [List.mem_cons, List.not_mem_nil, or_false] at hp
    rcases hp with rfl | rfl | rfl | rfl | rfl
    · exact tyOk22
    · exact tyOk24
    · exact tyOk26
    · exact tyOk28
    · exact tyOk30
  · intro p hp
    simp only [List.mem_cons, List.not_mem_nil, or_false] at hp
    subst hp; exact ok23 N hN
  · intro p hp; cases hp
theorem val13 (o : FO) (p0 : o.S) (p1 : o.S) (p2 : o.S) : f13 o p0 p1 p2 = some (.agg [.f32 p0, .f32 p1, .f32 p2], []) := by
  unfold f13
  rfl

noncomputable def e13 (o : FO) : List (AV o) → Tr (AV o)
  | [.agg [.f32 p0, .f32 p1, .f32 p2]] => .leaf (.agg [.f32 p0, .f32 p1, .f32 p2])
  | _ => .fail
theorem ok13 (N : Nat) (hN : 4096 ≤ N) : CalOk Try.prog 13 (.pure (e13 ieee)) := by
  refine calOk_pure (cok13 N hN) (is13 N) ?_
  intro args av hg
  unfold e13 at hg
  split at hg
  · cases hg
    exact ⟨rfl, rfl, _, (eq13 ieee N _ _ _).trans (val13 ieee _ _ _)⟩
  · cases hg

/-! math.Float32bits -/
noncomputable def e68 (o : FO) : List (AV o) → Tr (AV o) := eBitsS o
theorem ok68 (N : Nat) (_ : 4096 ≤ N) : CalOk Try.prog 68 (.pure (e68 ieee)) := calOk_bitsS (fn := Try.f68) (by kernel_rfl) (by kernel_rfl) (by kernel_rfl) (by kernel_rfl) (by kernel_rfl)

/-! loop.example/g01224/spec.l01Same -/
noncomputable def f38 (o : FO) (p0 : o.S) (p1 : o.S) : R o :=
  let v1 : Bool := !(o.seq p0 p0)
  bif v1 then
    bif v1 then
      bif !(o.seq p1 p1) then
        some (.bool true, [])
      else
        some (.bool false, [])
    else
      some (.bool false, [])
  else
    let v2 : Bool := !(o.seq p1 p1)
    bif v2 then
      bif v1 then
        bif v2 then
          some (.bool true, [])
        else
          some (.bool false, [])
      else
        some (.bool false, [])
    else
      gd (o.seq p0 p0) (
      gd (o.seq p1 p1) (
      some (.bool ((o.sbits p0) == (o.sbits p1)), [])))
noncomputable def c38 (o : FO) (N : Nat) : Cx o :=
  { ty := tab []
    fn := tab [(68, .pure (e68 o))]
    rounds := N, nt := 26, base := 0
    loops := [] }
noncomputable def b38 : Code := match Try.f38.body with | some b => b | none => .skip
theorem is38 (N : Nat) : FnIs Try.prog (c38 ieee N) 38 Try.f38 b38 := ⟨by kernel_rfl, by kernel_rfl, by kernel_rfl, by kernel_rfl⟩
theorem eq38 (o : FO) (N : Nat) (p0 : o.S) (p1 : o.S) : afun (c38 o N) Try.f38.results.toList b38 [.f32 p0, .f32 p1] [] = f38 o p0 p1 := by kernel_rfl
theorem cok38 (N : Nat) (hN : 4096 ≤ N) : CtxOk Try.prog (c38 ieee N) := by
  refine ctxOk ?_ ?_ mixed ?_
  · intro p hp; cases hp
  · intro p hp
    simp only [List.mem_cons, List.not_mem_nil, or_false] at hp
    subst hp; exact ok68 N hN
  · intro p hp; cases hp
noncomputable def m38_0 (o : FO) (p0 : o.S) (p1 : o.S) : Bool :=
  bif !(o.seq p0 p0) then
    bif !(o.seq p1 p1) then
      true
    else
      false
  else
    bif !(o.seq p1 p1) then
      false
    else
      (o.sbits p0) == (o.sbits p1)
theorem val38 (o : FO) (p0 : o.S) (p1 : o.S) : f38 o p0 p1 = some (.bool (m38_0 o p0 p1), []) := by
  unfold f38 m38_0
  try dsimp only
  cases (o.seq p0 p0)
  · cases (o.seq p1 p1)
    · rfl
    · rfl
  · cases (o.seq p1 p1)
    · rfl
    · rfl

noncomputable def e38 (o : FO) : List (AV o) → Tr (AV o)
  | [.f32 p0, .f32 p1] => .leaf (.bool (m38_0 o p0 p1))
  | _ => .fail
theorem ok38 (N : Nat) (hN : 4096 ≤ N) : CalOk Try.prog 38 (.pure (e38 ieee)) := by
  refine calOk_pure (cok38 N hN) (is38 N) ?_
  intro args av hg
  unfold e38 at hg
  split at hg
  · cases hg
    exact ⟨rfl, rfl, _, (eq38 ieee N _ _).trans (val38 ieee _ _)⟩
  · cases hg

/-! loop.example/g01224/spec.l02Same -/
noncomputable def f39 (o : FO) (p0 : o.S) (p1 : o.S) (p2 : o.S) (p3 : o.S) (p4 : o.S) (p5 : o.S) : R o :=
  bif m38_0 o p1 p4 then
    bif m38_0 o p2 p5 then
      some (.bool true, [.live false true [.f32 p0, .f32 p1, .f32 p2], .live false true [.f32 p3, .f32 p4, .f32 p5]])
    else
      some (.bool false, [.live false true [.f32 p0, .f32 p1, .f32 p2], .live false true [.f32 p3, .f32 p4, .f32 p5]])
  else
    some (.bool false, [.live false true [.f32 p0, .f32 p1, .f32 p2], .live false true [.f32 p3, .f32 p4, .f32 p5]])
noncomputable def c39 (o : FO) (N : Nat) : Cx o :=
  { ty := tab [(22, ty22 o), (28, ty28 o)]
    fn := tab [(38, .pure (e38 o))]
    rounds := N, nt := 25, base := 2
    loops := [] }
noncomputable def b39 : Code := match Try.f39.body with | some b => b | none => .skip
theorem is39 (N : Nat) : FnIs Try.prog (c39 ieee N) 39 Try.f39 b39 := ⟨by kernel_rfl, by kernel_rfl, by kernel_rfl, by kernel_rfl⟩
theorem eq39 (o : FO) (N : Nat) (p0 : o.S) (p1 : o.S) (p2 : o.S) (p3 : o.S) (p4 : o.S) (p5 : o.S) : afun (c39 o N) Try.f39.results.toList b39 [.ptr 0 1, .ptr 1 1] [.live false true [.f32 p0, .f32 p1, .f32 p2], .live false true [.f32 p3, .f32 p4, .f32 p5]] = f39 o p0 p1 p2 p3 p4 p5 := by kernel_rfl
theorem cok39 (N : Nat) (hN : 4096 ≤ N) : CtxOk Try.prog (c39 ieee N) := by
  refine ctxOk ?_ ?_ mixed ?_
  · intro p hp
    simp only [List.mem_cons, List.not_mem_nil, or_false] at hp
    rcases hp with rfl | rfl
    · exact tyOk22
    · exact tyOk28
  · intro p hp
    simp only [List.mem_cons, List.not_mem_nil, or_false] at hp
    subst hp; exact ok38 N hN
  · intro p hp; cases hp
noncomputable def m39_0 (o : FO) (p0 : o.S) (p1 : o.S) (p2 : o.S) (p3 : o.S) (p4 : o.S) (p5 : o.S) : Bool :=
  bif m38_0 o p1 p4 then
    bif m38_0 o p2 p5 then
      true
    else
      false
  else
    false
theorem val39 (o : FO) (p0 : o.S) (p1 : o.S) (p2 : o.S) (p3 : o.S) (p4 : o.S) (p5 : o.S) : f39 o p0 p1 p2 p3 p4 p5 = some (.bool (m39_0 o p0 p1 p2 p3 p4 p5), [.live false true [.f32 p0, .f32 p1, .f32 p2], .live false true [.f32 p3, .f32 p4, .f32 p5]]) := by
  unfold f39 m39_0
  try dsimp only
  cases (m38_0 o p1 p4)
  · rfl
  · cases (m38_0 o p2 p5)
    · rfl
    · rfl

noncomputable def e39 (o : FO) : List (AV o) → Heap o → Tr (AV o)
  | [.ptr 0 1, .ptr 1 1], [.live _ true [.f32 p0, .f32 p1, .f32 p2], .live _ true [.f32 p3, .f32 p4, .f32 p5]] => .leaf (.bool (m39_0 o p0 p1 p2 p3 p4 p5))
  | _, _ => .fail
theorem ok39 (N : Nat) (hN : 4096 ≤ N) : CalOk Try.prog 39 (.ro (e39 ieee)) := by
  refine calOk_ro (cok39 N hN) (is39 N) ?_
  intro args h av hg
  unfold e39 at hg
  split at hg
  · cases hg
    exact ⟨rfl, _, (eq39 ieee N _ _ _ _ _ _).trans (val39 ieee _ _ _ _ _ _)⟩
  · cases hg

/-! loop.example/g01224/spec.SameParcel -/
noncomputable def f12 (o : FO) (p0 : o.S) (p1 : o.S) (p2 : o.S) (p3 : o.S) (p4 : o.S) (p5 : o.S) : R o :=
  bif m38_0 o p0 p3 then
    bif m39_0 o p0 p1 p2 p3 p4 p5 then
      some (.bool true, [])
    else
      some (.bool false, [])
  else
    some (.bool false, [])
noncomputable def c12 (o : FO) (N : Nat) : Cx o :=
  { ty := tab [(22, ty22 o), (28, ty28 o), (30, ty30 o)]
    fn := tab [(38, .pure (e38 o)), (39, .ro (e39 o))]
    rounds := N, nt := 15, base := 0
    loops := [] }
noncomputable def b12 : Code := match Try.f12.body with | some b => b | none => .skip
theorem is12 (N : Nat) : FnIs Try.prog (c12 ieee N) 12 Try.f12 b12 := ⟨by kernel_rfl, by kernel_rfl, by kernel_rfl, by kernel_rfl⟩
theorem eq12 (o : FO) (N : Nat) (p0 : o.S) (p1 : o.S) (p2 : o.S) (p3 : o.S) (p4 : o.S) (p5 : o.S) : afun (c12 o N) Try.f12.results.toList b12 [.agg [.f32 p0, .f32 p1, .f32 p2], .agg [.f32 p3, .f32 p4, .f32 p5]] [] = f12 o p0 p1 p2 p3 p4 p5 := by kernel_rfl
theorem cok12 (N : Nat) (hN : 4096 ≤ N) : CtxOk Try.prog (c12 ieee N) := by
  refine ctxOk ?_ ?_ mixed ?_
  · intro p hp
    simp only [List.mem_cons, List.not_mem_nil, or_false] at hp
    rcases hp with rfl | rfl | rfl
    · exact tyOk22
    · exact tyOk28
    · exact tyOk30
  · intro p hp
    simp only [List.mem_cons, List.not_mem_nil, or_false] at hp
    rcases hp with rfl | rfl
    · exact ok38 N hN
    · exact ok39 N hN
  · intro p hp; cases hp
noncomputable def m12_0 (o : FO) (p0 : o.S) (p1 : o.S) (p2 : o.S) (p3 : o.S) (p4 : o.S) (p5 : o.S) : Bool :=
  bif m38_0 o p0 p3 then
    bif m39_0 o p0 p1 p2 p3 p4 p5 then
      true
    else
      false
  else
    false
theorem val12 (o : FO) (p0 : o.S) (p1 : o.S) (p2 : o.S) (p3 : o.S) (p4 : o.S) (p5 : o.S) : f12 o p0 p1 p2 p3 p4 p5 = some (.bool (m12_0 o p0 p1 p2 p3 p4 p5), []) := by
  unfold f12 m12_0
  try dsimp only
  cases (m38_0 o p0 p3)
  · rfl
  · cases (m39_0 o p0 p1 p2 p3 p4 p5)
    · rfl
    · rfl

noncomputable def e12 (o : FO) : List (AV o) → Tr (AV o)
  | [.agg [.f32 p0, .f32 p1, .f32 p2], .agg [.f32 p3, .f32 p4, .f32 p5]] => .leaf (.bool (m12_0 o p0 p1 p2 p3 p4 p5))
  | _ => .fail
theorem ok12 (N : Nat) (hN : 4096 ≤ N) : CalOk Try.prog 12 (.pure (e12 ieee)) := by
  refine calOk_pure (cok12 N hN) (is12 N) ?_
  intro args av hg
  unfold e12 at hg
  split at hg
  · cases hg
    exact ⟨rfl, rfl, _, (eq12 ieee N _ _ _ _ _ _).trans (val12 ieee _ _ _ _ _ _)⟩
  · cases hg

/-! loop.example/g01224/impl.SameNumber -/
noncomputable def f40 (o : FO) (p0 : o.S) (p1 : o.S) : R o :=
  let v1 : Bool := !(o.seq p0 p0)
  bif v1 then
    bif v1 then
      bif !(o.seq p1 p1) then
        some (.bool true, [])
      else
        some (.bool false, [])
    else
      some (.bool false, [])
  else
    let v2 : Bool := !(o.seq p1 p1)
    bif v2 then
      bif v1 then
        bif v2 then
          some (.bool true, [])
        else
          some (.bool false, [])
      else
        some (.bool false, [])
    else
      gd (o.seq p0 p0) (
      gd (o.seq p1 p1) (
      some (.bool ((o.sbits p0) == (o.sbits p1)), [])))
noncomputable def c40 (o : FO) (N : Nat) : Cx o :=
  { ty := tab []
    fn := tab [(68, .pure (e68 o))]
    rounds := N, nt := 26, base := 0
    loops := [] }
noncomputable def b40 : Code := match Try.f40.body with | some b => b | none => .skip
theorem is40 (N : Nat) : FnIs Try.prog (c40 ieee N) 40 Try.f40 b40 := ⟨by kernel_rfl, by kernel_rfl, by kernel_rfl, by kernel_rfl⟩
theorem eq40 (o : FO) (N : Nat) (p0 : o.S) (p1 : o.S) : afun (c40 o N) Try.f40.results.toList b40 [.f32 p0, .f32 p1] [] = f40 o p0 p1 := by kernel_rfl
theorem cok40 (N : Nat) (hN : 4096 ≤ N) : CtxOk Try.prog (c40 ieee N) := by
  refine ctxOk ?_ ?_ mixed ?_
  · intro p hp; cases hp
  · intro p hp
    simp only [List.mem_cons, List.not_mem_nil, or_false] at hp
    subst hp; exact ok68 N hN
  · intro p hp; cases hp
noncomputable def m40_0 (o : FO) (p0 : o.S) (p1 : o.S) : Bool :=
  bif !(o.seq p0 p0) then
    bif !(o.seq p1 p1) then
      true
    else
      false
  else
    bif !(o.seq p1 p1) then
      false
    else
      (o.sbits p0) == (o.sbits p1)
theorem val40 (o : FO) (p0 : o.S) (p1 : o.S) : f40 o p0 p1 = some (.bool (m40_0 o p0 p1), []) := by
  unfold f40 m40_0
  try dsimp only
  cases (o.seq p0 p0)
  · cases (o.seq p1 p1)
    · rfl
    · rfl
  · cases (o.seq p1 p1)
    · rfl
    · rfl

noncomputable def e40 (o : FO) : List (AV o) → Tr (AV o)
  | [.f32 p0, .f32 p1] => .leaf (.bool (m40_0 o p0 p1))
  | _ => .fail
theorem ok40 (N : Nat) (hN : 4096 ≤ N) : CalOk Try.prog 40 (.pure (e40 ieee)) := by
  refine calOk_pure (cok40 N hN) (is40 N) ?_
  intro args av hg
  unfold e40 at hg
  split at hg
  · cases hg
    exact ⟨rfl, rfl, _, (eq40 ieee N _ _).trans (val40 ieee _ _)⟩
  · cases hg

/-! loop.example/g01224/impl.SameAir -/
noncomputable def f41 (o : FO) (p0 : o.S) (p1 : o.S) (p2 : o.S) (p3 : o.S) : R o :=
  bif m40_0 o p0 p2 then
    bif m40_0 o p1 p3 then
      some (.bool true, [])
    else
      some (.bool false, [])
  else
    some (.bool false, [])
noncomputable def c41 (o : FO) (N : Nat) : Cx o :=
  { ty := tab [(22, ty22 o), (28, ty28 o)]
    fn := tab [(40, .pure (e40 o))]
    rounds := N, nt := 17, base := 0
    loops := [] }
noncomputable def b41 : Code := match Try.f41.body with | some b => b | none => .skip
theorem is41 (N : Nat) : FnIs Try.prog (c41 ieee N) 41 Try.f41 b41 := ⟨by kernel_rfl, by kernel_rfl, by kernel_rfl, by kernel_rfl⟩
theorem eq41 (o : FO) (N : Nat) (p0 : o.S) (p1 : o.S) (p2 : o.S) (p3 : o.S) : afun (c41 o N) Try.f41.results.toList b41 [.agg [.f32 p0, .f32 p1], .agg [.f32 p2, .f32 p3]] [] = f41 o p0 p1 p2 p3 := by kernel_rfl
theorem cok41 (N : Nat) (hN : 4096 ≤ N) : CtxOk Try.prog (c41 ieee N) := by
  refine ctxOk ?_ ?_ mixed ?_
  · intro p hp
    simp only [List.mem_cons, List.not_mem_nil, or_false] at hp
    rcases hp with rfl | rfl
    · exact tyOk22
    · exact tyOk28
  · intro p hp
    simp only [List.mem_cons, List.not_mem_nil, or_false] at hp
    subst hp; exact ok40 N hN
  · intro p hp; cases hp
noncomputable def m41_0 (o : FO) (p0 : o.S) (p1 : o.S) (p2 : o.S) (p3 : o.S) : Bool :=
  bif m40_0 o p0 p2 then
    bif m40_0 o p1 p3 then
      true
    else
      false
  else
    false
theorem val41 (o : FO) (p0 : o.S) (p1 : o.S) (p2 : o.S) (p3 : o.S) : f41 o p0 p1 p2 p3 = some (.bool (m41_0 o p0 p1 p2 p3), []) := by
  unfold f41 m41_0
  try dsimp only
  cases (m40_0 o p0 p2)
  · rfl
  · cases (m40_0 o p1 p3)
    · rfl
    · rfl

noncomputable def e41 (o : FO) : List (AV o) → Tr (AV o)
  | [.agg [.f32 p0, .f32 p1], .agg [.f32 p2, .f32 p3]] => .leaf (.bool (m41_0 o p0 p1 p2 p3))
  | _ => .fail
theorem ok41 (N : Nat) (hN : 4096 ≤ N) : CalOk Try.prog 41 (.pure (e41 ieee)) := by
  refine calOk_pure (cok41 N hN) (is41 N) ?_
  intro args av hg
  unfold e41 at hg
  split at hg
  · cases hg
    exact ⟨rfl, rfl, _, (eq41 ieee N _ _ _ _).trans (val41 ieee _ _ _ _)⟩
  · cases hg

/-! loop.example/g01224/impl.SameParcel -/
noncomputable def f14 (o : FO) (p0 : o.S) (p1 : o.S) (p2 : o.S) (p3 : o.S) (p4 : o.S) (p5 : o.S) : R o :=
  bif m40_0 o p0 p3 then
    bif m41_0 o p1 p2 p4 p5 then
      some (.bool true, [])
    else
      some (.bool false, [])
  else
    some (.bool false, [])
noncomputable def c14 (o : FO) (N : Nat) : Cx o :=
  { ty := tab [(22, ty22 o), (28, ty28 o), (30, ty30 o)]
    fn := tab [(40, .pure (e40 o)), (41, .pure (e41 o))]
    rounds := N, nt := 17, base := 0
    loops := [] }
noncomputable def b14 : Code := match Try.f14.body with | some b => b | none => .skip
theorem is14 (N : Nat) : FnIs Try.prog (c14 ieee N) 14 Try.f14 b14 := ⟨by kernel_rfl, by kernel_rfl, by kernel_rfl, by kernel_rfl⟩
theorem eq14 (o : FO) (N : Nat) (p0 : o.S) (p1 : o.S) (p2 : o.S) (p3 : o.S) (p4 : o.S) (p5 : o.S) : afun (c14 o N) Try.f14.results.toList b14 [.agg [.f32 p0, .f32 p1, .f32 p2], .agg [.f32 p3, .f32 p4, .f32 p5]] [] = f14 o p0 p1 p2 p3 p4 p5 := by kernel_rfl
theorem cok14 (N : Nat) (hN : 4096 ≤ N) : CtxOk Try.prog (c14 ieee N) := by
  refine ctxOk ?_ ?_ mixed ?_
  · intro p hp
    simp only [List.mem_cons, List.not_mem_nil, or_false] at hp
    rcases hp with rfl | rfl | rfl
    · exact tyOk22
    · exact tyOk28
    · exact tyOk30
  · intro p hp
    simp only [List.mem_cons, List.not_mem_nil, or_false] at hp
    rcases hp with rfl | rfl
    · exact ok40 N hN
    · exact ok41 N hN
  · intro p hp; cases hp
noncomputable def m14_0 (o : FO) (p0 : o.S) (p1 : o.S) (p2 : o.S) (p3 : o.S) (p4 : o.S) (p5 : o.S) : Bool :=
  bif m40_0 o p0 p3 then
    bif m41_0 o p1 p2 p4 p5 then
      true
    else
      false
  else
    false
theorem val14 (o : FO) (p0 : o.S) (p1 : o.S) (p2 : o.S) (p3 : o.S) (p4 : o.S) (p5 : o.S) : f14 o p0 p1 p2 p3 p4 p5 = some (.bool (m14_0 o p0 p1 p2 p3 p4 p5), []) := by
  unfold f14 m14_0
  try dsimp only
  cases (m40_0 o p0 p3)
  · rfl
  · cases (m41_0 o p1 p2 p4 p5)
    · rfl
    · rfl

noncomputable def e14 (o : FO) : List (AV o) → Tr (AV o)
  | [.agg [.f32 p0, .f32 p1, .f32 p2], .agg [.f32 p3, .f32 p4, .f32 p5]] => .leaf (.bool (m14_0 o p0 p1 p2 p3 p4 p5))
  | _ => .fail
theorem ok14 (N : Nat) (hN : 4096 ≤ N) : CalOk Try.prog 14 (.pure (e14 ieee)) := by
  refine calOk_pure (cok14 N hN) (is14 N) ?_
  intro args av hg
  unfold e14 at hg
  split at hg
  · cases hg
    exact ⟨rfl, rfl, _, (eq14 ieee N _ _ _ _ _ _).trans (val14 ieee _ _ _ _ _ _)⟩
  · cases hg

/-! loop.example/g01224/laws.FnExactSameParcel -/
noncomputable def f3 (o : FO) (p0 : o.S) (p1 : o.S) (p2 : o.S) (p3 : o.S) (p4 : o.S) (p5 : o.S) : R o :=
  bif !((m14_0 o p0 p1 p2 p3 p4 p5) == (m12_0 o p0 p1 p2 p3 p4 p5)) then
    some (.bool false, [])
  else
    some (.bool true, [])
noncomputable def c3 (o : FO) (N : Nat) : Cx o :=
  { ty := tab [(4, ty4 o), (26, ty26 o)]
    fn := tab [(12, .pure (e12 o)), (13, .pure (e13 o)), (14, .pure (e14 o))]
    rounds := N, nt := 20, base := 0
    loops := [] }
noncomputable def b3 : Code := match Try.f3.body with | some b => b | none => .skip
theorem is3 (N : Nat) : FnIs Try.prog (c3 ieee N) 3 Try.f3 b3 := ⟨by kernel_rfl, by kernel_rfl, by kernel_rfl, by kernel_rfl⟩
theorem eq3 (o : FO) (N : Nat) (p0 : o.S) (p1 : o.S) (p2 : o.S) (p3 : o.S) (p4 : o.S) (p5 : o.S) : afun (c3 o N) Try.f3.results.toList b3 [.agg [.f32 p0, .f32 p1, .f32 p2], .agg [.f32 p3, .f32 p4, .f32 p5]] [] = f3 o p0 p1 p2 p3 p4 p5 := by kernel_rfl
theorem cok3 (N : Nat) (hN : 4096 ≤ N) : CtxOk Try.prog (c3 ieee N) := by
  refine ctxOk ?_ ?_ mixed ?_
  · intro p hp
    simp only [List.mem_cons, List.not_mem_nil, or_false] at hp
    rcases hp with rfl | rfl
    · exact tyOk4
    · exact tyOk26
  · intro p hp
    simp only [List.mem_cons, List.not_mem_nil, or_false] at hp
    rcases hp with rfl | rfl | rfl
    · exact ok12 N hN
    · exact ok13 N hN
    · exact ok14 N hN
  · intro p hp; cases hp
noncomputable def m3_0 (o : FO) (p0 : o.S) (p1 : o.S) (p2 : o.S) (p3 : o.S) (p4 : o.S) (p5 : o.S) : Bool :=
  bif !((m14_0 o p0 p1 p2 p3 p4 p5) == (m12_0 o p0 p1 p2 p3 p4 p5)) then
    false
  else
    true
theorem val3 (o : FO) (p0 : o.S) (p1 : o.S) (p2 : o.S) (p3 : o.S) (p4 : o.S) (p5 : o.S) : f3 o p0 p1 p2 p3 p4 p5 = some (.bool (m3_0 o p0 p1 p2 p3 p4 p5), []) := by
  unfold f3 m3_0
  try dsimp only
  cases (!((m14_0 o p0 p1 p2 p3 p4 p5) == (m12_0 o p0 p1 p2 p3 p4 p5)))
  · rfl
  · rfl

noncomputable def e3 (o : FO) : List (AV o) → Tr (AV o)
  | [.agg [.f32 p0, .f32 p1, .f32 p2], .agg [.f32 p3, .f32 p4, .f32 p5]] => .leaf (.bool (m3_0 o p0 p1 p2 p3 p4 p5))
  | _ => .fail
theorem ok3 (N : Nat) (hN : 4096 ≤ N) : CalOk Try.prog 3 (.pure (e3 ieee)) := by
  refine calOk_pure (cok3 N hN) (is3 N) ?_
  intro args av hg
  unfold e3 at hg
  split at hg
  · cases hg
    exact ⟨rfl, rfl, _, (eq3 ieee N _ _ _ _ _ _).trans (val3 ieee _ _ _ _ _ _)⟩
  · cases hg

/-! loop.example/g01224/spec.l01Finite -/
noncomputable def f81 (o : FO) (p0 : o.S) : R o :=
  some (.bool (o.seq (o.ssub p0 p0) (o.slit 0)), [])
noncomputable def c81 (o : FO) (N : Nat) : Cx o :=
  { ty := tab []
    fn := tab []
    rounds := N, nt := 7, base := 0
    loops := [] }
noncomputable def b81 : Code := match Try.f81.body with | some b => b | none => .skip
theorem is81 (N : Nat) : FnIs Try.prog (c81 ieee N) 81 Try.f81 b81 := ⟨by kernel_rfl, by kernel_rfl, by kernel_rfl, by kernel_rfl⟩
theorem eq81 (o : FO) (N : Nat) (p0 : o.S) : afun (c81 o N) Try.f81.results.toList b81 [.f32 p0] [] = f81 o p0 := by kernel_rfl
theorem cok81 (N : Nat) (hN : 4096 ≤ N) : CtxOk Try.prog (c81 ieee N) := by
  refine ctxOk ?_ ?_ mixed ?_
  · intro p hp; cases hp
  · intro p hp; cases hp
  · intro p hp; cases hp
noncomputable def m81_0 (o : FO) (p0 : o.S) : Bool :=
  o.seq (o.ssub p0 p0) (o.slit 0)
theorem val81 (o : FO) (p0 : o.S) : f81 o p0 = some (.bool (m81_0 o p0), []) := by
  unfold f81 m81_0
  rfl

noncomputable def e81 (o : FO) : List (AV o) → Tr (AV o)
  | [.f32 p0] => .leaf (.bool (m81_0 o p0))
  | _ => .fail
theorem ok81 (N : Nat) (hN : 4096 ≤ N) : CalOk Try.prog 81 (.pure (e81 ieee)) := by
  refine calOk_pure (cok81 N hN) (is81 N) ?_
  intro args av hg
  unfold e81 at hg
  split at hg
  · cases hg
    exact ⟨rfl, rfl, _, (eq81 ieee N _).trans (val81 ieee _)⟩
  · cases hg

/-! loop.example/g01224/spec.l01Amount -/
noncomputable def f71 (o : FO) (p0 : o.S) : R o :=
  bif m81_0 o p0 then
    bif o.slt (o.slit 0) p0 then
      some (.bool true, [])
    else
      gd (o.seq p0 p0) (
      bif (o.sbits p0) == (0 : Int) then
        some (.bool true, [])
      else
        some (.bool false, []))
  else
    some (.bool false, [])
noncomputable def c71 (o : FO) (N : Nat) : Cx o :=
  { ty := tab []
    fn := tab [(68, .pure (e68 o)), (81, .pure (e81 o))]
    rounds := N, nt := 14, base := 0
    loops := [] }
noncomputable def b71 : Code := match Try.f71.body with | some b => b | none => .skip
theorem is71 (N : Nat) : FnIs Try.prog (c71 ieee N) 71 Try.f71 b71 := ⟨by kernel_rfl, by kernel_rfl, by kernel_rfl, by kernel_rfl⟩
theorem eq71 (o : FO) (N : Nat) (p0 : o.S) : afun (c71 o N) Try.f71.results.toList b71 [.f32 p0] [] = f71 o p0 := by kernel_rfl
theorem cok71 (N : Nat) (hN : 4096 ≤ N) : CtxOk Try.prog (c71 ieee N) := by
  refine ctxOk ?_ ?_ mixed ?_
  · intro p hp; cases hp
  · intro p hp
    simp only [List.mem_cons, List.not_mem_nil, or_false] at hp
    rcases hp with rfl | rfl
    · exact ok68 N hN
    · exact ok81 N hN
  · intro p hp; cases hp
noncomputable def m71_ok (o : FO) (p0 : o.S) : Bool :=
  bif m81_0 o p0 then
    bif o.slt (o.slit 0) p0 then
      true
    else
      bif o.seq p0 p0 then
        bif (o.sbits p0) == (0 : Int) then
          true
        else
          true
      else
        false
  else
    true
noncomputable def m71_0 (o : FO) (p0 : o.S) : Bool :=
  bif m81_0 o p0 then
    bif o.slt (o.slit 0) p0 then
      true
    else
      bif (o.sbits p0) == (0 : Int) then
        true
      else
        false
  else
    false
theorem val71 (o : FO) (p0 : o.S) (h : m71_ok o p0 = true) : f71 o p0 = some (.bool (m71_0 o p0), []) := by
  revert h
  unfold m71_ok f71 m71_0
  try dsimp only
  cases (m81_0 o p0)
  · intro _; rfl
  · cases (o.slt (o.slit 0) p0)
    · cases (o.seq p0 p0)
      · intro h; exact absurd h Bool.false_ne_true
      · cases ((o.sbits p0) == (0 : Int))
        · intro _; rfl
        · intro _; rfl
    · intro _; rfl

noncomputable def e71 (o : FO) : List (AV o) → Tr (AV o)
  | [.f32 p0] => .br (m71_ok o p0) (.leaf (.bool (m71_0 o p0))) .fail
  | _ => .fail
theorem ok71 (N : Nat) (hN : 4096 ≤ N) : CalOk Try.prog 71 (.pure (e71 ieee)) := by
  refine calOk_pure (cok71 N hN) (is71 N) ?_
  intro args av hg
  unfold e71 at hg
  split at hg
  · obtain ⟨h0, hg⟩ := br_get hg
    cases hg
    exact ⟨rfl, rfl, _, (eq71 ieee N _).trans (val71 ieee _ h0)⟩
  · cases hg

/-! loop.example/g01224/spec.l04Height -/
noncomputable def f45 (o : FO) (p0 : o.S) : R o :=
  gd (m71_ok o p0) (
  bif m71_0 o p0 then
    bif o.sle p0 (o.slit 1106247680) then
      some (.bool true, [])
    else
      some (.bool false, [])
  else
    some (.bool false, []))
noncomputable def c45 (o : FO) (N : Nat) : Cx o :=
  { ty := tab []
    fn := tab [(71, .pure (e71 o))]
    rounds := N, nt := 9, base := 0
    loops := [] }
noncomputable def b45 : Code := match Try.f45.body with | some b => b | none => .skip
theorem is45 (N : Nat) : FnIs Try.prog (c45 ieee N) 45 Try.f45 b45 := ⟨by kernel_rfl, by kernel_rfl, by kernel_rfl, by kernel_rfl⟩
theorem eq45 (o : FO) (N : Nat) (p0 : o.S) : afun (c45 o N) Try.f45.results.toList b45 [.f32 p0] [] = f45 o p0 := by kernel_rfl
theorem cok45 (N : Nat) (hN : 4096 ≤ N) : CtxOk Try.prog (c45 ieee N) := by
  refine ctxOk ?_ ?_ mixed ?_
  · intro p hp; cases hp
  · intro p hp
    simp only [List.mem_cons, List.not_mem_nil, or_false] at hp
    subst hp; exact ok71 N hN
  · intro p hp; cases hp
noncomputable def m45_ok (o : FO) (p0 : o.S) : Bool :=
  bif m71_ok o p0 then
    bif m71_0 o p0 then
      bif o.sle p0 (o.slit 1106247680) then
        true
      else
        true
    else
      true
  else
    false
noncomputable def m45_0 (o : FO) (p0 : o.S) : Bool :=
  bif m71_0 o p0 then
    bif o.sle p0 (o.slit 1106247680) then
      true
    else
      false
  else
    false
theorem val45 (o : FO) (p0 : o.S) (h : m45_ok o p0 = true) : f45 o p0 = some (.bool (m45_0 o p0), []) := by
  revert h
  unfold m45_ok f45 m45_0
  try dsimp only
  cases (m71_ok o p0)
  · intro h; exact absurd h Bool.false_ne_true
  · cases (m71_0 o p0)
    · intro _; rfl
    · cases (o.sle p0 (o.slit 1106247680))
      · intro _; rfl
      · intro _; rfl

noncomputable def e45 (o : FO) : List (AV o) → Tr (AV o)
  | [.f32 p0] => .br (m45_ok o p0) (.leaf (.bool (m45_0 o p0))) .fail
  | _ => .fail
theorem ok45 (N : Nat) (hN : 4096 ≤ N) : CalOk Try.prog 45 (.pure (e45 ieee)) := by
  refine calOk_pure (cok45 N hN) (is45 N) ?_
  intro args av hg
  unfold e45 at hg
  split at hg
  · obtain ⟨h0, hg⟩ := br_get hg
    cases hg
    exact ⟨rfl, rfl, _, (eq45 ieee N _).trans (val45 ieee _ h0)⟩
  · cases hg

/-! loop.example/g01224/spec.l02Heat -/
noncomputable def f74 (o : FO) (p0 : o.S) : R o :=
  bif o.sle (o.slit 3262119936) p0 then
    bif o.sle p0 (o.slit 1114636288) then
      some (.bool true, [])
    else
      some (.bool false, [])
  else
    some (.bool false, [])
noncomputable def c74 (o : FO) (N : Nat) : Cx o :=
  { ty := tab []
    fn := tab []
    rounds := N, nt := 9, base := 0
    loops := [] }
noncomputable def b74 : Code := match Try.f74.body with | some b => b | none => .skip
theorem is74 (N : Nat) : FnIs Try.prog (c74 ieee N) 74 Try.f74 b74 := ⟨by kernel_rfl, by kernel_rfl, by kernel_rfl, by kernel_rfl⟩
theorem eq74 (o : FO) (N : Nat) (p0 : o.S) : afun (c74 o N) Try.f74.results.toList b74 [.f32 p0] [] = f74 o p0 := by kernel_rfl
theorem cok74 (N : Nat) (hN : 4096 ≤ N) : CtxOk Try.prog (c74 ieee N) := by
  refine ctxOk ?_ ?_ mixed ?_
  · intro p hp; cases hp
  · intro p hp; cases hp
  · intro p hp; cases hp
noncomputable def m74_0 (o : FO) (p0 : o.S) : Bool :=
  bif o.sle (o.slit 3262119936) p0 then
    bif o.sle p0 (o.slit 1114636288) then
      true
    else
      false
  else
    false
theorem val74 (o : FO) (p0 : o.S) : f74 o p0 = some (.bool (m74_0 o p0), []) := by
  unfold f74 m74_0
  try dsimp only
  cases (o.sle (o.slit 3262119936) p0)
  · rfl
  · cases (o.sle p0 (o.slit 1114636288))
    · rfl
    · rfl

noncomputable def e74 (o : FO) : List (AV o) → Tr (AV o)
  | [.f32 p0] => .leaf (.bool (m74_0 o p0))
  | _ => .fail
theorem ok74 (N : Nat) (hN : 4096 ≤ N) : CalOk Try.prog 74 (.pure (e74 ieee)) := by
  refine calOk_pure (cok74 N hN) (is74 N) ?_
  intro args av hg
  unfold e74 at hg
  split at hg
  · cases hg
    exact ⟨rfl, rfl, _, (eq74 ieee N _).trans (val74 ieee _)⟩
  · cases hg

/-! loop.example/g01224/spec.l02Ok -/
noncomputable def f52 (o : FO) (p0 : o.S) (p1 : o.S) (p2 : o.S) : R o :=
  bif m74_0 o p1 then
    gd (m71_ok o p2) (
    bif m71_0 o p2 then
      bif o.sle p2 (o.slit 1148846080) then
        some (.bool true, [.live false true [.f32 p0, .f32 p1, .f32 p2]])
      else
        some (.bool false, [.live false true [.f32 p0, .f32 p1, .f32 p2]])
    else
      some (.bool false, [.live false true [.f32 p0, .f32 p1, .f32 p2]]))
  else
    some (.bool false, [.live false true [.f32 p0, .f32 p1, .f32 p2]])
noncomputable def c52 (o : FO) (N : Nat) : Cx o :=
  { ty := tab [(22, ty22 o), (28, ty28 o)]
    fn := tab [(71, .pure (e71 o)), (74, .pure (e74 o))]
    rounds := N, nt := 22, base := 1
    loops := [] }
noncomputable def b52 : Code := match Try.f52.body with | some b => b | none => .skip
theorem is52 (N : Nat) : FnIs Try.prog (c52 ieee N) 52 Try.f52 b52 := ⟨by kernel_rfl, by kernel_rfl, by kernel_rfl, by kernel_rfl⟩
theorem eq52 (o : FO) (N : Nat) (p0 : o.S) (p1 : o.S) (p2 : o.S) : afun (c52 o N) Try.f52.results.toList b52 [.ptr 0 1] [.live false true [.f32 p0, .f32 p1, .f32 p2]] = f52 o p0 p1 p2 := by kernel_rfl
theorem cok52 (N : Nat) (hN : 4096 ≤ N) : CtxOk Try.prog (c52 ieee N) := by
  refine ctxOk ?_ ?_ mixed ?_
  · intro p hp
    simp only [List.mem_cons, List.not_mem_nil, or_false] at hp
    rcases hp with rfl | rfl
    · exact tyOk22
    · exact tyOk28
  · intro p hp
    simp only [List.mem_cons, List.not_mem_nil, or_false] at hp
    rcases hp with rfl | rfl
    · exact ok71 N hN
    · exact ok74 N hN
  · intro p hp; cases hp
noncomputable def m52_ok (o : FO) (p0 : o.S) (p1 : o.S) (p2 : o.S) : Bool :=
  bif m74_0 o p1 then
    bif m71_ok o p2 then
      bif m71_0 o p2 then
        bif o.sle p2 (o.slit 1148846080) then
          true
        else
          true
      else
        true
    else
      false
  else
    true
noncomputable def m52_0 (o : FO) (p0 : o.S) (p1 : o.S) (p2 : o.S) : Bool :=
  bif m74_0 o p1 then
    bif m71_0 o p2 then
      bif o.sle p2 (o.slit 1148846080) then
        true
      else
        false
    else
      false
  else
    false
theorem val52 (o : FO) (p0 : o.S) (p1 : o.S) (p2 : o.S) (h : m52_ok o p0 p1 p2 = true) : f52 o p0 p1 p2 = some (.bool (m52_0 o p0 p1 p2), [.live false true [.f32 p0, .f32 p1, .f32 p2]]) := by
  revert h
  unfold m52_ok f52 m52_0
  try dsimp only
  cases (m74_0 o p1)
  · intro _; rfl
  · cases (m71_ok o p2)
    · intro h; exact absurd h Bool.false_ne_true
    · cases (m71_0 o p2)
      · intro _; rfl
      · cases (o.sle p2 (o.slit 1148846080))
        · intro _; rfl
        · intro _; rfl

noncomputable def e52 (o : FO) : List (AV o) → Heap o → Tr (AV o)
  | [.ptr 0 1], [.live _ true [.f32 p0, .f32 p1, .f32 p2]] => .br (m52_ok o p0 p1 p2) (.leaf (.bool (m52_0 o p0 p1 p2))) .fail
  | _, _ => .fail
theorem ok52 (N : Nat) (hN : 4096 ≤ N) : CalOk Try.prog 52 (.ro (e52 ieee)) := by
  refine calOk_ro (cok52 N hN) (is52 N) ?_
  intro args h av hg
  unfold e52 at hg
  split at hg
  · obtain ⟨h0, hg⟩ := br_get hg
    cases hg
    exact ⟨rfl, _, (eq52 ieee N _ _ _).trans (val52 ieee _ _ _ h0)⟩
  · cases hg

/-! loop.example/g01224/spec.l04Ok -/
noncomputable def f42 (o : FO) (p0 : o.S) (p1 : o.S) (p2 : o.S) : R o :=
  gd (m45_ok o p0) (
  bif m45_0 o p0 then
    gd (m52_ok o p0 p1 p2) (
    bif m52_0 o p0 p1 p2 then
      some (.bool true, [.live false true [.f32 p0, .f32 p1, .f32 p2]])
    else
      some (.bool false, [.live false true [.f32 p0, .f32 p1, .f32 p2]]))
  else
    some (.bool false, [.live false true [.f32 p0, .f32 p1, .f32 p2]]))
noncomputable def c42 (o : FO) (N : Nat) : Cx o :=
  { ty := tab [(22, ty22 o), (28, ty28 o), (30, ty30 o)]
    fn := tab [(45, .pure (e45 o)), (52, .ro (e52 o))]
    rounds := N, nt := 14, base := 1
    loops := [] }
noncomputable def b42 : Code := match Try.f42.body with | some b => b | none => .skip
theorem is42 (N : Nat) : FnIs Try.prog (c42 ieee N) 42 Try.f42 b42 := ⟨by kernel_rfl, by kernel_rfl, by kernel_rfl, by kernel_rfl⟩
theorem eq42 (o : FO) (N : Nat) (p0 : o.S) (p1 : o.S) (p2 : o.S) : afun (c42 o N) Try.f42.results.toList b42 [.ptr 0 0] [.live false true [.f32 p0, .f32 p1, .f32 p2]] = f42 o p0 p1 p2 := by kernel_rfl
theorem cok42 (N : Nat) (hN : 4096 ≤ N) : CtxOk Try.prog (c42 ieee N) := by
  refine ctxOk ?_ ?_ mixed ?_
  · intro p hp
    simp only [List.mem_cons, List.not_mem_nil, or_false] at hp
    rcases hp with rfl | rfl | rfl
    · exact tyOk22
    · exact tyOk28
    · exact tyOk30
  · intro p hp
    simp only [List.mem_cons, List.not_mem_nil, or_false] at hp
    rcases hp with rfl | rfl
    · exact ok45 N hN
    · exact ok52 N hN
  · intro p hp; cases hp
noncomputable def m42_ok (o : FO) (p0 : o.S) (p1 : o.S) (p2 : o.S) : Bool :=
  bif m45_ok o p0 then
    bif m45_0 o p0 then
      bif m52_ok o p0 p1 p2 then
        bif m52_0 o p0 p1 p2 then
          true
        else
          true
      else
        false
    else
      true
  else
    false
noncomputable def m42_0 (o : FO) (p0 : o.S) (p1 : o.S) (p2 : o.S) : Bool :=
  bif m45_0 o p0 then
    bif m52_0 o p0 p1 p2 then
      true
    else
      false
  else
    false
theorem val42 (o : FO) (p0 : o.S) (p1 : o.S) (p2 : o.S) (h : m42_ok o p0 p1 p2 = true) : f42 o p0 p1 p2 = some (.bool (m42_0 o p0 p1 p2), [.live false true [.f32 p0, .f32 p1, .f32 p2]]) := by
  revert h
  unfold m42_ok f42 m42_0
  try dsimp only
  cases (m45_ok o p0)
  · intro h; exact absurd h Bool.false_ne_true
  · cases (m45_0 o p0)
    · intro _; rfl
    · cases (m52_ok o p0 p1 p2)
      · intro h; exact absurd h Bool.false_ne_true
      · cases (m52_0 o p0 p1 p2)
        · intro _; rfl
        · intro _; rfl

noncomputable def e42 (o : FO) : List (AV o) → Heap o → Tr (AV o)
  | [.ptr 0 0], [.live _ true [.f32 p0, .f32 p1, .f32 p2]] => .br (m42_ok o p0 p1 p2) (.leaf (.bool (m42_0 o p0 p1 p2))) .fail
  | _, _ => .fail
theorem ok42 (N : Nat) (hN : 4096 ≤ N) : CalOk Try.prog 42 (.ro (e42 ieee)) := by
  refine calOk_ro (cok42 N hN) (is42 N) ?_
  intro args h av hg
  unfold e42 at hg
  split at hg
  · obtain ⟨h0, hg⟩ := br_get hg
    cases hg
    exact ⟨rfl, _, (eq42 ieee N _ _ _).trans (val42 ieee _ _ _ h0)⟩
  · cases hg

/-! loop.example/g01224/spec.ValidParcel -/
noncomputable def f15 (o : FO) (p0 : o.S) (p1 : o.S) (p2 : o.S) : R o :=
  gd (m42_ok o p0 p1 p2) (
  some (.bool (m42_0 o p0 p1 p2), []))
noncomputable def c15 (o : FO) (N : Nat) : Cx o :=
  { ty := tab [(30, ty30 o)]
    fn := tab [(42, .ro (e42 o))]
    rounds := N, nt := 4, base := 0
    loops := [] }
noncomputable def b15 : Code := match Try.f15.body with | some b => b | none => .skip
theorem is15 (N : Nat) : FnIs Try.prog (c15 ieee N) 15 Try.f15 b15 := ⟨by kernel_rfl, by kernel_rfl, by kernel_rfl, by kernel_rfl⟩
theorem eq15 (o : FO) (N : Nat) (p0 : o.S) (p1 : o.S) (p2 : o.S) : afun (c15 o N) Try.f15.results.toList b15 [.agg [.f32 p0, .f32 p1, .f32 p2]] [] = f15 o p0 p1 p2 := by kernel_rfl
theorem cok15 (N : Nat) (hN : 4096 ≤ N) : CtxOk Try.prog (c15 ieee N) := by
  refine ctxOk ?_ ?_ mixed ?_
  · intro p hp
    simp only [List.mem_cons, List.not_mem_nil, or_false] at hp
    subst hp; exact tyOk30
  · intro p hp
    simp only [List.mem_cons, List.not_mem_nil, or_false] at hp
    subst hp; exact ok42 N hN
  · intro p hp; cases hp
noncomputable def m15_ok (o : FO) (p0 : o.S) (p1 : o.S) (p2 : o.S) : Bool :=
  bif m42_ok o p0 p1 p2 then
    true
  else
    false
noncomputable def m15_0 (o : FO) (p0 : o.S) (p1 : o.S) (p2 : o.S) : Bool :=
  m42_0 o p0 p1 p2
theorem val15 (o : FO) (p0 : o.S) (p1 : o.S) (p2 : o.S) (h : m15_ok o p0 p1 p2 = true) : f15 o p0 p1 p2 = some (.bool (m15_0 o p0 p1 p2), []) := by
  revert h
  unfold m15_ok f15 m15_0
  try dsimp only
  cases (m42_ok o p0 p1 p2)
  · intro h; exact absurd h Bool.false_ne_true
  · intro _; rfl

noncomputable def e15 (o : FO) : List (AV o) → Tr (AV o)
  | [.agg [.f32 p0, .f32 p1, .f32 p2]] => .br (m15_ok o p0 p1 p2) (.leaf (.bool (m15_0 o p0 p1 p2))) .fail
  | _ => .fail
theorem ok15 (N : Nat) (hN : 4096 ≤ N) : CalOk Try.prog 15 (.pure (e15 ieee)) := by
  refine calOk_pure (cok15 N hN) (is15 N) ?_
  intro args av hg
  unfold e15 at hg
  split at hg
  · obtain ⟨h0, hg⟩ := br_get hg
    cases hg
    exact ⟨rfl, rfl, _, (eq15 ieee N _ _ _).trans (val15 ieee _ _ _ h0)⟩
  · cases hg

/-! loop.example/g01224/spec.l04Raise -/
noncomputable def f46 (o : FO) (p0 : o.S) (p1 : o.S) (p2 : o.S) (p3 : o.S) : R o :=
  let v1 : o.S := o.smul (o.slit 1092616192) (o.ssub p3 p0)
  let v2 : o.S := o.ssub p1 v1
  gd (m52_ok o p3 v2 p2) (
  bif !(m52_0 o p3 v2 p2) then
    some (.tup [.agg [.f32 (o.slit 0), .f32 (o.slit 0), .f32 (o.slit 0)], .int .i64 (4 : Int)], [])
  else
    some (.tup [.agg [.f32 p3, .f32 v2, .f32 p2], .int .i64 (0 : Int)], []))
noncomputable def c46 (o : FO) (N : Nat) : Cx o :=
  { ty := tab [(22, ty22 o), (28, ty28 o), (30, ty30 o)]
    fn := tab [(52, .ro (e52 o))]
    rounds := N, nt := 24, base := 0
    loops := [] }
noncomputable def b46 : Code := match Try.f46.body with | some b => b | none => .skip
theorem is46 (N : Nat) : FnIs Try.prog (c46 ieee N) 46 Try.f46 b46 := ⟨by kernel_rfl, by kernel_rfl, by kernel_rfl, by kernel_rfl⟩
theorem eq46 (o : FO) (N : Nat) (p0 : o.S) (p1 : o.S) (p2 : o.S) (p3 : o.S) : afun (c46 o N) Try.f46.results.toList b46 [.agg [.f32 p0, .f32 p1, .f32 p2], .f32 p3] [] = f46 o p0 p1 p2 p3 := by kernel_rfl
theorem cok46 (N : Nat) (hN : 4096 ≤ N) : CtxOk Try.prog (c46 ieee N) := by
  refine ctxOk ?_ ?_ mixed ?_
  · intro p hp
    simp only [List.mem_cons, List.not_mem_nil, or_false] at hp
    rcases hp with rfl | rfl | rfl
    · exact tyOk22
    · exact tyOk28
    · exact tyOk30
  · intro p hp
    simp only [List.mem_cons, List.not_mem_nil, or_false] at hp
    subst hp; exact ok52 N hN
  · intro p hp; cases hp
noncomputable def m46_ok (o : FO) (p0 : o.S) (p1 : o.S) (p2 : o.S) (p3 : o.S) : Bool :=
  let v1 : o.S := o.smul (o.slit 1092616192) (o.ssub p3 p0)
  let v2 : o.S := o.ssub p1 v1
  bif m52_ok o p3 v2 p2 then
    bif !(m52_0 o p3 v2 p2) then
      true
    else
      true
  else
    false
noncomputable def m46_0 (o : FO) (p0 : o.S) (p1 : o.S) (p2 : o.S) (p3 : o.S) : o.S :=
  bif !(m52_0 o p3 (o.ssub p1 (o.smul (o.slit 1092616192) (o.ssub p3 p0))) p2) then
    (o.slit 0)
  else
    p3
noncomputable def m46_1 (o : FO) (p0 : o.S) (p1 : o.S) (p2 : o.S) (p3 : o.S) : o.S :=
  let v1 : o.S := o.smul (o.slit 1092616192) (o.ssub p3 p0)
  let v2 : o.S := o.ssub p1 v1
  bif !(m52_0 o p3 v2 p2) then
    (o.slit 0)
  else
    v2
noncomputable def m46_2 (o : FO) (p0 : o.S) (p1 : o.S) (p2 : o.S) (p3 : o.S) : o.S :=
  bif !(m52_0 o p3 (o.ssub p1 (o.smul (o.slit 1092616192) (o.ssub p3 p0))) p2) then
    (o.slit 0)
  else
    p2
noncomputable def m46_3 (o : FO) (p0 : o.S) (p1 : o.S) (p2 : o.S) (p3 : o.S) : Int :=
  bif !(m52_0 o p3 (o.ssub p1 (o.smul (o.slit 1092616192) (o.ssub p3 p0))) p2) then
    (4 : Int)
  else
    (0 : Int)
theorem val46 (o : FO) (p0 : o.S) (p1 : o.S) (p2 : o.S) (p3 : o.S) (h : m46_ok o p0 p1 p2 p3 = true) : f46 o p0 p1 p2 p3 = some (.tup [.agg [.f32 (m46_0 o p0 p1 p2 p3), .f32 (m46_1 o p0 p1 p2 p3), .f32 (m46_2 o p0 p1 p2 p3)], .int .i64 (m46_3 o p0 p1 p2 p3)], []) := by
  revert h
  unfold m46_ok f46 m46_0 m46_1 m46_2 m46_3
  try dsimp only
  cases (m52_ok o p3 (o.ssub p1 (o.smul (o.slit 1092616192) (o.ssub p3 p0))) p2)
  · intro h; exact absurd h Bool.false_ne_true
  · cases (m52_0 o p3 (o.ssub p1 (o.smul (o.slit 1092616192) (o.ssub p3 p0))) p2)
    · intro _; rfl
    · intro _; rfl

noncomputable def e46 (o : FO) : List (AV o) → Tr (AV o)
  | [.agg [.f32 p0, .f32 p1, .f32 p2], .f32 p3] => .br (m46_ok o p0 p1 p2 p3) (.leaf (.tup [.agg [.f32 (m46_0 o p0 p1 p2 p3), .f32 (m46_1 o p0 p1 p2 p3), .f32 (m46_2 o p0 p1 p2 p3)], .int .i64 (m46_3 o p0 p1 p2 p3)])) .fail
  | _ => .fail
theorem ok46 (N : Nat) (hN : 4096 ≤ N) : CalOk Try.prog 46 (.pure (e46 ieee)) := by
  refine calOk_pure (cok46 N hN) (is46 N) ?_
  intro args av hg
  unfold e46 at hg
  split at hg
  · obtain ⟨h0, hg⟩ := br_get hg
    cases hg
    exact ⟨rfl, rfl, _, (eq46 ieee N _ _ _ _).trans (val46 ieee _ _ _ _ h0)⟩
  · cases hg

/-! loop.example/g01224/spec.RaiseDry -/
noncomputable def f17 (o : FO) (p0 : o.S) (p1 : o.S) (p2 : o.S) (p3 : o.S) : R o :=
  gd (m42_ok o p0 p1 p2) (
  bif !(m42_0 o p0 p1 p2) then
    some (.tup [.agg [.f32 (o.slit 0), .f32 (o.slit 0), .f32 (o.slit 0)], .int .i64 (1 : Int)], [])
  else
    gd (m45_ok o p3) (
    bif !(m45_0 o p3) then
      some (.tup [.agg [.f32 (o.slit 0), .f32 (o.slit 0), .f32 (o.slit 0)], .int .i64 (2 : Int)], [])
    else
      gd (m46_ok o p0 p1 p2 p3) (
      some (.tup [.agg [.f32 (m46_0 o p0 p1 p2 p3), .f32 (m46_1 o p0 p1 p2 p3), .f32 (m46_2 o p0 p1 p2 p3)], .int .i64 (m46_3 o p0 p1 p2 p3)], []))))
noncomputable def c17 (o : FO) (N : Nat) : Cx o :=
  { ty := tab [(22, ty22 o), (28, ty28 o), (30, ty30 o)]
    fn := tab [(42, .ro (e42 o)), (45, .pure (e45 o)), (46, .pure (e46 o))]
    rounds := N, nt := 18, base := 0
    loops := [] }
noncomputable def b17 : Code := match Try.f17.body with | some b => b | none => .skip
theorem is17 (N : Nat) : FnIs Try.prog (c17 ieee N) 17 Try.f17 b17 := ⟨by kernel_rfl, by kernel_rfl, by kernel_rfl, by kernel_rfl⟩
theorem eq17 (o : FO) (N : Nat) (p0 : o.S) (p1 : o.S) (p2 : o.S) (p3 : o.S) : afun (c17 o N) Try.f17.results.toList b17 [.agg [.f32 p0, .f32 p1, .f32 p2], .f32 p3] [] = f17 o p0 p1 p2 p3 := by kernel_rfl
theorem cok17 (N : Nat) (hN : 4096 ≤ N) : CtxOk Try.prog (c17 ieee N) := by
  refine ctxOk ?_ ?_ mixed ?_
  · intro p hp
    simp only [List.mem_cons, List.not_mem_nil, or_false] at hp
    rcases hp with rfl | rfl | rfl
    · exact tyOk22
    · exact tyOk28
    · exact tyOk30
  · intro p hp
    simp only [List.mem_cons, List.not_mem_nil, or_false] at hp
    rcases hp with rfl | rfl | rfl
    · exact ok42 N hN
    · exact ok45 N hN
    · exact ok46 N hN
  · intro p hp; cases hp
noncomputable def m17_ok (o : FO) (p0 : o.S) (p1 : o.S) (p2 : o.S) (p3 : o.S) : Bool :=
  bif m42_ok o p0 p1 p2 then
    bif !(m42_0 o p0 p1 p2) then
      true
    else
      bif m45_ok o p3 then
        bif !(m45_0 o p3) then
          true
        else
          bif m46_ok o p0 p1 p2 p3 then
            true
          else
            false
      else
        false
  else
    false
noncomputable def m17_0 (o : FO) (p0 : o.S) (p1 : o.S) (p2 : o.S) (p3 : o.S) : o.S :=
  bif !(m42_0 o p0 p1 p2) then
    (o.slit 0)
  else
    bif !(m45_0 o p3) then
      (o.slit 0)
    else
      m46_0 o p0 p1 p2 p3
noncomputable def m17_1 (o : FO) (p0 : o.S) (p1 : o.S) (p2 : o.S) (p3 : o.S) : o.S :=
  bif !(m42_0 o p0 p1 p2) then
    (o.slit 0)
  else
    bif !(m45_0 o p3) then
      (o.slit 0)
    else
      m46_1 o p0 p1 p2 p3
noncomputable def m17_2 (o : FO) (p0 : o.S) (p1 : o.S) (p2 : o.S) (p3 : o.S) : o.S :=
  bif !(m42_0 o p0 p1 p2) then
    (o.slit 0)
  else
    bif !(m45_0 o p3) then
      (o.slit 0)
    else
      m46_2 o p0 p1 p2 p3
noncomputable def m17_3 (o : FO) (p0 : o.S) (p1 : o.S) (p2 : o.S) (p3 : o.S) : Int :=
  bif !(m42_0 o p0 p1 p2) then
    (1 : Int)
  else
    bif !(m45_0 o p3) then
      (2 : Int)
    else
      m46_3 o p0 p1 p2 p3
theorem val17 (o : FO) (p0 : o.S) (p1 : o.S) (p2 : o.S) (p3 : o.S) (h : m17_ok o p0 p1 p2 p3 = true) : f17 o p0 p1 p2 p3 = some (.tup [.agg [.f32 (m17_0 o p0 p1 p2 p3), .f32 (m17_1 o p0 p1 p2 p3), .f32 (m17_2 o p0 p1 p2 p3)], .int .i64 (m17_3 o p0 p1 p2 p3)], []) := by
  revert h
  unfold m17_ok f17 m17_0 m17_1 m17_2 m17_3
  try dsimp only
  cases (m42_ok o p0 p1 p2)
  · intro h; exact absurd h Bool.false_ne_true
  · cases (m42_0 o p0 p1 p2)
    · intro _; rfl
    · cases (m45_ok o p3)
      · intro h; exact absurd h Bool.false_ne_true
      · cases (m45_0 o p3)
        · intro _; rfl
        · cases (m46_ok o p0 p1 p2 p3)
          · intro h; exact absurd h Bool.false_ne_true
          · intro _; rfl

noncomputable def e17 (o : FO) : List (AV o) → Tr (AV o)
  | [.agg [.f32 p0, .f32 p1, .f32 p2], .f32 p3] => .br (m17_ok o p0 p1 p2 p3) (.leaf (.tup [.agg [.f32 (m17_0 o p0 p1 p2 p3), .f32 (m17_1 o p0 p1 p2 p3), .f32 (m17_2 o p0 p1 p2 p3)], .int .i64 (m17_3 o p0 p1 p2 p3)])) .fail
  | _ => .fail
theorem ok17 (N : Nat) (hN : 4096 ≤ N) : CalOk Try.prog 17 (.pure (e17 ieee)) := by
  refine calOk_pure (cok17 N hN) (is17 N) ?_
  intro args av hg
  unfold e17 at hg
  split at hg
  · obtain ⟨h0, hg⟩ := br_get hg
    cases hg
    exact ⟨rfl, rfl, _, (eq17 ieee N _ _ _ _).trans (val17 ieee _ _ _ _ h0)⟩
  · cases hg

/-! loop.example/g01224/spec.l01Share -/
noncomputable def f48 (o : FO) (p0 : o.S) : R o :=
  gd (m71_ok o p0) (
  bif m71_0 o p0 then
    bif o.sle p0 (o.slit 1065353216) then
      some (.bool true, [])
    else
      some (.bool false, [])
  else
    some (.bool false, []))
noncomputable def c48 (o : FO) (N : Nat) : Cx o :=
  { ty := tab []
    fn := tab [(71, .pure (e71 o))]
    rounds := N, nt := 9, base := 0
    loops := [] }
noncomputable def b48 : Code := match Try.f48.body with | some b => b | none => .skip
theorem is48 (N : Nat) : FnIs Try.prog (c48 ieee N) 48 Try.f48 b48 := ⟨by kernel_rfl, by kernel_rfl, by kernel_rfl, by kernel_rfl⟩
theorem eq48 (o : FO) (N : Nat) (p0 : o.S) : afun (c48 o N) Try.f48.results.toList b48 [.f32 p0] [] = f48 o p0 := by kernel_rfl
theorem cok48 (N : Nat) (hN : 4096 ≤ N) : CtxOk Try.prog (c48 ieee N) := by
  refine ctxOk ?_ ?_ mixed ?_
  · intro p hp; cases hp
  · intro p hp
    simp only [List.mem_cons, List.not_mem_nil, or_false] at hp
    subst hp; exact ok71 N hN
  · intro p hp; cases hp
noncomputable def m48_ok (o : FO) (p0 : o.S) : Bool :=
  bif m71_ok o p0 then
    bif m71_0 o p0 then
      bif o.sle p0 (o.slit 1065353216) then
        true
      else
        true
    else
      true
  else
    false
noncomputable def m48_0 (o : FO) (p0 : o.S) : Bool :=
  bif m71_0 o p0 then
    bif o.sle p0 (o.slit 1065353216) then
      true
    else
      false
  else
    false
theorem val48 (o : FO) (p0 : o.S) (h : m48_ok o p0 = true) : f48 o p0 = some (.bool (m48_0 o p0), []) := by
  revert h
  unfold m48_ok f48 m48_0
  try dsimp only
  cases (m71_ok o p0)
  · intro h; exact absurd h Bool.false_ne_true
  · cases (m71_0 o p0)
    · intro _; rfl
    · cases (o.sle p0 (o.slit 1065353216))
      · intro _; rfl
      · intro _; rfl

noncomputable def e48 (o : FO) : List (AV o) → Tr (AV o)
  | [.f32 p0] => .br (m48_ok o p0) (.leaf (.bool (m48_0 o p0))) .fail
  | _ => .fail
theorem ok48 (N : Nat) (hN : 4096 ≤ N) : CalOk Try.prog 48 (.pure (e48 ieee)) := by
  refine calOk_pure (cok48 N hN) (is48 N) ?_
  intro args av hg
  unfold e48 at hg
  split at hg
  · obtain ⟨h0, hg⟩ := br_get hg
    cases hg
    exact ⟨rfl, rfl, _, (eq48 ieee N _).trans (val48 ieee _ h0)⟩
  · cases hg

/-! loop.example/g01224/spec.l02Mix -/
noncomputable def f72 (o : FO) (p0 : o.S) (p1 : o.S) (p2 : o.S) (p3 : o.S) (p4 : o.S) (p5 : o.S) (p6 : o.S) : R o :=
  some (.agg [.f32 (o.sadd (o.smul p2 (o.ssub (o.slit 1065353216) p0)) (o.smul p5 p0)), .f32 (o.sadd (o.smul p3 (o.ssub (o.slit 1065353216) p0)) (o.smul p6 p0))], [.live false true [.f32 p1, .f32 p2, .f32 p3], .live false true [.f32 p4, .f32 p5, .f32 p6]])
noncomputable def c72 (o : FO) (N : Nat) : Cx o :=
  { ty := tab [(22, ty22 o), (28, ty28 o)]
    fn := tab []
    rounds := N, nt := 36, base := 2
    loops := [] }
noncomputable def b72 : Code := match Try.f72.body with | some b => b | none => .skip
theorem is72 (N : Nat) : FnIs Try.prog (c72 ieee N) 72 Try.f72 b72 := ⟨by kernel_rfl, by kernel_rfl, by kernel_rfl, by kernel_rfl⟩
theorem eq72 (o : FO) (N : Nat) (p0 : o.S) (p1 : o.S) (p2 : o.S) (p3 : o.S) (p4 : o.S) (p5 : o.S) (p6 : o.S) : afun (c72 o N) Try.f72.results.toList b72 [.ptr 0 1, .ptr 1 1, .f32 p0] [.live false true [.f32 p1, .f32 p2, .f32 p3], .live false true [.f32 p4, .f32 p5, .f32 p6]] = f72 o p0 p1 p2 p3 p4 p5 p6 := by kernel_rfl
theorem cok72 (N : Nat) (hN : 4096 ≤ N) : CtxOk Try.prog (c72 ieee N) := by
  refine ctxOk ?_ ?_ mixed ?_
  · intro p hp
    simp only [List.mem_cons, List.not_mem_nil, or_false] at hp
    rcases hp with rfl | rfl
    · exact tyOk22
    · exact tyOk28
  · intro p hp; cases hp
  · intro p hp; cases hp
noncomputable def m72_0 (o : FO) (p0 : o.S) (p1 : o.S) (p2 : o.S) (p3 : o.S) (p4 : o.S) (p5 : o.S) (p6 : o.S) : o.S :=
  o.sadd (o.smul p2 (o.ssub (o.slit 1065353216) p0)) (o.smul p5 p0)
noncomputable def m72_1 (o : FO) (p0 : o.S) (p1 : o.S) (p2 : o.S) (p3 : o.S) (p4 : o.S) (p5 : o.S) (p6 : o.S) : o.S :=
  o.sadd (o.smul p3 (o.ssub (o.slit 1065353216) p0)) (o.smul p6 p0)
theorem val72 (o : FO) (p0 : o.S) (p1 : o.S) (p2 : o.S) (p3 : o.S) (p4 : o.S) (p5 : o.S) (p6 : o.S) : f72 o p0 p1 p2 p3 p4 p5 p6 = some (.agg [.f32 (m72_0 o p0 p1 p2 p3 p4 p5 p6), .f32 (m72_1 o p0 p1 p2 p3 p4 p5 p6)], [.live false true [.f32 p1, .f32 p2, .f32 p3], .live false true [.f32 p4, .f32 p5, .f32 p6]]) := by
  unfold f72 m72_0 m72_1
  rfl

noncomputable def e72 (o : FO) : List (AV o) → Heap o → Tr (AV o)
  | [.ptr 0 1, .ptr 1 1, .f32 p0], [.live _ true [.f32 p1, .f32 p2, .f32 p3], .live _ true [.f32 p4, .f32 p5, .f32 p6]] => .leaf (.agg [.f32 (m72_0 o p0 p1 p2 p3 p4 p5 p6), .f32 (m72_1 o p0 p1 p2 p3 p4 p5 p6)])
  | _, _ => .fail
theorem ok72 (N : Nat) (hN : 4096 ≤ N) : CalOk Try.prog 72 (.ro (e72 ieee)) := by
  refine calOk_ro (cok72 N hN) (is72 N) ?_
  intro args h av hg
  unfold e72 at hg
  split at hg
  · cases hg
    exact ⟨rfl, _, (eq72 ieee N _ _ _ _ _ _ _).trans (val72 ieee _ _ _ _ _ _ _)⟩
  · cases hg

/-! loop.example/g01224/spec.l04Mixed -/
noncomputable def f49 (o : FO) (p0 : o.S) (p1 : o.S) (p2 : o.S) (p3 : o.S) (p4 : o.S) (p5 : o.S) (p6 : o.S) : R o :=
  let v1 : o.S := m72_1 o p3 p0 p1 p2 p4 p5 p6
  let v2 : o.S := m72_0 o p3 p0 p1 p2 p4 p5 p6
  gd (m52_ok o p0 v2 v1) (
  bif !(m52_0 o p0 v2 v1) then
    some (.tup [.agg [.f32 (o.slit 0), .f32 (o.slit 0), .f32 (o.slit 0)], .int .i64 (4 : Int)], [.live false true [.f32 p4, .f32 p5, .f32 p6]])
  else
    some (.tup [.agg [.f32 p0, .f32 v2, .f32 v1], .int .i64 (0 : Int)], [.live false true [.f32 p4, .f32 p5, .f32 p6]]))
noncomputable def c49 (o : FO) (N : Nat) : Cx o :=
  { ty := tab [(22, ty22 o), (28, ty28 o), (30, ty30 o)]
    fn := tab [(52, .ro (e52 o)), (72, .ro (e72 o))]
    rounds := N, nt := 18, base := 1
    loops := [] }
noncomputable def b49 : Code := match Try.f49.body with | some b => b | none => .skip
theorem is49 (N : Nat) : FnIs Try.prog (c49 ieee N) 49 Try.f49 b49 := ⟨by kernel_rfl, by kernel_rfl, by kernel_rfl, by kernel_rfl⟩
theorem eq49 (o : FO) (N : Nat) (p0 : o.S) (p1 : o.S) (p2 : o.S) (p3 : o.S) (p4 : o.S) (p5 : o.S) (p6 : o.S) : afun (c49 o N) Try.f49.results.toList b49 [.agg [.f32 p0, .f32 p1, .f32 p2], .ptr 0 1, .f32 p3] [.live false true [.f32 p4, .f32 p5, .f32 p6]] = f49 o p0 p1 p2 p3 p4 p5 p6 := by kernel_rfl
theorem cok49 (N : Nat) (hN : 4096 ≤ N) : CtxOk Try.prog (c49 ieee N) := by
  refine ctxOk ?_ ?_ mixed ?_
  · intro p hp
    simp only [List.mem_cons, List.not_mem_nil, or_false] at hp
    rcases hp with rfl | rfl | rfl
    · exact tyOk22
    · exact tyOk28
    · exact tyOk30
  · intro p hp
    simp only [List.mem_cons, List.not_mem_nil, or_false] at hp
    rcases hp with rfl | rfl
    · exact ok52 N hN
    · exact ok72 N hN
  · intro p hp; cases hp
noncomputable def m49_ok (o : FO) (p0 : o.S) (p1 : o.S) (p2 : o.S) (p3 : o.S) (p4 : o.S) (p5 : o.S) (p6 : o.S) : Bool :=
  let v1 : o.S := m72_1 o p3 p0 p1 p2 p4 p5 p6
  let v2 : o.S := m72_0 o p3 p0 p1 p2 p4 p5 p6
  bif m52_ok o p0 v2 v1 then
    bif !(m52_0 o p0 v2 v1) then
      true
    else
      true
  else
    false
noncomputable def m49_0 (o : FO) (p0 : o.S) (p1 : o.S) (p2 : o.S) (p3 : o.S) (p4 : o.S) (p5 : o.S) (p6 : o.S) : o.S :=
  bif !(m52_0 o p0 (m72_0 o p3 p0 p1 p2 p4 p5 p6) (m72_1 o p3 p0 p1 p2 p4 p5 p6)) then
    (o.slit 0)
  else
    p0
noncomputable def m49_1 (o : FO) (p0 : o.S) (p1 : o.S) (p2 : o.S) (p3 : o.S) (p4 : o.S) (p5 : o.S) (p6 : o.S) : o.S :=
  let v1 : o.S := m72_0 o p3 p0 p1 p2 p4 p5 p6
  bif !(m52_0 o p0 v1 (m72_1 o p3 p0 p1 p2 p4 p5 p6)) then
    (o.slit 0)
  else
    v1
noncomputable def m49_2 (o : FO) (p0 : o.S) (p1 : o.S) (p2 : o.S) (p3 : o.S) (p4 : o.S) (p5 : o.S) (p6 : o.S) : o.S :=
  let v1 : o.S := m72_1 o p3 p0 p1 p2 p4 p5 p6
  bif !(m52_0 o p0 (m72_0 o p3 p0 p1 p2 p4 p5 p6) v1) then
    (o.slit 0)
  else
    v1
noncomputable def m49_3 (o : FO) (p0 : o.S) (p1 : o.S) (p2 : o.S) (p3 : o.S) (p4 : o.S) (p5 : o.S) (p6 : o.S) : Int :=
  bif !(m52_0 o p0 (m72_0 o p3 p0 p1 p2 p4 p5 p6) (m72_1 o p3 p0 p1 p2 p4 p5 p6)) then
    (4 : Int)
  else
    (0 : Int)
theorem val49 (o : FO) (p0 : o.S) (p1 : o.S) (p2 : o.S) (p3 : o.S) (p4 : o.S) (p5 : o.S) (p6 : o.S) (h : m49_ok o p0 p1 p2 p3 p4 p5 p6 = true) : f49 o p0 p1 p2 p3 p4 p5 p6 = some (.tup [.agg [.f32 (m49_0 o p0 p1 p2 p3 p4 p5 p6), .f32 (m49_1 o p0 p1 p2 p3 p4 p5 p6), .f32 (m49_2 o p0 p1 p2 p3 p4 p5 p6)], .int .i64 (m49_3 o p0 p1 p2 p3 p4 p5 p6)], [.live false true [.f32 p4, .f32 p5, .f32 p6]]) := by
  revert h
  unfold m49_ok f49 m49_0 m49_1 m49_2 m49_3
  try dsimp only
  cases (m52_ok o p0 (m72_0 o p3 p0 p1 p2 p4 p5 p6) (m72_1 o p3 p0 p1 p2 p4 p5 p6))
  · intro h; exact absurd h Bool.false_ne_true
  · cases (m52_0 o p0 (m72_0 o p3 p0 p1 p2 p4 p5 p6) (m72_1 o p3 p0 p1 p2 p4 p5 p6))
    · intro _; rfl
    · intro _; rfl

noncomputable def e49 (o : FO) : List (AV o) → Heap o → Tr (AV o)
  | [.agg [.f32 p0, .f32 p1, .f32 p2], .ptr 0 1, .f32 p3], [.live _ true [.f32 p4, .f32 p5, .f32 p6]] => .br (m49_ok o p0 p1 p2 p3 p4 p5 p6) (.leaf (.tup [.agg [.f32 (m49_0 o p0 p1 p2 p3 p4 p5 p6), .f32 (m49_1 o p0 p1 p2 p3 p4 p5 p6), .f32 (m49_2 o p0 p1 p2 p3 p4 p5 p6)], .int .i64 (m49_3 o p0 p1 p2 p3 p4 p5 p6)])) .fail
  | _, _ => .fail
theorem ok49 (N : Nat) (hN : 4096 ≤ N) : CalOk Try.prog 49 (.ro (e49 ieee)) := by
  refine calOk_ro (cok49 N hN) (is49 N) ?_
  intro args h av hg
  unfold e49 at hg
  split at hg
  · obtain ⟨h0, hg⟩ := br_get hg
    cases hg
    exact ⟨rfl, _, (eq49 ieee N _ _ _ _ _ _ _).trans (val49 ieee _ _ _ _ _ _ _ h0)⟩
  · cases hg

/-! loop.example/g01224/spec.MixParcels -/
noncomputable def f20 (o : FO) (p0 : o.S) (p1 : o.S) (p2 : o.S) (p3 : o.S) (p4 : o.S) (p5 : o.S) (p6 : o.S) : R o :=
  gd (m42_ok o p0 p1 p2) (
  bif m42_0 o p0 p1 p2 then
    gd (m42_ok o p3 p4 p5) (
    bif m42_0 o p3 p4 p5 then
      gd (m48_ok o p6) (
      bif !(m48_0 o p6) then
        some (.tup [.agg [.f32 (o.slit 0), .f32 (o.slit 0), .f32 (o.slit 0)], .int .i64 (2 : Int)], [])
      else
        gd (m49_ok o p0 p1 p2 p6 p3 p4 p5) (
        some (.tup [.agg [.f32 (m49_0 o p0 p1 p2 p6 p3 p4 p5), .f32 (m49_1 o p0 p1 p2 p6 p3 p4 p5), .f32 (m49_2 o p0 p1 p2 p6 p3 p4 p5)], .int .i64 (m49_3 o p0 p1 p2 p6 p3 p4 p5)], [])))
    else
      some (.tup [.agg [.f32 (o.slit 0), .f32 (o.slit 0), .f32 (o.slit 0)], .int .i64 (1 : Int)], []))
  else
    some (.tup [.agg [.f32 (o.slit 0), .f32 (o.slit 0), .f32 (o.slit 0)], .int .i64 (1 : Int)], []))
noncomputable def c20 (o : FO) (N : Nat) : Cx o :=
  { ty := tab [(22, ty22 o), (28, ty28 o), (30, ty30 o)]
    fn := tab [(42, .ro (e42 o)), (48, .pure (e48 o)), (49, .ro (e49 o))]
    rounds := N, nt := 25, base := 0
    loops := [] }
noncomputable def b20 : Code := match Try.f20.body with | some b => b | none => .skip
theorem is20 (N : Nat) : FnIs Try.prog (c20 ieee N) 20 Try.f20 b20 := ⟨by kernel_rfl, by kernel_rfl, by kernel_rfl, by kernel_rfl⟩
theorem eq20 (o : FO) (N : Nat) (p0 : o.S) (p1 : o.S) (p2 : o.S) (p3 : o.S) (p4 : o.S) (p5 : o.S) (p6 : o.S) : afun (c20 o N) Try.f20.results.toList b20 [.agg [.f32 p0, .f32 p1, .f32 p2], .agg [.f32 p3, .f32 p4, .f32 p5], .f32 p6] [] = f20 o p0 p1 p2 p3 p4 p5 p6 := by kernel_rfl
theorem cok20 (N : Nat) (hN : 4096 ≤ N) : CtxOk Try.prog (c20 ieee N) := by
  refine ctxOk ?_ ?_ mixed ?_
  · intro p hp
    simp only [List.mem_cons, List.not_mem_nil, or_false] at hp
    rcases hp with rfl | rfl | rfl
    · exact tyOk22
    · exact tyOk28
    · exact tyOk30
  · intro p hp
    simp only [List.mem_cons, List.not_mem_nil, or_false] at hp
    rcases hp with rfl | rfl | rfl
    · exact ok42 N hN
    · exact ok48 N hN
    · exact ok49 N hN
  · intro p hp; cases hp
noncomputable def m20_ok (o : FO) (p0 : o.S) (p1 : o.S) (p2 : o.S) (p3 : o.S) (p4 : o.S) (p5 : o.S) (p6 : o.S) : Bool :=
  bif m42_ok o p0 p1 p2 then
    bif m42_0 o p0 p1 p2 then
      bif m42_ok o p3 p4 p5 then
        bif m42_0 o p3 p4 p5 then
          bif m48_ok o p6 then
            bif !(m48_0 o p6) then
              true
            else
              bif m49_ok o p0 p1 p2 p6 p3 p4 p5 then
                true
              else
                false
          else
            false
        else
          true
      else
        false
    else
      true
  else
    false
noncomputable def m20_0 (o : FO) (p0 : o.S) (p1 : o.S) (p2 : o.S) (p3 : o.S) (p4 : o.S) (p5 : o.S) (p6 : o.S) : o.S :=
  bif m42_0 o p0 p1 p2 then
    bif m42_0 o p3 p4 p5 then
      bif !(m48_0 o p6) then
        (o.slit 0)
      else
        m49_0 o p0 p1 p2 p6 p3 p4 p5
    else
      (o.slit 0)
  else
    (o.slit 0)
noncomputable def m20_1 (o : FO) (p0 : o.S) (p1 : o.S) (p2 : o.S) (p3 : o.S) (p4 : o.S) (p5 : o.S) (p6 : o.S) : o.S :=
  bif m42_0 o p0 p1 p2 then
    bif m42_0 o p3 p4 p5 then
      bif !(m48_0 o p6) then
        (o.slit 0)
      else
        m49_1 o p0 p1 p2 p6 p3 p4 p5
    else
      (o.slit 0)
  else
    (o.slit 0)
noncomputable def m20_2 (o : FO) (p0 : o.S) (p1 : o.S) (p2 : o.S) (p3 : o.S) (p4 : o.S) (p5 : o.S) (p6 : o.S) : o.S :=
  bif m42_0 o p0 p1 p2 then
    bif m42_0 o p3 p4 p5 then
      bif !(m48_0 o p6) then
        (o.slit 0)
      else
        m49_2 o p0 p1 p2 p6 p3 p4 p5
    else
      (o.slit 0)
  else
    (o.slit 0)
noncomputable def m20_3 (o : FO) (p0 : o.S) (p1 : o.S) (p2 : o.S) (p3 : o.S) (p4 : o.S) (p5 : o.S) (p6 : o.S) : Int :=
  bif m42_0 o p0 p1 p2 then
    bif m42_0 o p3 p4 p5 then
      bif !(m48_0 o p6) then
        (2 : Int)
      else
        m49_3 o p0 p1 p2 p6 p3 p4 p5
    else
      (1 : Int)
  else
    (1 : Int)
theorem val20 (o : FO) (p0 : o.S) (p1 : o.S) (p2 : o.S) (p3 : o.S) (p4 : o.S) (p5 : o.S) (p6 : o.S) (h : m20_ok o p0 p1 p2 p3 p4 p5 p6 = true) : f20 o p0 p1 p2 p3 p4 p5 p6 = some (.tup [.agg [.f32 (m20_0 o p0 p1 p2 p3 p4 p5 p6), .f32 (m20_1 o p0 p1 p2 p3 p4 p5 p6), .f32 (m20_2 o p0 p1 p2 p3 p4 p5 p6)], .int .i64 (m20_3 o p0 p1 p2 p3 p4 p5 p6)], []) := by
  revert h
  unfold m20_ok f20 m20_0 m20_1 m20_2 m20_3
  try dsimp only
  cases (m42_ok o p0 p1 p2)
  · intro h; exact absurd h Bool.false_ne_true
  · cases (m42_0 o p0 p1 p2)
    · intro _; rfl
    · cases (m42_ok o p3 p4 p5)
      · intro h; exact absurd h Bool.false_ne_true
      · cases (m42_0 o p3 p4 p5)
        · intro _; rfl
        · cases (m48_ok o p6)
          · intro h; exact absurd h Bool.false_ne_true
          · cases (m48_0 o p6)
            · intro _; rfl
            · cases (m49_ok o p0 p1 p2 p6 p3 p4 p5)
              · intro h; exact absurd h Bool.false_ne_true
              · intro _; rfl

noncomputable def e20 (o : FO) : List (AV o) → Tr (AV o)
  | [.agg [.f32 p0, .f32 p1, .f32 p2], .agg [.f32 p3, .f32 p4, .f32 p5], .f32 p6] => .br (m20_ok o p0 p1 p2 p3 p4 p5 p6) (.leaf (.tup [.agg [.f32 (m20_0 o p0 p1 p2 p3 p4 p5 p6), .f32 (m20_1 o p0 p1 p2 p3 p4 p5 p6), .f32 (m20_2 o p0 p1 p2 p3 p4 p5 p6)], .int .i64 (m20_3 o p0 p1 p2 p3 p4 p5 p6)])) .fail
  | _ => .fail
theorem ok20 (N : Nat) (hN : 4096 ≤ N) : CalOk Try.prog 20 (.pure (e20 ieee)) := by
  refine calOk_pure (cok20 N hN) (is20 N) ?_
  intro args av hg
  unfold e20 at hg
  split at hg
  · obtain ⟨h0, hg⟩ := br_get hg
    cases hg
    exact ⟨rfl, rfl, _, (eq20 ieee N _ _ _ _ _ _ _).trans (val20 ieee _ _ _ _ _ _ _ h0)⟩
  · cases hg

end Go.Proofs.Ytimbfpcjnbnpmaa
