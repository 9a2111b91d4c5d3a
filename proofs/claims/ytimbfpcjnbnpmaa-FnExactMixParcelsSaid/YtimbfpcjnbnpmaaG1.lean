import Derived.Test.YtimbfpcjnbnpmaaG0
set_option linter.unusedVariables false
set_option maxRecDepth 100000
namespace Go.Proofs.Ytimbfpcjnbnpmaa
open Go.Ab Go.RowKit

/-! loop.example/g01224/laws.toAir -/
noncomputable def f23 (o : FO) (p0 : o.S) (p1 : o.S) : R o :=
  some (.agg [.f32 p0, .f32 p1], [])
noncomputable def c23 (o : FO) (N : Nat) : Cx o :=
  { ty := tab [(22, ty22 o), (24, ty24 o), (28, ty28 o)]
    fn := tab []
    rounds := 4096, nt := 11, base := 0
    loops := [] }
noncomputable def b23 : Code := match Try.f23.body with | some b => b | none => .skip
theorem is23 (N : Nat) : FnIs Try.prog (c23 ieee N) 23 Try.f23 b23 := ⟨by kernel_rfl, by kernel_rfl, by kernel_rfl, by kernel_rfl⟩
theorem eq23 (o : FO) (N : Nat) (p0 : o.S) (p1 : o.S) : afun (c23 o N) Try.f23.results.toList b23 [.agg [.f32 p0, .f32 p1]] [] = f23 o p0 p1 := by kernel_rfl
theorem cok23 (N : Nat) (hN : 4096 ≤ N) : CtxOk Try.prog (c23 ieee N) := by
  refine ctxOk ?_ ?_ mixed ?_
  · intro p hp
    simp only [List.mem_cons, List.not_mem_nil, or_false] at hp
    rcases hp with rfl | rfl | rfl
    · exact tyOk22
    · exact tyOk24
    · exact tyOk28
  · intro p hp; cases hp
  · intro p hp; cases hp
theorem val23 (o : FO) (p0 : o.S) (p1 : o.S) : f23 o p0 p1 = some (.agg [.f32 p0, .f32 p1], []) := by
  unfold f23
  rfl

noncomputable def e23 (o : FO) : List (AV o) → Tr (AV o)
  | [.agg [.f32 p0, .f32 p1]] => .leaf (.agg [.f32 p0, .f32 p1])
  | _ => .fail
theorem ok23 (N : Nat) (hN : 4096 ≤ N) : CalOk Try.prog 23 (.pure (e23 ieee)) := by
  refine calOk_pure (cok23 4096 (Nat.le_refl _)) (is23 4096) ?_
  intro args av hg
  unfold e23 at hg
  split at hg
  · cases hg
    exact ⟨rfl, rfl, _, (eq23 ieee 4096 _ _).trans (val23 ieee _ _)⟩
  · cases hg

/-! loop.example/g01224/laws.toParcel -/
noncomputable def f13 (o : FO) (p0 : o.S) (p1 : o.S) (p2 : o.S) : R o :=
  some (.agg [.f32 p0, .f32 p1, .f32 p2], [])
noncomputable def c13 (o : FO) (N : Nat) : Cx o :=
  { ty := tab [(22, ty22 o), (24, ty24 o), (26, ty26 o), (28, ty28 o), (30, ty30 o)]
    fn := tab [(23, .pure (e23 o))]
    rounds := 4096, nt := 12, base := 0
    loops := [] }
noncomputable def b13 : Code := match Try.f13.body with | some b => b | none => .skip
theorem is13 (N : Nat) : FnIs Try.prog (c13 ieee N) 13 Try.f13 b13 := ⟨by kernel_rfl, by kernel_rfl, by kernel_rfl, by kernel_rfl⟩
theorem eq13 (o : FO) (N : Nat) (p0 : o.S) (p1 : o.S) (p2 : o.S) : afun (c13 o N) Try.f13.results.toList b13 [.agg [.f32 p0, .f32 p1, .f32 p2]] [] = f13 o p0 p1 p2 := by kernel_rfl
theorem cok13 (N : Nat) (hN : 4096 ≤ N) : CtxOk Try.prog (c13 ieee N) := by
  refine ctxOk ?_ ?_ mixed ?_
  · intro p hp
    simp only [List.mem_cons, List.not_mem_nil, or_false] at hp
    rcases hp with rfl | rfl | rfl | rfl | rfl
    · exact tyOk22
    · exact tyOk24
    · exact tyOk26
    · exact tyOk28
    · exact tyOk30
  · intro p hp
    simp only [List.mem_cons, List.not_mem_nil, or_false] at hp
    subst hp; exact ok23 N hN
  · intro p hp; cases hp
theorem val13 (o : FO) (p0 : o.S) (p1 : o.S) (p2 : o.S) : f13 o p0 p1 p2 = some (.agg [.f32 p0, .f32 p1, .f32 p2], []) := by
  unfold f13
  rfl

noncomputable def e13 (o : FO) : List (AV o) → Tr (AV o)
  | [.agg [.f32 p0, .f32 p1, .f32 p2]] => .leaf (.agg [.f32 p0, .f32 p1, .f32 p2])
  | _ => .fail
theorem ok13 (N : Nat) (hN : 4096 ≤ N) : CalOk Try.prog 13 (.pure (e13 ieee)) := by
  refine calOk_pure (cok13 4096 (Nat.le_refl _)) (is13 4096) ?_
  intro args av hg
  unfold e13 at hg
  split at hg
  · cases hg
    exact ⟨rfl, rfl, _, (eq13 ieee 4096 _ _ _).trans (val13 ieee _ _ _)⟩
  · cases hg

/-! math.Float32bits -/
noncomputable def e68 (o : FO) : List (AV o) → Tr (AV o) := eBitsS o
theorem ok68 (N : Nat) (_ : 4096 ≤ N) : CalOk Try.prog 68 (.pure (e68 ieee)) := calOk_bitsS (fn := Try.f68) (by kernel_rfl) (by kernel_rfl) (by kernel_rfl) (by kernel_rfl) (by kernel_rfl)

/-! loop.example/g01224/spec.l01Same -/
noncomputable def f38 (o : FO) (p0 : o.S) (p1 : o.S) : R o :=
  let v1 : Bool := !(o.seq p0 p0)
  bif v1 then
    bif v1 then
      bif !(o.seq p1 p1) then
        some (.bool true, [])
      else
        some (.bool false, [])
    else
      some (.bool false, [])
  else
    let v2 : Bool := !(o.seq p1 p1)
    bif v2 then
      bif v1 then
        bif v2 then
          some (.bool true, [])
        else
          some (.bool false, [])
      else
        some (.bool false, [])
    else
      gd (o.seq p0 p0) (
      gd (o.seq p1 p1) (
      some (.bool ((o.sbits p0) == (o.sbits p1)), [])))
noncomputable def c38 (o : FO) (N : Nat) : Cx o :=
  { ty := tab []
    fn := tab [(68, .pure (e68 o))]
    rounds := 4096, nt := 26, base := 0
    loops := [] }
noncomputable def b38 : Code := match Try.f38.body with | some b => b | none => .skip
theorem is38 (N : Nat) : FnIs Try.prog (c38 ieee N) 38 Try.f38 b38 := ⟨by kernel_rfl, by kernel_rfl, by kernel_rfl, by kernel_rfl⟩
theorem eq38 (o : FO) (N : Nat) (p0 : o.S) (p1 : o.S) : afun (c38 o N) Try.f38.results.toList b38 [.f32 p0, .f32 p1] [] = f38 o p0 p1 := by kernel_rfl
theorem cok38 (N : Nat) (hN : 4096 ≤ N) : CtxOk Try.prog (c38 ieee N) := by
  refine ctxOk ?_ ?_ mixed ?_
  · intro p hp; cases hp
  · intro p hp
    simp only [List.mem_cons, List.not_mem_nil, or_false] at hp
    subst hp; exact ok68 N hN
  · intro p hp; cases hp
noncomputable def m38_0 (o : FO) (p0 : o.S) (p1 : o.S) : Bool :=
  bif o.seq p0 p0 then
    bif o.seq p1 p1 then
      (o.sbits p0) == (o.sbits p1)
    else
      false
  else
    bif o.seq p1 p1 then
      false
    else
      true
theorem val38 (o : FO) (p0 : o.S) (p1 : o.S) : f38 o p0 p1 = some (.bool (m38_0 o p0 p1), []) := by
  unfold f38 m38_0
  try dsimp only
  cases (o.seq p0 p0)
  · cases (o.seq p1 p1)
    · rfl
    · rfl
  · cases (o.seq p1 p1)
    · rfl
    · rfl

noncomputable def e38 (o : FO) : List (AV o) → Tr (AV o)
  | [.f32 p0, .f32 p1] => .leaf (.bool (m38_0 o p0 p1))
  | _ => .fail
theorem ok38 (N : Nat) (hN : 4096 ≤ N) : CalOk Try.prog 38 (.pure (e38 ieee)) := by
  refine calOk_pure (cok38 4096 (Nat.le_refl _)) (is38 4096) ?_
  intro args av hg
  unfold e38 at hg
  split at hg
  · cases hg
    exact ⟨rfl, rfl, _, (eq38 ieee 4096 _ _).trans (val38 ieee _ _)⟩
  · cases hg

/-! loop.example/g01224/spec.l02Same -/
noncomputable def f39 (o : FO) (p0 : o.S) (p1 : o.S) (p2 : o.S) (p3 : o.S) (p4 : o.S) (p5 : o.S) : R o :=
  bif m38_0 o p1 p4 then
    bif m38_0 o p2 p5 then
      some (.bool true, [.live false true [.f32 p0, .f32 p1, .f32 p2], .live false true [.f32 p3, .f32 p4, .f32 p5]])
    else
      some (.bool false, [.live false true [.f32 p0, .f32 p1, .f32 p2], .live false true [.f32 p3, .f32 p4, .f32 p5]])
  else
    some (.bool false, [.live false true [.f32 p0, .f32 p1, .f32 p2], .live false true [.f32 p3, .f32 p4, .f32 p5]])
noncomputable def c39 (o : FO) (N : Nat) : Cx o :=
  { ty := tab [(22, ty22 o), (28, ty28 o)]
    fn := tab [(38, .pure (e38 o))]
    rounds := 4096, nt := 25, base := 2
    loops := [] }
noncomputable def b39 : Code := match Try.f39.body with | some b => b | none => .skip
theorem is39 (N : Nat) : FnIs Try.prog (c39 ieee N) 39 Try.f39 b39 := ⟨by kernel_rfl, by kernel_rfl, by kernel_rfl, by kernel_rfl⟩
theorem eq39 (o : FO) (N : Nat) (p0 : o.S) (p1 : o.S) (p2 : o.S) (p3 : o.S) (p4 : o.S) (p5 : o.S) : afun (c39 o N) Try.f39.results.toList b39 [.ptr 0 1, .ptr 1 1] [.live false true [.f32 p0, .f32 p1, .f32 p2], .live false true [.f32 p3, .f32 p4, .f32 p5]] = f39 o p0 p1 p2 p3 p4 p5 := by kernel_rfl
theorem cok39 (N : Nat) (hN : 4096 ≤ N) : CtxOk Try.prog (c39 ieee N) := by
  refine ctxOk ?_ ?_ mixed ?_
  · intro p hp
    simp only [List.mem_cons, List.not_mem_nil, or_false] at hp
    rcases hp with rfl | rfl
    · exact tyOk22
    · exact tyOk28
  · intro p hp
    simp only [List.mem_cons, List.not_mem_nil, or_false] at hp
    subst hp; exact ok38 N hN
  · intro p hp; cases hp
noncomputable def m39_0 (o : FO) (p0 : o.S) (p1 : o.S) (p2 : o.S) (p3 : o.S) (p4 : o.S) (p5 : o.S) : Bool :=
  bif m38_0 o p1 p4 then
    m38_0 o p2 p5
  else
    false
theorem val39 (o : FO) (p0 : o.S) (p1 : o.S) (p2 : o.S) (p3 : o.S) (p4 : o.S) (p5 : o.S) : f39 o p0 p1 p2 p3 p4 p5 = some (.bool (m39_0 o p0 p1 p2 p3 p4 p5), [.live false true [.f32 p0, .f32 p1, .f32 p2], .live false true [.f32 p3, .f32 p4, .f32 p5]]) := by
  unfold f39 m39_0
  try dsimp only
  cases (m38_0 o p1 p4)
  · rfl
  · cases (m38_0 o p2 p5)
    · rfl
    · rfl

noncomputable def e39 (o : FO) : List (AV o) → Heap o → Tr (AV o)
  | [.ptr 0 1, .ptr 1 1], [.live _ true [.f32 p0, .f32 p1, .f32 p2], .live _ true [.f32 p3, .f32 p4, .f32 p5]] => .leaf (.bool (m39_0 o p0 p1 p2 p3 p4 p5))
  | _, _ => .fail
theorem ok39 (N : Nat) (hN : 4096 ≤ N) : CalOk Try.prog 39 (.ro (e39 ieee)) := by
  refine calOk_ro (cok39 4096 (Nat.le_refl _)) (is39 4096) ?_
  intro args h av hg
  unfold e39 at hg
  split at hg
  · cases hg
    exact ⟨rfl, _, (eq39 ieee 4096 _ _ _ _ _ _).trans (val39 ieee _ _ _ _ _ _)⟩
  · cases hg

/-! loop.example/g01224/spec.SameParcel -/
noncomputable def f12 (o : FO) (p0 : o.S) (p1 : o.S) (p2 : o.S) (p3 : o.S) (p4 : o.S) (p5 : o.S) : R o :=
  bif m38_0 o p0 p3 then
    bif m39_0 o p0 p1 p2 p3 p4 p5 then
      some (.bool true, [])
    else
      some (.bool false, [])
  else
    some (.bool false, [])
noncomputable def c12 (o : FO) (N : Nat) : Cx o :=
  { ty := tab [(22, ty22 o), (28, ty28 o), (30, ty30 o)]
    fn := tab [(38, .pure (e38 o)), (39, .ro (e39 o))]
    rounds := 4096, nt := 15, base := 0
    loops := [] }
noncomputable def b12 : Code := match Try.f12.body with | some b => b | none => .skip
theorem is12 (N : Nat) : FnIs Try.prog (c12 ieee N) 12 Try.f12 b12 := ⟨by kernel_rfl, by kernel_rfl, by kernel_rfl, by kernel_rfl⟩
theorem eq12 (o : FO) (N : Nat) (p0 : o.S) (p1 : o.S) (p2 : o.S) (p3 : o.S) (p4 : o.S) (p5 : o.S) : afun (c12 o N) Try.f12.results.toList b12 [.agg [.f32 p0, .f32 p1, .f32 p2], .agg [.f32 p3, .f32 p4, .f32 p5]] [] = f12 o p0 p1 p2 p3 p4 p5 := by kernel_rfl
theorem cok12 (N : Nat) (hN : 4096 ≤ N) : CtxOk Try.prog (c12 ieee N) := by
  refine ctxOk ?_ ?_ mixed ?_
  · intro p hp
    simp only [List.mem_cons, List.not_mem_nil, or_false] at hp
    rcases hp with rfl | rfl | rfl
    · exact tyOk22
    · exact tyOk28
    · exact tyOk30
  · intro p hp
    simp only [List.mem_cons, List.not_mem_nil, or_false] at hp
    rcases hp with rfl | rfl
    · exact ok38 N hN
    · exact ok39 N hN
  · intro p hp; cases hp
noncomputable def m12_0 (o : FO) (p0 : o.S) (p1 : o.S) (p2 : o.S) (p3 : o.S) (p4 : o.S) (p5 : o.S) : Bool :=
  bif m38_0 o p0 p3 then
    m39_0 o p0 p1 p2 p3 p4 p5
  else
    false
theorem val12 (o : FO) (p0 : o.S) (p1 : o.S) (p2 : o.S) (p3 : o.S) (p4 : o.S) (p5 : o.S) : f12 o p0 p1 p2 p3 p4 p5 = some (.bool (m12_0 o p0 p1 p2 p3 p4 p5), []) := by
  unfold f12 m12_0
  try dsimp only
  cases (m38_0 o p0 p3)
  · rfl
  · cases (m39_0 o p0 p1 p2 p3 p4 p5)
    · rfl
    · rfl

noncomputable def e12 (o : FO) : List (AV o) → Tr (AV o)
  | [.agg [.f32 p0, .f32 p1, .f32 p2], .agg [.f32 p3, .f32 p4, .f32 p5]] => .leaf (.bool (m12_0 o p0 p1 p2 p3 p4 p5))
  | _ => .fail
theorem ok12 (N : Nat) (hN : 4096 ≤ N) : CalOk Try.prog 12 (.pure (e12 ieee)) := by
  refine calOk_pure (cok12 4096 (Nat.le_refl _)) (is12 4096) ?_
  intro args av hg
  unfold e12 at hg
  split at hg
  · cases hg
    exact ⟨rfl, rfl, _, (eq12 ieee 4096 _ _ _ _ _ _).trans (val12 ieee _ _ _ _ _ _)⟩
  · cases hg

/-! loop.example/g01224/impl.SameNumber -/
noncomputable def f40 (o : FO) (p0 : o.S) (p1 : o.S) : R o :=
  let v1 : Bool := !(o.seq p0 p0)
  bif v1 then
    bif v1 then
      bif !(o.seq p1 p1) then
        some (.bool true, [])
      else
        some (.bool false, [])
    else
      some (.bool false, [])
  else
    let v2 : Bool := !(o.seq p1 p1)
    bif v2 then
      bif v1 then
        bif v2 then
          some (.bool true, [])
        else
          some (.bool false, [])
      else
        some (.bool false, [])
    else
      gd (o.seq p0 p0) (
      gd (o.seq p1 p1) (
      some (.bool ((o.sbits p0) == (o.sbits p1)), [])))
noncomputable def c40 (o : FO) (N : Nat) : Cx o :=
  { ty := tab []
    fn := tab [(68, .pure (e68 o))]
    rounds := 4096, nt := 26, base := 0
    loops := [] }
noncomputable def b40 : Code := match Try.f40.body with | some b => b | none => .skip
theorem is40 (N : Nat) : FnIs Try.prog (c40 ieee N) 40 Try.f40 b40 := ⟨by kernel_rfl, by kernel_rfl, by kernel_rfl, by kernel_rfl⟩
theorem eq40 (o : FO) (N : Nat) (p0 : o.S) (p1 : o.S) : afun (c40 o N) Try.f40.results.toList b40 [.f32 p0, .f32 p1] [] = f40 o p0 p1 := by kernel_rfl
theorem cok40 (N : Nat) (hN : 4096 ≤ N) : CtxOk Try.prog (c40 ieee N) := by
  refine ctxOk ?_ ?_ mixed ?_
  · intro p hp; cases hp
  · intro p hp
    simp only [List.mem_cons, List.not_mem_nil, or_false] at hp
    subst hp; exact ok68 N hN
  · intro p hp; cases hp
noncomputable def m40_0 (o : FO) (p0 : o.S) (p1 : o.S) : Bool :=
  bif o.seq p0 p0 then
    bif o.seq p1 p1 then
      (o.sbits p0) == (o.sbits p1)
    else
      false
  else
    bif o.seq p1 p1 then
      false
    else
      true
theorem val40 (o : FO) (p0 : o.S) (p1 : o.S) : f40 o p0 p1 = some (.bool (m40_0 o p0 p1), []) := by
  unfold f40 m40_0
  try dsimp only
  cases (o.seq p0 p0)
  · cases (o.seq p1 p1)
    · rfl
    · rfl
  · cases (o.seq p1 p1)
    · rfl
    · rfl

noncomputable def e40 (o : FO) : List (AV o) → Tr (AV o)
  | [.f32 p0, .f32 p1] => .leaf (.bool (m40_0 o p0 p1))
  | _ => .fail
theorem ok40 (N : Nat) (hN : 4096 ≤ N) : CalOk Try.prog 40 (.pure (e40 ieee)) := by
  refine calOk_pure (cok40 4096 (Nat.le_refl _)) (is40 4096) ?_
  intro args av hg
  unfold e40 at hg
  split at hg
  · cases hg
    exact ⟨rfl, rfl, _, (eq40 ieee 4096 _ _).trans (val40 ieee _ _)⟩
  · cases hg

/-! loop.example/g01224/impl.SameAir -/
noncomputable def f41 (o : FO) (p0 : o.S) (p1 : o.S) (p2 : o.S) (p3 : o.S) : R o :=
  bif m40_0 o p0 p2 then
    bif m40_0 o p1 p3 then
      some (.bool true, [])
    else
      some (.bool false, [])
  else
    some (.bool false, [])
noncomputable def c41 (o : FO) (N : Nat) : Cx o :=
  { ty := tab [(22, ty22 o), (28, ty28 o)]
    fn := tab [(40, .pure (e40 o))]
    rounds := 4096, nt := 17, base := 0
    loops := [] }
noncomputable def b41 : Code := match Try.f41.body with | some b => b | none => .skip
theorem is41 (N : Nat) : FnIs Try.prog (c41 ieee N) 41 Try.f41 b41 := ⟨by kernel_rfl, by kernel_rfl, by kernel_rfl, by kernel_rfl⟩
theorem eq41 (o : FO) (N : Nat) (p0 : o.S) (p1 : o.S) (p2 : o.S) (p3 : o.S) : afun (c41 o N) Try.f41.results.toList b41 [.agg [.f32 p0, .f32 p1], .agg [.f32 p2, .f32 p3]] [] = f41 o p0 p1 p2 p3 := by kernel_rfl
theorem cok41 (N : Nat) (hN : 4096 ≤ N) : CtxOk Try.prog (c41 ieee N) := by
  refine ctxOk ?_ ?_ mixed ?_
  · intro p hp
    simp only [List.mem_cons, List.not_mem_nil, or_false] at hp
    rcases hp with rfl | rfl
    · exact tyOk22
    · exact tyOk28
  · intro p hp
    simp only [List.mem_cons, List.not_mem_nil, or_false] at hp
    subst hp; exact ok40 N hN
  · intro p hp; cases hp
noncomputable def m41_0 (o : FO) (p0 : o.S) (p1 : o.S) (p2 : o.S) (p3 : o.S) : Bool :=
  bif m40_0 o p0 p2 then
    m40_0 o p1 p3
  else
    false
theorem val41 (o : FO) (p0 : o.S) (p1 : o.S) (p2 : o.S) (p3 : o.S) : f41 o p0 p1 p2 p3 = some (.bool (m41_0 o p0 p1 p2 p3), []) := by
  unfold f41 m41_0
  try dsimp only
  cases (m40_0 o p0 p2)
  · rfl
  · cases (m40_0 o p1 p3)
    · rfl
    · rfl

noncomputable def e41 (o : FO) : List (AV o) → Tr (AV o)
  | [.agg [.f32 p0, .f32 p1], .agg [.f32 p2, .f32 p3]] => .leaf (.bool (m41_0 o p0 p1 p2 p3))
  | _ => .fail
theorem ok41 (N : Nat) (hN : 4096 ≤ N) : CalOk Try.prog 41 (.pure (e41 ieee)) := by
  refine calOk_pure (cok41 4096 (Nat.le_refl _)) (is41 4096) ?_
  intro args av hg
  unfold e41 at hg
  split at hg
  · cases hg
    exact ⟨rfl, rfl, _, (eq41 ieee 4096 _ _ _ _).trans (val41 ieee _ _ _ _)⟩
  · cases hg

/-! loop.example/g01224/impl.SameParcel -/
noncomputable def f14 (o : FO) (p0 : o.S) (p1 : o.S) (p2 : o.S) (p3 : o.S) (p4 : o.S) (p5 : o.S) : R o :=
  bif m40_0 o p0 p3 then
    bif m41_0 o p1 p2 p4 p5 then
      some (.bool true, [])
    else
      some (.bool false, [])
  else
    some (.bool false, [])
noncomputable def c14 (o : FO) (N : Nat) : Cx o :=
  { ty := tab [(22, ty22 o), (28, ty28 o), (30, ty30 o)]
    fn := tab [(40, .pure (e40 o)), (41, .pure (e41 o))]
    rounds := 4096, nt := 17, base := 0
    loops := [] }
noncomputable def b14 : Code := match Try.f14.body with | some b => b | none => .skip
theorem is14 (N : Nat) : FnIs Try.prog (c14 ieee N) 14 Try.f14 b14 := ⟨by kernel_rfl, by kernel_rfl, by kernel_rfl, by kernel_rfl⟩
theorem eq14 (o : FO) (N : Nat) (p0 : o.S) (p1 : o.S) (p2 : o.S) (p3 : o.S) (p4 : o.S) (p5 : o.S) : afun (c14 o N) Try.f14.results.toList b14 [.agg [.f32 p0, .f32 p1, .f32 p2], .agg [.f32 p3, .f32 p4, .f32 p5]] [] = f14 o p0 p1 p2 p3 p4 p5 := by kernel_rfl
theorem cok14 (N : Nat) (hN : 4096 ≤ N) : CtxOk Try.prog (c14 ieee N) := by
  refine ctxOk ?_ ?_ mixed ?_
  · intro p hp
    simp only [List.mem_cons, List.not_mem_nil, or_false] at hp
    rcases hp with rfl | rfl | rfl
    · exact tyOk22
    · exact tyOk28
    · exact tyOk30
  · intro p hp
    simp only [List.mem_cons, List.not_mem_nil, or_false] at hp
    rcases hp with rfl | rfl
    · exact ok40 N hN
    · exact ok41 N hN
  · intro p hp; cases hp
noncomputable def m14_0 (o : FO) (p0 : o.S) (p1 : o.S) (p2 : o.S) (p3 : o.S) (p4 : o.S) (p5 : o.S) : Bool :=
  bif m40_0 o p0 p3 then
    m41_0 o p1 p2 p4 p5
  else
    false
theorem val14 (o : FO) (p0 : o.S) (p1 : o.S) (p2 : o.S) (p3 : o.S) (p4 : o.S) (p5 : o.S) : f14 o p0 p1 p2 p3 p4 p5 = some (.bool (m14_0 o p0 p1 p2 p3 p4 p5), []) := by
  unfold f14 m14_0
  try dsimp only
  cases (m40_0 o p0 p3)
  · rfl
  · cases (m41_0 o p1 p2 p4 p5)
    · rfl
    · rfl

noncomputable def e14 (o : FO) : List (AV o) → Tr (AV o)
  | [.agg [.f32 p0, .f32 p1, .f32 p2], .agg [.f32 p3, .f32 p4, .f32 p5]] => .leaf (.bool (m14_0 o p0 p1 p2 p3 p4 p5))
  | _ => .fail
theorem ok14 (N : Nat) (hN : 4096 ≤ N) : CalOk Try.prog 14 (.pure (e14 ieee)) := by
  refine calOk_pure (cok14 4096 (Nat.le_refl _)) (is14 4096) ?_
  intro args av hg
  unfold e14 at hg
  split at hg
  · cases hg
    exact ⟨rfl, rfl, _, (eq14 ieee 4096 _ _ _ _ _ _).trans (val14 ieee _ _ _ _ _ _)⟩
  · cases hg

/-! loop.example/g01224/laws.FnExactSameParcel -/
noncomputable def f3 (o : FO) (p0 : o.S) (p1 : o.S) (p2 : o.S) (p3 : o.S) (p4 : o.S) (p5 : o.S) : R o :=
  bif !((m14_0 o p0 p1 p2 p3 p4 p5) == (m12_0 o p0 p1 p2 p3 p4 p5)) then
    some (.bool false, [])
  else
    some (.bool true, [])
noncomputable def c3 (o : FO) (N : Nat) : Cx o :=
  { ty := tab [(4, ty4 o), (26, ty26 o)]
    fn := tab [(12, .pure (e12 o)), (13, .pure (e13 o)), (14, .pure (e14 o))]
    rounds := 4096, nt := 20, base := 0
    loops := [] }
noncomputable def b3 : Code := match Try.f3.body with | some b => b | none => .skip
theorem is3 (N : Nat) : FnIs Try.prog (c3 ieee N) 3 Try.f3 b3 := ⟨by kernel_rfl, by kernel_rfl, by kernel_rfl, by kernel_rfl⟩
theorem eq3 (o : FO) (N : Nat) (p0 : o.S) (p1 : o.S) (p2 : o.S) (p3 : o.S) (p4 : o.S) (p5 : o.S) : afun (c3 o N) Try.f3.results.toList b3 [.agg [.f32 p0, .f32 p1, .f32 p2], .agg [.f32 p3, .f32 p4, .f32 p5]] [] = f3 o p0 p1 p2 p3 p4 p5 := by kernel_rfl
theorem cok3 (N : Nat) (hN : 4096 ≤ N) : CtxOk Try.prog (c3 ieee N) := by
  refine ctxOk ?_ ?_ mixed ?_
  · intro p hp
    simp only [List.mem_cons, List.not_mem_nil, or_false] at hp
    rcases hp with rfl | rfl
    · exact tyOk4
    · exact tyOk26
  · intro p hp
    simp only [List.mem_cons, List.not_mem_nil, or_false] at hp
    rcases hp with rfl | rfl | rfl
    · exact ok12 N hN
    · exact ok13 N hN
    · exact ok14 N hN
  · intro p hp; cases hp
noncomputable def m3_0 (o : FO) (p0 : o.S) (p1 : o.S) (p2 : o.S) (p3 : o.S) (p4 : o.S) (p5 : o.S) : Bool :=
  bif !((m14_0 o p0 p1 p2 p3 p4 p5) == (m12_0 o p0 p1 p2 p3 p4 p5)) then
    false
  else
    true
theorem val3 (o : FO) (p0 : o.S) (p1 : o.S) (p2 : o.S) (p3 : o.S) (p4 : o.S) (p5 : o.S) : f3 o p0 p1 p2 p3 p4 p5 = some (.bool (m3_0 o p0 p1 p2 p3 p4 p5), []) := by
  unfold f3 m3_0
  try dsimp only
  cases (!((m14_0 o p0 p1 p2 p3 p4 p5) == (m12_0 o p0 p1 p2 p3 p4 p5)))
  · rfl
  · rfl

noncomputable def e3 (o : FO) : List (AV o) → Tr (AV o)
  | [.agg [.f32 p0, .f32 p1, .f32 p2], .agg [.f32 p3, .f32 p4, .f32 p5]] => .leaf (.bool (m3_0 o p0 p1 p2 p3 p4 p5))
  | _ => .fail
theorem ok3 (N : Nat) (hN : 4096 ≤ N) : CalOk Try.prog 3 (.pure (e3 ieee)) := by
  refine calOk_pure (cok3 4096 (Nat.le_refl _)) (is3 4096) ?_
  intro args av hg
  unfold e3 at hg
  split at hg
  · cases hg
    exact ⟨rfl, rfl, _, (eq3 ieee 4096 _ _ _ _ _ _).trans (val3 ieee _ _ _ _ _ _)⟩
  · cases hg

/-! loop.example/g01224/spec.l01Finite -/
noncomputable def f81 (o : FO) (p0 : o.S) : R o :=
  some (.bool (o.seq (o.ssub p0 p0) (o.slit 0)), [])
noncomputable def c81 (o : FO) (N : Nat) : Cx o :=
  { ty := tab []
    fn := tab []
    rounds := 4096, nt := 7, base := 0
    loops := [] }
noncomputable def b81 : Code := match Try.f81.body with | some b => b | none => .skip
theorem is81 (N : Nat) : FnIs Try.prog (c81 ieee N) 81 Try.f81 b81 := ⟨by kernel_rfl, by kernel_rfl, by kernel_rfl, by kernel_rfl⟩
theorem eq81 (o : FO) (N : Nat) (p0 : o.S) : afun (c81 o N) Try.f81.results.toList b81 [.f32 p0] [] = f81 o p0 := by kernel_rfl
theorem cok81 (N : Nat) (hN : 4096 ≤ N) : CtxOk Try.prog (c81 ieee N) := by
  refine ctxOk ?_ ?_ mixed ?_
  · intro p hp; cases hp
  · intro p hp; cases hp
  · intro p hp; cases hp
noncomputable def m81_0 (o : FO) (p0 : o.S) : Bool :=
  o.seq (o.ssub p0 p0) (o.slit 0)
theorem val81 (o : FO) (p0 : o.S) : f81 o p0 = some (.bool (m81_0 o p0), []) := by
  unfold f81 m81_0
  rfl

noncomputable def e81 (o : FO) : List (AV o) → Tr (AV o)
  | [.f32 p0] => .leaf (.bool (m81_0 o p0))
  | _ => .fail
theorem ok81 (N : Nat) (hN : 4096 ≤ N) : CalOk Try.prog 81 (.pure (e81 ieee)) := by
  refine calOk_pure (cok81 4096 (Nat.le_refl _)) (is81 4096) ?_
  intro args av hg
  unfold e81 at hg
  split at hg
  · cases hg
    exact ⟨rfl, rfl, _, (eq81 ieee 4096 _).trans (val81 ieee _)⟩
  · cases hg

/-! loop.example/g01224/spec.l01Amount -/
noncomputable def f71 (o : FO) (p0 : o.S) : R o :=
  bif m81_0 o p0 then
    bif o.slt (o.slit 0) p0 then
      some (.bool true, [])
    else
      gd (o.seq p0 p0) (
      bif (o.sbits p0) == (0 : Int) then
        some (.bool true, [])
      else
        some (.bool false, []))
  else
    some (.bool false, [])
noncomputable def c71 (o : FO) (N : Nat) : Cx o :=
  { ty := tab []
    fn := tab [(68, .pure (e68 o)), (81, .pure (e81 o))]
    rounds := 4096, nt := 14, base := 0
    loops := [] }
noncomputable def b71 : Code := match Try.f71.body with | some b => b | none => .skip
theorem is71 (N : Nat) : FnIs Try.prog (c71 ieee N) 71 Try.f71 b71 := ⟨by kernel_rfl, by kernel_rfl, by kernel_rfl, by kernel_rfl⟩
theorem eq71 (o : FO) (N : Nat) (p0 : o.S) : afun (c71 o N) Try.f71.results.toList b71 [.f32 p0] [] = f71 o p0 := by kernel_rfl
theorem cok71 (N : Nat) (hN : 4096 ≤ N) : CtxOk Try.prog (c71 ieee N) := by
  refine ctxOk ?_ ?_ mixed ?_
  · intro p hp; cases hp
  · intro p hp
    simp only [List.mem_cons, List.not_mem_nil, or_false] at hp
    rcases hp with rfl | rfl
    · exact ok68 N hN
    · exact ok81 N hN
  · intro p hp; cases hp


theorem val71 (p0 : ieee.S) : f71 ieee p0 = some (.bool (amtS ieee p0), []) := by
  have e : f71 ieee p0 = (bif finS ieee p0 then (bif ieee.slt (ieee.slit 0) p0 then some (.bool true, []) else gd (ieee.seq p0 p0) (bif ieee.sbits p0 == 0 then some (.bool true, []) else some (.bool false, []))) else some (.bool false, [])) := rfl
  rw [e]
  unfold amtS
  have h := seq_of_fin p0
  revert h
  cases finS ieee p0
  · intro _; rfl
  · intro h
    rw [h rfl]
    cases ieee.slt (ieee.slit 0) p0
    · cases (ieee.sbits p0 == 0) <;> rfl
    · rfl

noncomputable def e71 (o : FO) : List (AV o) → Tr (AV o)
  | [.f32 p0] => .leaf (.bool (amtS o p0))
  | _ => .fail
theorem ok71 (N : Nat) (hN : 4096 ≤ N) : CalOk Try.prog 71 (.pure (e71 ieee)) := by
  refine calOk_pure (cok71 4096 (Nat.le_refl _)) (is71 4096) ?_
  intro args av hg
  unfold e71 at hg
  split at hg
  · cases hg
    exact ⟨rfl, rfl, _, (eq71 ieee 4096 _).trans (val71 _)⟩
  · cases hg

/-! loop.example/g01224/spec.l04Height -/
noncomputable def f45 (o : FO) (p0 : o.S) : R o :=
  bif amtS o p0 then
    bif o.sle p0 (o.slit 1106247680) then
      some (.bool true, [])
    else
      some (.bool false, [])
  else
    some (.bool false, [])
noncomputable def c45 (o : FO) (N : Nat) : Cx o :=
  { ty := tab []
    fn := tab [(71, .pure (e71 o))]
    rounds := 4096, nt := 9, base := 0
    loops := [] }
noncomputable def b45 : Code := match Try.f45.body with | some b => b | none => .skip
theorem is45 (N : Nat) : FnIs Try.prog (c45 ieee N) 45 Try.f45 b45 := ⟨by kernel_rfl, by kernel_rfl, by kernel_rfl, by kernel_rfl⟩
theorem eq45 (o : FO) (N : Nat) (p0 : o.S) : afun (c45 o N) Try.f45.results.toList b45 [.f32 p0] [] = f45 o p0 := by kernel_rfl
theorem cok45 (N : Nat) (hN : 4096 ≤ N) : CtxOk Try.prog (c45 ieee N) := by
  refine ctxOk ?_ ?_ mixed ?_
  · intro p hp; cases hp
  · intro p hp
    simp only [List.mem_cons, List.not_mem_nil, or_false] at hp
    subst hp; exact ok71 N hN
  · intro p hp; cases hp
noncomputable def m45_0 (o : FO) (p0 : o.S) : Bool :=
  bif amtS o p0 then
    o.sle p0 (o.slit 1106247680)
  else
    false
theorem val45 (o : FO) (p0 : o.S) : f45 o p0 = some (.bool (m45_0 o p0), []) := by
  unfold f45 m45_0
  try dsimp only
  cases (amtS o p0)
  · rfl
  · cases (o.sle p0 (o.slit 1106247680))
    · rfl
    · rfl

noncomputable def e45 (o : FO) : List (AV o) → Tr (AV o)
  | [.f32 p0] => .leaf (.bool (m45_0 o p0))
  | _ => .fail
theorem ok45 (N : Nat) (hN : 4096 ≤ N) : CalOk Try.prog 45 (.pure (e45 ieee)) := by
  refine calOk_pure (cok45 4096 (Nat.le_refl _)) (is45 4096) ?_
  intro args av hg
  unfold e45 at hg
  split at hg
  · cases hg
    exact ⟨rfl, rfl, _, (eq45 ieee 4096 _).trans (val45 ieee _)⟩
  · cases hg

/-! loop.example/g01224/spec.l02Heat -/
noncomputable def f74 (o : FO) (p0 : o.S) : R o :=
  bif o.sle (o.slit 3262119936) p0 then
    bif o.sle p0 (o.slit 1114636288) then
      some (.bool true, [])
    else
      some (.bool false, [])
  else
    some (.bool false, [])
noncomputable def c74 (o : FO) (N : Nat) : Cx o :=
  { ty := tab []
    fn := tab []
    rounds := 4096, nt := 9, base := 0
    loops := [] }
noncomputable def b74 : Code := match Try.f74.body with | some b => b | none => .skip
theorem is74 (N : Nat) : FnIs Try.prog (c74 ieee N) 74 Try.f74 b74 := ⟨by kernel_rfl, by kernel_rfl, by kernel_rfl, by kernel_rfl⟩
theorem eq74 (o : FO) (N : Nat) (p0 : o.S) : afun (c74 o N) Try.f74.results.toList b74 [.f32 p0] [] = f74 o p0 := by kernel_rfl
theorem cok74 (N : Nat) (hN : 4096 ≤ N) : CtxOk Try.prog (c74 ieee N) := by
  refine ctxOk ?_ ?_ mixed ?_
  · intro p hp; cases hp
  · intro p hp; cases hp
  · intro p hp; cases hp
noncomputable def m74_0 (o : FO) (p0 : o.S) : Bool :=
  bif o.sle (o.slit 3262119936) p0 then
    o.sle p0 (o.slit 1114636288)
  else
    false
theorem val74 (o : FO) (p0 : o.S) : f74 o p0 = some (.bool (m74_0 o p0), []) := by
  unfold f74 m74_0
  try dsimp only
  cases (o.sle (o.slit 3262119936) p0)
  · rfl
  · cases (o.sle p0 (o.slit 1114636288))
    · rfl
    · rfl

noncomputable def e74 (o : FO) : List (AV o) → Tr (AV o)
  | [.f32 p0] => .leaf (.bool (m74_0 o p0))
  | _ => .fail
theorem ok74 (N : Nat) (hN : 4096 ≤ N) : CalOk Try.prog 74 (.pure (e74 ieee)) := by
  refine calOk_pure (cok74 4096 (Nat.le_refl _)) (is74 4096) ?_
  intro args av hg
  unfold e74 at hg
  split at hg
  · cases hg
    exact ⟨rfl, rfl, _, (eq74 ieee 4096 _).trans (val74 ieee _)⟩
  · cases hg

/-! loop.example/g01224/spec.l02Ok -/
noncomputable def f52 (o : FO) (p0 : o.S) (p1 : o.S) (p2 : o.S) : R o :=
  bif m74_0 o p1 then
    bif amtS o p2 then
      bif o.sle p2 (o.slit 1148846080) then
        some (.bool true, [.live false true [.f32 p0, .f32 p1, .f32 p2]])
      else
        some (.bool false, [.live false true [.f32 p0, .f32 p1, .f32 p2]])
    else
      some (.bool false, [.live false true [.f32 p0, .f32 p1, .f32 p2]])
  else
    some (.bool false, [.live false true [.f32 p0, .f32 p1, .f32 p2]])
noncomputable def c52 (o : FO) (N : Nat) : Cx o :=
  { ty := tab [(22, ty22 o), (28, ty28 o)]
    fn := tab [(71, .pure (e71 o)), (74, .pure (e74 o))]
    rounds := 4096, nt := 22, base := 1
    loops := [] }
noncomputable def b52 : Code := match Try.f52.body with | some b => b | none => .skip
theorem is52 (N : Nat) : FnIs Try.prog (c52 ieee N) 52 Try.f52 b52 := ⟨by kernel_rfl, by kernel_rfl, by kernel_rfl, by kernel_rfl⟩
theorem eq52 (o : FO) (N : Nat) (p0 : o.S) (p1 : o.S) (p2 : o.S) : afun (c52 o N) Try.f52.results.toList b52 [.ptr 0 1] [.live false true [.f32 p0, .f32 p1, .f32 p2]] = f52 o p0 p1 p2 := by kernel_rfl
theorem cok52 (N : Nat) (hN : 4096 ≤ N) : CtxOk Try.prog (c52 ieee N) := by
  refine ctxOk ?_ ?_ mixed ?_
  · intro p hp
    simp only [List.mem_cons, List.not_mem_nil, or_false] at hp
    rcases hp with rfl | rfl
    · exact tyOk22
    · exact tyOk28
  · intro p hp
    simp only [List.mem_cons, List.not_mem_nil, or_false] at hp
    rcases hp with rfl | rfl
    · exact ok71 N hN
    · exact ok74 N hN
  · intro p hp; cases hp
noncomputable def m52_0 (o : FO) (p0 : o.S) (p1 : o.S) (p2 : o.S) : Bool :=
  bif m74_0 o p1 then
    bif amtS o p2 then
      o.sle p2 (o.slit 1148846080)
    else
      false
  else
    false
theorem val52 (o : FO) (p0 : o.S) (p1 : o.S) (p2 : o.S) : f52 o p0 p1 p2 = some (.bool (m52_0 o p0 p1 p2), [.live false true [.f32 p0, .f32 p1, .f32 p2]]) := by
  unfold f52 m52_0
  try dsimp only
  cases (m74_0 o p1)
  · rfl
  · cases (amtS o p2)
    · rfl
    · cases (o.sle p2 (o.slit 1148846080))
      · rfl
      · rfl

noncomputable def e52 (o : FO) : List (AV o) → Heap o → Tr (AV o)
  | [.ptr 0 1], [.live _ true [.f32 p0, .f32 p1, .f32 p2]] => .leaf (.bool (m52_0 o p0 p1 p2))
  | _, _ => .fail
theorem ok52 (N : Nat) (hN : 4096 ≤ N) : CalOk Try.prog 52 (.ro (e52 ieee)) := by
  refine calOk_ro (cok52 4096 (Nat.le_refl _)) (is52 4096) ?_
  intro args h av hg
  unfold e52 at hg
  split at hg
  · cases hg
    exact ⟨rfl, _, (eq52 ieee 4096 _ _ _).trans (val52 ieee _ _ _)⟩
  · cases hg

/-! loop.example/g01224/spec.l04Ok -/
noncomputable def f42 (o : FO) (p0 : o.S) (p1 : o.S) (p2 : o.S) : R o :=
  bif m45_0 o p0 then
    bif m52_0 o p0 p1 p2 then
      some (.bool true, [.live false true [.f32 p0, .f32 p1, .f32 p2]])
    else
      some (.bool false, [.live false true [.f32 p0, .f32 p1, .f32 p2]])
  else
    some (.bool false, [.live false true [.f32 p0, .f32 p1, .f32 p2]])
noncomputable def c42 (o : FO) (N : Nat) : Cx o :=
  { ty := tab [(22, ty22 o), (28, ty28 o), (30, ty30 o)]
    fn := tab [(45, .pure (e45 o)), (52, .ro (e52 o))]
    rounds := 4096, nt := 14, base := 1
    loops := [] }
noncomputable def b42 : Code := match Try.f42.body with | some b => b | none => .skip
theorem is42 (N : Nat) : FnIs Try.prog (c42 ieee N) 42 Try.f42 b42 := ⟨by kernel_rfl, by kernel_rfl, by kernel_rfl, by kernel_rfl⟩
theorem eq42 (o : FO) (N : Nat) (p0 : o.S) (p1 : o.S) (p2 : o.S) : afun (c42 o N) Try.f42.results.toList b42 [.ptr 0 0] [.live false true [.f32 p0, .f32 p1, .f32 p2]] = f42 o p0 p1 p2 := by kernel_rfl
theorem cok42 (N : Nat) (hN : 4096 ≤ N) : CtxOk Try.prog (c42 ieee N) := by
  refine ctxOk ?_ ?_ mixed ?_
  · intro p hp
    simp only [List.mem_cons, List.not_mem_nil, or_false] at hp
    rcases hp with rfl | rfl | rfl
    · exact tyOk22
    · exact tyOk28
    · exact tyOk30
  · intro p hp
    simp only [List.mem_cons, List.not_mem_nil, or_false] at hp
    rcases hp with rfl | rfl
    · exact ok45 N hN
    · exact ok52 N hN
  · intro p hp; cases hp
noncomputable def m42_0 (o : FO) (p0 : o.S) (p1 : o.S) (p2 : o.S) : Bool :=
  bif m45_0 o p0 then
    m52_0 o p0 p1 p2
  else
    false
theorem val42 (o : FO) (p0 : o.S) (p1 : o.S) (p2 : o.S) : f42 o p0 p1 p2 = some (.bool (m42_0 o p0 p1 p2), [.live false true [.f32 p0, .f32 p1, .f32 p2]]) := by
  unfold f42 m42_0
  try dsimp only
  cases (m45_0 o p0)
  · rfl
  · cases (m52_0 o p0 p1 p2)
    · rfl
    · rfl

noncomputable def e42 (o : FO) : List (AV o) → Heap o → Tr (AV o)
  | [.ptr 0 0], [.live _ true [.f32 p0, .f32 p1, .f32 p2]] => .leaf (.bool (m42_0 o p0 p1 p2))
  | _, _ => .fail
theorem ok42 (N : Nat) (hN : 4096 ≤ N) : CalOk Try.prog 42 (.ro (e42 ieee)) := by
  refine calOk_ro (cok42 4096 (Nat.le_refl _)) (is42 4096) ?_
  intro args h av hg
  unfold e42 at hg
  split at hg
  · cases hg
    exact ⟨rfl, _, (eq42 ieee 4096 _ _ _).trans (val42 ieee _ _ _)⟩
  · cases hg

/-! loop.example/g01224/spec.ValidParcel -/
noncomputable def f15 (o : FO) (p0 : o.S) (p1 : o.S) (p2 : o.S) : R o :=
  some (.bool (m42_0 o p0 p1 p2), [])
noncomputable def c15 (o : FO) (N : Nat) : Cx o :=
  { ty := tab [(30, ty30 o)]
    fn := tab [(42, .ro (e42 o))]
    rounds := 4096, nt := 4, base := 0
    loops := [] }
noncomputable def b15 : Code := match Try.f15.body with | some b => b | none => .skip
theorem is15 (N : Nat) : FnIs Try.prog (c15 ieee N) 15 Try.f15 b15 := ⟨by kernel_rfl, by kernel_rfl, by kernel_rfl, by kernel_rfl⟩
theorem eq15 (o : FO) (N : Nat) (p0 : o.S) (p1 : o.S) (p2 : o.S) : afun (c15 o N) Try.f15.results.toList b15 [.agg [.f32 p0, .f32 p1, .f32 p2]] [] = f15 o p0 p1 p2 := by kernel_rfl
theorem cok15 (N : Nat) (hN : 4096 ≤ N) : CtxOk Try.prog (c15 ieee N) := by
  refine ctxOk ?_ ?_ mixed ?_
  · intro p hp
    simp only [List.mem_cons, List.not_mem_nil, or_false] at hp
    subst hp; exact tyOk30
  · intro p hp
    simp only [List.mem_cons, List.not_mem_nil, or_false] at hp
    subst hp; exact ok42 N hN
  · intro p hp; cases hp
noncomputable def m15_0 (o : FO) (p0 : o.S) (p1 : o.S) (p2 : o.S) : Bool :=
  m42_0 o p0 p1 p2
theorem val15 (o : FO) (p0 : o.S) (p1 : o.S) (p2 : o.S) : f15 o p0 p1 p2 = some (.bool (m15_0 o p0 p1 p2), []) := by
  unfold f15 m15_0
  rfl

noncomputable def e15 (o : FO) : List (AV o) → Tr (AV o)
  | [.agg [.f32 p0, .f32 p1, .f32 p2]] => .leaf (.bool (m15_0 o p0 p1 p2))
  | _ => .fail
theorem ok15 (N : Nat) (hN : 4096 ≤ N) : CalOk Try.prog 15 (.pure (e15 ieee)) := by
  refine calOk_pure (cok15 4096 (Nat.le_refl _)) (is15 4096) ?_
  intro args av hg
  unfold e15 at hg
  split at hg
  · cases hg
    exact ⟨rfl, rfl, _, (eq15 ieee 4096 _ _ _).trans (val15 ieee _ _ _)⟩
  · cases hg

/-! loop.example/g01224/impl.isFinite -/
noncomputable def f79_L0 (o : FO) (N : Nat) (s0 : Nat × Nat × Int × Int × List (AV o) → R o) (a : Nat × Nat × Int × Int × List (AV o)) : R o :=
  bif decide (a.2.2.2.1 < a.2.2.1) then
    gd (decide (0 ≤ a.2.2.2.1) && decide (a.2.2.2.1 < ((a.2.1 : Nat) : Int))) (
    rdS a.2.2.2.2 (a.1 + (((a.2.2.2.1).toNat) * 1)) fun x1 =>
    bif !(o.seq (o.ssub x1 x1) (o.slit 0)) then
      some (.bool false, [.live false true a.2.2.2.2])
    else
      s0 (a.1, a.2.1, a.2.2.1, IntKind.wrap .i64 (a.2.2.2.1 + (1 : Int)), a.2.2.2.2))
  else
    some (.bool true, [.live false true a.2.2.2.2])
noncomputable def f79_D0 (o : FO) (vs : List (AV o)) (h : Heap o) : Option (Nat × Nat × Int × Int × List (AV o)) :=
  match vs, h with
  | [.slice 0 a0_0 a0_1 1, .int .i64 a0_2, .int .i64 a0_3], [.live false true a0_4] => some (a0_0, a0_1, a0_2, a0_3, a0_4)
  | _, _ => none
noncomputable def f79_E0 (o : FO) (a : Nat × Nat × Int × Int × List (AV o)) : List (AV o) × Heap o := ([.slice 0 a.1 a.2.1 1, .int .i64 a.2.2.1, .int .i64 a.2.2.2.1], [.live false true a.2.2.2.2])
theorem f79_DE0 (o : FO) : ∀ vs h a, f79_D0 o vs h = some a → f79_E0 o a = (vs, h) := by
  intro vs h a hx
  unfold f79_D0 at hx
  split at hx
  · cases hx; rfl
  · cases hx
noncomputable def f79 (o : FO) (N : Nat) (p0 : Nat) (p1 : Nat) (p2 : List (AV o)) : R o :=
  iter (f79_L0 o N) N (p0, p1, ((p1 : Nat) : Int), (0 : Int), p2)
noncomputable def c79 (o : FO) (N : Nat) : Cx o :=
  { ty := tab [(22, ty22 o), (99, ty99 o)]
    fn := tab []
    rounds := N, nt := 16, base := 1
    loops := [loopD [5, 6, 7] (f79_D0 o) (f79_E0 o)] }
noncomputable def b79 : Code := match Try.f79.body with | some b => b | none => .skip
theorem is79 (N : Nat) : FnIs Try.prog (c79 ieee N) 79 Try.f79 b79 := ⟨by kernel_rfl, by kernel_rfl, by kernel_rfl, by kernel_rfl⟩
theorem eq79 (o : FO) (N : Nat) (p0 : Nat) (p1 : Nat) (p2 : List (AV o)) : afun (c79 o N) Try.f79.results.toList b79 [.slice 0 p0 p1 1] [.live false true p2] = f79 o N p0 p1 p2 := by kernel_rfl
theorem cok79 (N : Nat) (hN : 4096 ≤ N) : CtxOk Try.prog (c79 ieee N) := by
  refine ctxOk ?_ ?_ mixed ?_
  · intro p hp
    simp only [List.mem_cons, List.not_mem_nil, or_false] at hp
    rcases hp with rfl | rfl
    · exact tyOk22
    · exact tyOk99
  · intro p hp; cases hp
  · intro p hp
    simp only [List.mem_cons, List.not_mem_nil, or_false] at hp
    subst hp; exact loopD_ok _ _ _ (f79_DE0 ieee)


theorem step79 (o : FO) (off n i : Nat) (cs : List (AV o)) (h : segF cs off n = true) (hi : i ≤ n) (s0 : Nat × Nat × Int × Int × List (AV o) → R o) :
    (∃ x, ((cs.drop off).take n)[i]? = some (.f32 x) ∧ f79_L0 o 4096 s0 (off, n, ((n : Nat) : Int), (i : Int), cs) = bif finS o x then s0 (off, n, ((n : Nat) : Int), ((i + 1 : Nat) : Int), cs) else some (.bool false, [.live false true cs])) ∨
    (i = n ∧ f79_L0 o 4096 s0 (off, n, ((n : Nat) : Int), (i : Int), cs) = some (.bool true, [.live false true cs])) := by
  have hn : n ≤ 4000 := by
    unfold segF at h
    simp only [Bool.and_eq_true] at h
    exact Nat.le_of_ble_eq_true h.1
  unfold f79_L0
  dsimp only
  by_cases hlt : i < n
  · obtain ⟨x, hx1, hx2⟩ := segF_get h hlt
    refine .inl ⟨x, hx2, ?_⟩
    have e1 : decide ((i : Int) < (n : Int)) = true := by simp [hlt]
    have e2 : decide (0 ≤ (i : Int)) = true := by simp
    rw [e1, e2, cond_true, Bool.and_true, gd_true, rdS_of (x := x) (by simpa using hx1), wrap64 (by omega) (by omega)]
    show _ = bif o.seq (o.ssub x x) (o.slit 0) then _ else _
    cases o.seq (o.ssub x x) (o.slit 0) <;> rfl
  · have e1 : decide ((i : Int) < (n : Int)) = false := by simp [hlt]
    refine .inr ⟨by omega, ?_⟩
    rw [e1, cond_false]
theorem loop79 (o : FO) (off n : Nat) (cs : List (AV o)) (h : segF cs off n = true) : ∀ (M i : Nat), i ≤ n → n - i < M →
    iter (f79_L0 o 4096) M (off, n, ((n : Nat) : Int), (i : Int), cs) = some (.bool ((((cs.drop off).take n).drop i).all finC), [.live false true cs]) := by
  intro M
  induction M with
  | zero => intro i _ h2; omega
  | succ M ih =>
    intro i h1 h2
    rw [iter_succ]
    rcases step79 o off n i cs h h1 (iter (f79_L0 o 4096) M) with ⟨x, hx, e⟩ | ⟨hi, e⟩
    · obtain ⟨hlt, he⟩ := List.getElem?_eq_some_iff.1 hx
      have hin : i < n := by have := hlt; simp only [List.length_take] at this; omega
      rw [e, ih (i + 1) (by omega) (by omega), List.drop_eq_getElem_cons hlt, he, List.all_cons]
      show _ = some ((AV.bool (finS o x && _) : AV o), _)
      cases finS o x <;> rfl
    · subst hi
      have hnil : ((cs.drop off).take i).drop i = [] := List.drop_eq_nil_of_le (by simp; omega)
      rw [e, hnil]
      rfl
theorem val79 (o : FO) (p0 p1 : Nat) (p2 : List (AV o)) (h : segF p2 p0 p1 = true) : f79 o 4096 p0 p1 p2 = some (.bool (finSeg p2 p0 p1), [.live false true p2]) := by
  have hn : p1 ≤ 4000 := by
    unfold segF at h
    simp only [Bool.and_eq_true] at h
    exact Nat.le_of_ble_eq_true h.1
  have := loop79 o p0 p1 p2 h 4096 0 (by omega) (by omega)
  rw [List.drop_zero] at this
  exact this

noncomputable def e79 (o : FO) : List (AV o) → Heap o → Tr (AV o)
  | [.slice 0 p0 p1 1], [.live _ true p2] => .br (segF p2 p0 p1) (.leaf (.bool (finSeg p2 p0 p1))) .fail
  | _, _ => .fail
theorem ok79 (N : Nat) (hN : 4096 ≤ N) : CalOk Try.prog 79 (.ro (e79 ieee)) := by
  refine calOk_ro (cok79 4096 (Nat.le_refl _)) (is79 4096) ?_
  intro args h av hg
  unfold e79 at hg
  split at hg
  · obtain ⟨h0, hg⟩ := br_get hg
    cases hg
    exact ⟨rfl, _, (eq79 ieee 4096 _ _ _).trans (val79 ieee _ _ _ h0)⟩
  · cases hg

/-! loop.example/g01224/impl.isAmount -/
noncomputable def f69 (o : FO) (p0 : o.S) : R o :=
  gd (segF [.f32 p0] 0 1) (
  bif finSeg [.f32 p0] 0 1 then
    bif o.sle (o.slit 0) p0 then
      gd (o.seq p0 p0) (
      bif (o.sbits p0) != (2147483648 : Int) then
        some (.bool true, [])
      else
        some (.bool false, []))
    else
      some (.bool false, [])
  else
    some (.bool false, []))
noncomputable def c69 (o : FO) (N : Nat) : Cx o :=
  { ty := tab [(22, ty22 o), (99, ty99 o)]
    fn := tab [(68, .pure (e68 o)), (79, .ro (e79 o))]
    rounds := 4096, nt := 15, base := 0
    loops := [] }
noncomputable def b69 : Code := match Try.f69.body with | some b => b | none => .skip
theorem is69 (N : Nat) : FnIs Try.prog (c69 ieee N) 69 Try.f69 b69 := ⟨by kernel_rfl, by kernel_rfl, by kernel_rfl, by kernel_rfl⟩
theorem eq69 (o : FO) (N : Nat) (p0 : o.S) : afun (c69 o N) Try.f69.results.toList b69 [.f32 p0] [] = f69 o p0 := by kernel_rfl
theorem cok69 (N : Nat) (hN : 4096 ≤ N) : CtxOk Try.prog (c69 ieee N) := by
  refine ctxOk ?_ ?_ mixed ?_
  · intro p hp
    simp only [List.mem_cons, List.not_mem_nil, or_false] at hp
    rcases hp with rfl | rfl
    · exact tyOk22
    · exact tyOk99
  · intro p hp
    simp only [List.mem_cons, List.not_mem_nil, or_false] at hp
    rcases hp with rfl | rfl
    · exact ok68 N hN
    · exact ok79 N hN
  · intro p hp; cases hp


theorem val69 (p0 : ieee.S) : f69 ieee p0 = some (.bool (amtS ieee p0), []) := by
  have e : f69 ieee p0 = (bif (finS ieee p0 && true) then (bif ieee.sle (ieee.slit 0) p0 then gd (ieee.seq p0 p0) (bif ieee.sbits p0 != 2147483648 then some (.bool true, []) else some (.bool false, [])) else some (.bool false, [])) else some (.bool false, [])) := rfl
  rw [e, Bool.and_true, amtS_alt]
  have h := seq_of_fin p0
  revert h
  cases finS ieee p0
  · intro _; rfl
  · intro h
    rw [h rfl]
    cases ieee.sle (ieee.slit 0) p0
    · rfl
    · cases (ieee.sbits p0 != 2147483648) <;> rfl

noncomputable def e69 (o : FO) : List (AV o) → Tr (AV o)
  | [.f32 p0] => .leaf (.bool (amtS o p0))
  | _ => .fail
theorem ok69 (N : Nat) (hN : 4096 ≤ N) : CalOk Try.prog 69 (.pure (e69 ieee)) := by
  refine calOk_pure (cok69 4096 (Nat.le_refl _)) (is69 4096) ?_
  intro args av hg
  unfold e69 at hg
  split at hg
  · cases hg
    exact ⟨rfl, rfl, _, (eq69 ieee 4096 _).trans (val69 _)⟩
  · cases hg

/-! loop.example/g01224/impl.isHeight -/
noncomputable def f43 (o : FO) (p0 : o.S) : R o :=
  bif amtS o p0 then
    bif o.sle p0 (o.slit 1106247680) then
      some (.bool true, [])
    else
      some (.bool false, [])
  else
    some (.bool false, [])
noncomputable def c43 (o : FO) (N : Nat) : Cx o :=
  { ty := tab []
    fn := tab [(69, .pure (e69 o))]
    rounds := 4096, nt := 9, base := 0
    loops := [] }
noncomputable def b43 : Code := match Try.f43.body with | some b => b | none => .skip
theorem is43 (N : Nat) : FnIs Try.prog (c43 ieee N) 43 Try.f43 b43 := ⟨by kernel_rfl, by kernel_rfl, by kernel_rfl, by kernel_rfl⟩
theorem eq43 (o : FO) (N : Nat) (p0 : o.S) : afun (c43 o N) Try.f43.results.toList b43 [.f32 p0] [] = f43 o p0 := by kernel_rfl
theorem cok43 (N : Nat) (hN : 4096 ≤ N) : CtxOk Try.prog (c43 ieee N) := by
  refine ctxOk ?_ ?_ mixed ?_
  · intro p hp; cases hp
  · intro p hp
    simp only [List.mem_cons, List.not_mem_nil, or_false] at hp
    subst hp; exact ok69 N hN
  · intro p hp; cases hp
noncomputable def m43_0 (o : FO) (p0 : o.S) : Bool :=
  bif amtS o p0 then
    o.sle p0 (o.slit 1106247680)
  else
    false
theorem val43 (o : FO) (p0 : o.S) : f43 o p0 = some (.bool (m43_0 o p0), []) := by
  unfold f43 m43_0
  try dsimp only
  cases (amtS o p0)
  · rfl
  · cases (o.sle p0 (o.slit 1106247680))
    · rfl
    · rfl

noncomputable def e43 (o : FO) : List (AV o) → Tr (AV o)
  | [.f32 p0] => .leaf (.bool (m43_0 o p0))
  | _ => .fail
theorem ok43 (N : Nat) (hN : 4096 ≤ N) : CalOk Try.prog 43 (.pure (e43 ieee)) := by
  refine calOk_pure (cok43 4096 (Nat.le_refl _)) (is43 4096) ?_
  intro args av hg
  unfold e43 at hg
  split at hg
  · cases hg
    exact ⟨rfl, rfl, _, (eq43 ieee 4096 _).trans (val43 ieee _)⟩
  · cases hg

/-! loop.example/g01224/impl.isHeat -/
noncomputable def f70 (o : FO) (p0 : o.S) : R o :=
  bif o.sle (o.slit 3262119936) p0 then
    bif o.sle p0 (o.slit 1114636288) then
      some (.bool true, [])
    else
      some (.bool false, [])
  else
    some (.bool false, [])
noncomputable def c70 (o : FO) (N : Nat) : Cx o :=
  { ty := tab []
    fn := tab []
    rounds := 4096, nt := 9, base := 0
    loops := [] }
noncomputable def b70 : Code := match Try.f70.body with | some b => b | none => .skip
theorem is70 (N : Nat) : FnIs Try.prog (c70 ieee N) 70 Try.f70 b70 := ⟨by kernel_rfl, by kernel_rfl, by kernel_rfl, by kernel_rfl⟩
theorem eq70 (o : FO) (N : Nat) (p0 : o.S) : afun (c70 o N) Try.f70.results.toList b70 [.f32 p0] [] = f70 o p0 := by kernel_rfl
theorem cok70 (N : Nat) (hN : 4096 ≤ N) : CtxOk Try.prog (c70 ieee N) := by
  refine ctxOk ?_ ?_ mixed ?_
  · intro p hp; cases hp
  · intro p hp; cases hp
  · intro p hp; cases hp
noncomputable def m70_0 (o : FO) (p0 : o.S) : Bool :=
  bif o.sle (o.slit 3262119936) p0 then
    o.sle p0 (o.slit 1114636288)
  else
    false
theorem val70 (o : FO) (p0 : o.S) : f70 o p0 = some (.bool (m70_0 o p0), []) := by
  unfold f70 m70_0
  try dsimp only
  cases (o.sle (o.slit 3262119936) p0)
  · rfl
  · cases (o.sle p0 (o.slit 1114636288))
    · rfl
    · rfl

noncomputable def e70 (o : FO) : List (AV o) → Tr (AV o)
  | [.f32 p0] => .leaf (.bool (m70_0 o p0))
  | _ => .fail
theorem ok70 (N : Nat) (hN : 4096 ≤ N) : CalOk Try.prog 70 (.pure (e70 ieee)) := by
  refine calOk_pure (cok70 4096 (Nat.le_refl _)) (is70 4096) ?_
  intro args av hg
  unfold e70 at hg
  split at hg
  · cases hg
    exact ⟨rfl, rfl, _, (eq70 ieee 4096 _).trans (val70 ieee _)⟩
  · cases hg

/-! loop.example/g01224/impl.ValidAir -/
noncomputable def f44 (o : FO) (p0 : o.S) (p1 : o.S) : R o :=
  bif m70_0 o p0 then
    bif amtS o p1 then
      bif o.sle p1 (o.slit 1148846080) then
        some (.bool true, [])
      else
        some (.bool false, [])
    else
      some (.bool false, [])
  else
    some (.bool false, [])
noncomputable def c44 (o : FO) (N : Nat) : Cx o :=
  { ty := tab [(22, ty22 o), (28, ty28 o)]
    fn := tab [(69, .pure (e69 o)), (70, .pure (e70 o))]
    rounds := 4096, nt := 16, base := 0
    loops := [] }
noncomputable def b44 : Code := match Try.f44.body with | some b => b | none => .skip
theorem is44 (N : Nat) : FnIs Try.prog (c44 ieee N) 44 Try.f44 b44 := ⟨by kernel_rfl, by kernel_rfl, by kernel_rfl, by kernel_rfl⟩
theorem eq44 (o : FO) (N : Nat) (p0 : o.S) (p1 : o.S) : afun (c44 o N) Try.f44.results.toList b44 [.agg [.f32 p0, .f32 p1]] [] = f44 o p0 p1 := by kernel_rfl
theorem cok44 (N : Nat) (hN : 4096 ≤ N) : CtxOk Try.prog (c44 ieee N) := by
  refine ctxOk ?_ ?_ mixed ?_
  · intro p hp
    simp only [List.mem_cons, List.not_mem_nil, or_false] at hp
    rcases hp with rfl | rfl
    · exact tyOk22
    · exact tyOk28
  · intro p hp
    simp only [List.mem_cons, List.not_mem_nil, or_false] at hp
    rcases hp with rfl | rfl
    · exact ok69 N hN
    · exact ok70 N hN
  · intro p hp; cases hp
noncomputable def m44_0 (o : FO) (p0 : o.S) (p1 : o.S) : Bool :=
  bif m70_0 o p0 then
    bif amtS o p1 then
      o.sle p1 (o.slit 1148846080)
    else
      false
  else
    false
theorem val44 (o : FO) (p0 : o.S) (p1 : o.S) : f44 o p0 p1 = some (.bool (m44_0 o p0 p1), []) := by
  unfold f44 m44_0
  try dsimp only
  cases (m70_0 o p0)
  · rfl
  · cases (amtS o p1)
    · rfl
    · cases (o.sle p1 (o.slit 1148846080))
      · rfl
      · rfl

noncomputable def e44 (o : FO) : List (AV o) → Tr (AV o)
  | [.agg [.f32 p0, .f32 p1]] => .leaf (.bool (m44_0 o p0 p1))
  | _ => .fail
theorem ok44 (N : Nat) (hN : 4096 ≤ N) : CalOk Try.prog 44 (.pure (e44 ieee)) := by
  refine calOk_pure (cok44 4096 (Nat.le_refl _)) (is44 4096) ?_
  intro args av hg
  unfold e44 at hg
  split at hg
  · cases hg
    exact ⟨rfl, rfl, _, (eq44 ieee 4096 _ _).trans (val44 ieee _ _)⟩
  · cases hg

/-! loop.example/g01224/impl.ValidParcel -/
noncomputable def f16 (o : FO) (p0 : o.S) (p1 : o.S) (p2 : o.S) : R o :=
  bif m43_0 o p0 then
    bif m44_0 o p1 p2 then
      some (.bool true, [])
    else
      some (.bool false, [])
  else
    some (.bool false, [])
noncomputable def c16 (o : FO) (N : Nat) : Cx o :=
  { ty := tab [(22, ty22 o), (28, ty28 o), (30, ty30 o)]
    fn := tab [(43, .pure (e43 o)), (44, .pure (e44 o))]
    rounds := 4096, nt := 11, base := 0
    loops := [] }
noncomputable def b16 : Code := match Try.f16.body with | some b => b | none => .skip
theorem is16 (N : Nat) : FnIs Try.prog (c16 ieee N) 16 Try.f16 b16 := ⟨by kernel_rfl, by kernel_rfl, by kernel_rfl, by kernel_rfl⟩
theorem eq16 (o : FO) (N : Nat) (p0 : o.S) (p1 : o.S) (p2 : o.S) : afun (c16 o N) Try.f16.results.toList b16 [.agg [.f32 p0, .f32 p1, .f32 p2]] [] = f16 o p0 p1 p2 := by kernel_rfl
theorem cok16 (N : Nat) (hN : 4096 ≤ N) : CtxOk Try.prog (c16 ieee N) := by
  refine ctxOk ?_ ?_ mixed ?_
  · intro p hp
    simp only [List.mem_cons, List.not_mem_nil, or_false] at hp
    rcases hp with rfl | rfl | rfl
    · exact tyOk22
    · exact tyOk28
    · exact tyOk30
  · intro p hp
    simp only [List.mem_cons, List.not_mem_nil, or_false] at hp
    rcases hp with rfl | rfl
    · exact ok43 N hN
    · exact ok44 N hN
  · intro p hp; cases hp
noncomputable def m16_0 (o : FO) (p0 : o.S) (p1 : o.S) (p2 : o.S) : Bool :=
  bif m43_0 o p0 then
    m44_0 o p1 p2
  else
    false
theorem val16 (o : FO) (p0 : o.S) (p1 : o.S) (p2 : o.S) : f16 o p0 p1 p2 = some (.bool (m16_0 o p0 p1 p2), []) := by
  unfold f16 m16_0
  try dsimp only
  cases (m43_0 o p0)
  · rfl
  · cases (m44_0 o p1 p2)
    · rfl
    · rfl

noncomputable def e16 (o : FO) : List (AV o) → Tr (AV o)
  | [.agg [.f32 p0, .f32 p1, .f32 p2]] => .leaf (.bool (m16_0 o p0 p1 p2))
  | _ => .fail
theorem ok16 (N : Nat) (hN : 4096 ≤ N) : CalOk Try.prog 16 (.pure (e16 ieee)) := by
  refine calOk_pure (cok16 4096 (Nat.le_refl _)) (is16 4096) ?_
  intro args av hg
  unfold e16 at hg
  split at hg
  · cases hg
    exact ⟨rfl, rfl, _, (eq16 ieee 4096 _ _ _).trans (val16 ieee _ _ _)⟩
  · cases hg

/-! loop.example/g01224/laws.FnExactValidParcel -/
noncomputable def f4 (o : FO) (p0 : o.S) (p1 : o.S) (p2 : o.S) : R o :=
  bif !((m16_0 o p0 p1 p2) == (m15_0 o p0 p1 p2)) then
    some (.bool false, [])
  else
    some (.bool true, [])
noncomputable def c4 (o : FO) (N : Nat) : Cx o :=
  { ty := tab [(4, ty4 o), (26, ty26 o)]
    fn := tab [(13, .pure (e13 o)), (15, .pure (e15 o)), (16, .pure (e16 o))]
    rounds := 4096, nt := 14, base := 0
    loops := [] }
noncomputable def b4 : Code := match Try.f4.body with | some b => b | none => .skip
theorem is4 (N : Nat) : FnIs Try.prog (c4 ieee N) 4 Try.f4 b4 := ⟨by kernel_rfl, by kernel_rfl, by kernel_rfl, by kernel_rfl⟩
theorem eq4 (o : FO) (N : Nat) (p0 : o.S) (p1 : o.S) (p2 : o.S) : afun (c4 o N) Try.f4.results.toList b4 [.agg [.f32 p0, .f32 p1, .f32 p2]] [] = f4 o p0 p1 p2 := by kernel_rfl
theorem cok4 (N : Nat) (hN : 4096 ≤ N) : CtxOk Try.prog (c4 ieee N) := by
  refine ctxOk ?_ ?_ mixed ?_
  · intro p hp
    simp only [List.mem_cons, List.not_mem_nil, or_false] at hp
    rcases hp with rfl | rfl
    · exact tyOk4
    · exact tyOk26
  · intro p hp
    simp only [List.mem_cons, List.not_mem_nil, or_false] at hp
    rcases hp with rfl | rfl | rfl
    · exact ok13 N hN
    · exact ok15 N hN
    · exact ok16 N hN
  · intro p hp; cases hp
noncomputable def m4_0 (o : FO) (p0 : o.S) (p1 : o.S) (p2 : o.S) : Bool :=
  bif !((m16_0 o p0 p1 p2) == (m15_0 o p0 p1 p2)) then
    false
  else
    true
theorem val4 (o : FO) (p0 : o.S) (p1 : o.S) (p2 : o.S) : f4 o p0 p1 p2 = some (.bool (m4_0 o p0 p1 p2), []) := by
  unfold f4 m4_0
  try dsimp only
  cases (!((m16_0 o p0 p1 p2) == (m15_0 o p0 p1 p2)))
  · rfl
  · rfl

noncomputable def e4 (o : FO) : List (AV o) → Tr (AV o)
  | [.agg [.f32 p0, .f32 p1, .f32 p2]] => .leaf (.bool (m4_0 o p0 p1 p2))
  | _ => .fail
theorem ok4 (N : Nat) (hN : 4096 ≤ N) : CalOk Try.prog 4 (.pure (e4 ieee)) := by
  refine calOk_pure (cok4 4096 (Nat.le_refl _)) (is4 4096) ?_
  intro args av hg
  unfold e4 at hg
  split at hg
  · cases hg
    exact ⟨rfl, rfl, _, (eq4 ieee 4096 _ _ _).trans (val4 ieee _ _ _)⟩
  · cases hg

/-! loop.example/g01224/spec.l04Raise -/
noncomputable def f46 (o : FO) (p0 : o.S) (p1 : o.S) (p2 : o.S) (p3 : o.S) : R o :=
  let v1 : o.S := o.smul (o.slit 1092616192) (o.ssub p3 p0)
  let v2 : o.S := o.ssub p1 v1
  bif !(m52_0 o p3 v2 p2) then
    some (.tup [.agg [.f32 (o.slit 0), .f32 (o.slit 0), .f32 (o.slit 0)], .int .i64 (4 : Int)], [])
  else
    some (.tup [.agg [.f32 p3, .f32 v2, .f32 p2], .int .i64 (0 : Int)], [])
noncomputable def c46 (o : FO) (N : Nat) : Cx o :=
  { ty := tab [(22, ty22 o), (28, ty28 o), (30, ty30 o)]
    fn := tab [(52, .ro (e52 o))]
    rounds := 4096, nt := 24, base := 0
    loops := [] }
noncomputable def b46 : Code := match Try.f46.body with | some b => b | none => .skip
theorem is46 (N : Nat) : FnIs Try.prog (c46 ieee N) 46 Try.f46 b46 := ⟨by kernel_rfl, by kernel_rfl, by kernel_rfl, by kernel_rfl⟩
theorem eq46 (o : FO) (N : Nat) (p0 : o.S) (p1 : o.S) (p2 : o.S) (p3 : o.S) : afun (c46 o N) Try.f46.results.toList b46 [.agg [.f32 p0, .f32 p1, .f32 p2], .f32 p3] [] = f46 o p0 p1 p2 p3 := by kernel_rfl
theorem cok46 (N : Nat) (hN : 4096 ≤ N) : CtxOk Try.prog (c46 ieee N) := by
  refine ctxOk ?_ ?_ mixed ?_
  · intro p hp
    simp only [List.mem_cons, List.not_mem_nil, or_false] at hp
    rcases hp with rfl | rfl | rfl
    · exact tyOk22
    · exact tyOk28
    · exact tyOk30
  · intro p hp
    simp only [List.mem_cons, List.not_mem_nil, or_false] at hp
    subst hp; exact ok52 N hN
  · intro p hp; cases hp
noncomputable def m46_0 (o : FO) (p0 : o.S) (p1 : o.S) (p2 : o.S) (p3 : o.S) : o.S :=
  bif m52_0 o p3 (o.ssub p1 (o.smul (o.slit 1092616192) (o.ssub p3 p0))) p2 then
    p3
  else
    (o.slit 0)
noncomputable def m46_1 (o : FO) (p0 : o.S) (p1 : o.S) (p2 : o.S) (p3 : o.S) : o.S :=
  let v1 : o.S := o.smul (o.slit 1092616192) (o.ssub p3 p0)
  let v2 : o.S := o.ssub p1 v1
  bif m52_0 o p3 v2 p2 then
    v2
  else
    (o.slit 0)
noncomputable def m46_2 (o : FO) (p0 : o.S) (p1 : o.S) (p2 : o.S) (p3 : o.S) : o.S :=
  bif m52_0 o p3 (o.ssub p1 (o.smul (o.slit 1092616192) (o.ssub p3 p0))) p2 then
    p2
  else
    (o.slit 0)
noncomputable def m46_3 (o : FO) (p0 : o.S) (p1 : o.S) (p2 : o.S) (p3 : o.S) : Int :=
  bif m52_0 o p3 (o.ssub p1 (o.smul (o.slit 1092616192) (o.ssub p3 p0))) p2 then
    (0 : Int)
  else
    (4 : Int)
theorem val46 (o : FO) (p0 : o.S) (p1 : o.S) (p2 : o.S) (p3 : o.S) : f46 o p0 p1 p2 p3 = some (.tup [.agg [.f32 (m46_0 o p0 p1 p2 p3), .f32 (m46_1 o p0 p1 p2 p3), .f32 (m46_2 o p0 p1 p2 p3)], .int .i64 (m46_3 o p0 p1 p2 p3)], []) := by
  unfold f46 m46_0 m46_1 m46_2 m46_3
  try dsimp only
  cases (m52_0 o p3 (o.ssub p1 (o.smul (o.slit 1092616192) (o.ssub p3 p0))) p2)
  · rfl
  · rfl

noncomputable def e46 (o : FO) : List (AV o) → Tr (AV o)
  | [.agg [.f32 p0, .f32 p1, .f32 p2], .f32 p3] => .leaf (.tup [.agg [.f32 (m46_0 o p0 p1 p2 p3), .f32 (m46_1 o p0 p1 p2 p3), .f32 (m46_2 o p0 p1 p2 p3)], .int .i64 (m46_3 o p0 p1 p2 p3)])
  | _ => .fail
theorem ok46 (N : Nat) (hN : 4096 ≤ N) : CalOk Try.prog 46 (.pure (e46 ieee)) := by
  refine calOk_pure (cok46 4096 (Nat.le_refl _)) (is46 4096) ?_
  intro args av hg
  unfold e46 at hg
  split at hg
  · cases hg
    exact ⟨rfl, rfl, _, (eq46 ieee 4096 _ _ _ _).trans (val46 ieee _ _ _ _)⟩
  · cases hg

/-! loop.example/g01224/spec.RaiseDry -/
noncomputable def f17 (o : FO) (p0 : o.S) (p1 : o.S) (p2 : o.S) (p3 : o.S) : R o :=
  bif !(m42_0 o p0 p1 p2) then
    some (.tup [.agg [.f32 (o.slit 0), .f32 (o.slit 0), .f32 (o.slit 0)], .int .i64 (1 : Int)], [])
  else
    bif !(m45_0 o p3) then
      some (.tup [.agg [.f32 (o.slit 0), .f32 (o.slit 0), .f32 (o.slit 0)], .int .i64 (2 : Int)], [])
    else
      some (.tup [.agg [.f32 (m46_0 o p0 p1 p2 p3), .f32 (m46_1 o p0 p1 p2 p3), .f32 (m46_2 o p0 p1 p2 p3)], .int .i64 (m46_3 o p0 p1 p2 p3)], [])
noncomputable def c17 (o : FO) (N : Nat) : Cx o :=
  { ty := tab [(22, ty22 o), (28, ty28 o), (30, ty30 o)]
    fn := tab [(42, .ro (e42 o)), (45, .pure (e45 o)), (46, .pure (e46 o))]
    rounds := 4096, nt := 18, base := 0
    loops := [] }
noncomputable def b17 : Code := match Try.f17.body with | some b => b | none => .skip
theorem is17 (N : Nat) : FnIs Try.prog (c17 ieee N) 17 Try.f17 b17 := ⟨by kernel_rfl, by kernel_rfl, by kernel_rfl, by kernel_rfl⟩
theorem eq17 (o : FO) (N : Nat) (p0 : o.S) (p1 : o.S) (p2 : o.S) (p3 : o.S) : afun (c17 o N) Try.f17.results.toList b17 [.agg [.f32 p0, .f32 p1, .f32 p2], .f32 p3] [] = f17 o p0 p1 p2 p3 := by kernel_rfl
theorem cok17 (N : Nat) (hN : 4096 ≤ N) : CtxOk Try.prog (c17 ieee N) := by
  refine ctxOk ?_ ?_ mixed ?_
  · intro p hp
    simp only [List.mem_cons, List.not_mem_nil, or_false] at hp
    rcases hp with rfl | rfl | rfl
    · exact tyOk22
    · exact tyOk28
    · exact tyOk30
  · intro p hp
    simp only [List.mem_cons, List.not_mem_nil, or_false] at hp
    rcases hp with rfl | rfl | rfl
    · exact ok42 N hN
    · exact ok45 N hN
    · exact ok46 N hN
  · intro p hp; cases hp
noncomputable def m17_0 (o : FO) (p0 : o.S) (p1 : o.S) (p2 : o.S) (p3 : o.S) : o.S :=
  bif m42_0 o p0 p1 p2 then
    bif m45_0 o p3 then
      m46_0 o p0 p1 p2 p3
    else
      (o.slit 0)
  else
    (o.slit 0)
noncomputable def m17_1 (o : FO) (p0 : o.S) (p1 : o.S) (p2 : o.S) (p3 : o.S) : o.S :=
  bif m42_0 o p0 p1 p2 then
    bif m45_0 o p3 then
      m46_1 o p0 p1 p2 p3
    else
      (o.slit 0)
  else
    (o.slit 0)
noncomputable def m17_2 (o : FO) (p0 : o.S) (p1 : o.S) (p2 : o.S) (p3 : o.S) : o.S :=
  bif m42_0 o p0 p1 p2 then
    bif m45_0 o p3 then
      m46_2 o p0 p1 p2 p3
    else
      (o.slit 0)
  else
    (o.slit 0)
noncomputable def m17_3 (o : FO) (p0 : o.S) (p1 : o.S) (p2 : o.S) (p3 : o.S) : Int :=
  bif m42_0 o p0 p1 p2 then
    bif m45_0 o p3 then
      m46_3 o p0 p1 p2 p3
    else
      (2 : Int)
  else
    (1 : Int)
theorem val17 (o : FO) (p0 : o.S) (p1 : o.S) (p2 : o.S) (p3 : o.S) : f17 o p0 p1 p2 p3 = some (.tup [.agg [.f32 (m17_0 o p0 p1 p2 p3), .f32 (m17_1 o p0 p1 p2 p3), .f32 (m17_2 o p0 p1 p2 p3)], .int .i64 (m17_3 o p0 p1 p2 p3)], []) := by
  unfold f17 m17_0 m17_1 m17_2 m17_3
  try dsimp only
  cases (m42_0 o p0 p1 p2)
  · rfl
  · cases (m45_0 o p3)
    · rfl
    · rfl

noncomputable def e17 (o : FO) : List (AV o) → Tr (AV o)
  | [.agg [.f32 p0, .f32 p1, .f32 p2], .f32 p3] => .leaf (.tup [.agg [.f32 (m17_0 o p0 p1 p2 p3), .f32 (m17_1 o p0 p1 p2 p3), .f32 (m17_2 o p0 p1 p2 p3)], .int .i64 (m17_3 o p0 p1 p2 p3)])
  | _ => .fail
theorem ok17 (N : Nat) (hN : 4096 ≤ N) : CalOk Try.prog 17 (.pure (e17 ieee)) := by
  refine calOk_pure (cok17 4096 (Nat.le_refl _)) (is17 4096) ?_
  intro args av hg
  unfold e17 at hg
  split at hg
  · cases hg
    exact ⟨rfl, rfl, _, (eq17 ieee 4096 _ _ _ _).trans (val17 ieee _ _ _ _)⟩
  · cases hg

/-! (loop.example/g01224/impl.Parcel).raise -/
noncomputable def f47 (o : FO) (p0 : o.S) (p1 : o.S) (p2 : o.S) (p3 : o.S) : R o :=
  let v1 : o.S := o.smul (o.slit 1092616192) (o.ssub p3 p0)
  let v2 : o.S := o.ssub p1 v1
  some (.tup [.agg [.f32 p3, .f32 v2, .f32 p2], .bool (m44_0 o v2 p2)], [])
noncomputable def c47 (o : FO) (N : Nat) : Cx o :=
  { ty := tab [(22, ty22 o), (28, ty28 o), (30, ty30 o)]
    fn := tab [(44, .pure (e44 o))]
    rounds := 4096, nt := 25, base := 0
    loops := [] }
noncomputable def b47 : Code := match Try.f47.body with | some b => b | none => .skip
theorem is47 (N : Nat) : FnIs Try.prog (c47 ieee N) 47 Try.f47 b47 := ⟨by kernel_rfl, by kernel_rfl, by kernel_rfl, by kernel_rfl⟩
theorem eq47 (o : FO) (N : Nat) (p0 : o.S) (p1 : o.S) (p2 : o.S) (p3 : o.S) : afun (c47 o N) Try.f47.results.toList b47 [.agg [.f32 p0, .f32 p1, .f32 p2], .f32 p3] [] = f47 o p0 p1 p2 p3 := by kernel_rfl
theorem cok47 (N : Nat) (hN : 4096 ≤ N) : CtxOk Try.prog (c47 ieee N) := by
  refine ctxOk ?_ ?_ mixed ?_
  · intro p hp
    simp only [List.mem_cons, List.not_mem_nil, or_false] at hp
    rcases hp with rfl | rfl | rfl
    · exact tyOk22
    · exact tyOk28
    · exact tyOk30
  · intro p hp
    simp only [List.mem_cons, List.not_mem_nil, or_false] at hp
    subst hp; exact ok44 N hN
  · intro p hp; cases hp
noncomputable def m47_0 (o : FO) (p0 : o.S) (p1 : o.S) (p2 : o.S) (p3 : o.S) : o.S :=
  o.ssub p1 (o.smul (o.slit 1092616192) (o.ssub p3 p0))
noncomputable def m47_1 (o : FO) (p0 : o.S) (p1 : o.S) (p2 : o.S) (p3 : o.S) : Bool :=
  m44_0 o (o.ssub p1 (o.smul (o.slit 1092616192) (o.ssub p3 p0))) p2
theorem val47 (o : FO) (p0 : o.S) (p1 : o.S) (p2 : o.S) (p3 : o.S) : f47 o p0 p1 p2 p3 = some (.tup [.agg [.f32 p3, .f32 (m47_0 o p0 p1 p2 p3), .f32 p2], .bool (m47_1 o p0 p1 p2 p3)], []) := by
  unfold f47 m47_0 m47_1
  rfl

noncomputable def e47 (o : FO) : List (AV o) → Tr (AV o)
  | [.agg [.f32 p0, .f32 p1, .f32 p2], .f32 p3] => .leaf (.tup [.agg [.f32 p3, .f32 (m47_0 o p0 p1 p2 p3), .f32 p2], .bool (m47_1 o p0 p1 p2 p3)])
  | _ => .fail
theorem ok47 (N : Nat) (hN : 4096 ≤ N) : CalOk Try.prog 47 (.pure (e47 ieee)) := by
  refine calOk_pure (cok47 4096 (Nat.le_refl _)) (is47 4096) ?_
  intro args av hg
  unfold e47 at hg
  split at hg
  · cases hg
    exact ⟨rfl, rfl, _, (eq47 ieee 4096 _ _ _ _).trans (val47 ieee _ _ _ _)⟩
  · cases hg

/-! loop.example/g01224/impl.RaiseDry -/
noncomputable def f18 (o : FO) (p0 : o.S) (p1 : o.S) (p2 : o.S) (p3 : o.S) : R o :=
  bif !(m16_0 o p0 p1 p2) then
    some (.tup [.agg [.f32 (o.slit 0), .f32 (o.slit 0), .f32 (o.slit 0)], .int .i64 (1 : Int)], [])
  else
    bif !(m43_0 o p3) then
      some (.tup [.agg [.f32 (o.slit 0), .f32 (o.slit 0), .f32 (o.slit 0)], .int .i64 (2 : Int)], [])
    else
      bif !(m47_1 o p0 p1 p2 p3) then
        some (.tup [.agg [.f32 (o.slit 0), .f32 (o.slit 0), .f32 (o.slit 0)], .int .i64 (4 : Int)], [])
      else
        some (.tup [.agg [.f32 p3, .f32 (m47_0 o p0 p1 p2 p3), .f32 p2], .int .i64 (0 : Int)], [])
noncomputable def c18 (o : FO) (N : Nat) : Cx o :=
  { ty := tab [(22, ty22 o), (28, ty28 o), (30, ty30 o)]
    fn := tab [(16, .pure (e16 o)), (43, .pure (e43 o)), (47, .pure (e47 o))]
    rounds := 4096, nt := 28, base := 0
    loops := [] }
noncomputable def b18 : Code := match Try.f18.body with | some b => b | none => .skip
theorem is18 (N : Nat) : FnIs Try.prog (c18 ieee N) 18 Try.f18 b18 := ⟨by kernel_rfl, by kernel_rfl, by kernel_rfl, by kernel_rfl⟩
theorem eq18 (o : FO) (N : Nat) (p0 : o.S) (p1 : o.S) (p2 : o.S) (p3 : o.S) : afun (c18 o N) Try.f18.results.toList b18 [.agg [.f32 p0, .f32 p1, .f32 p2], .f32 p3] [] = f18 o p0 p1 p2 p3 := by kernel_rfl
theorem cok18 (N : Nat) (hN : 4096 ≤ N) : CtxOk Try.prog (c18 ieee N) := by
  refine ctxOk ?_ ?_ mixed ?_
  · intro p hp
    simp only [List.mem_cons, List.not_mem_nil, or_false] at hp
    rcases hp with rfl | rfl | rfl
    · exact tyOk22
    · exact tyOk28
    · exact tyOk30
  · intro p hp
    simp only [List.mem_cons, List.not_mem_nil, or_false] at hp
    rcases hp with rfl | rfl | rfl
    · exact ok16 N hN
    · exact ok43 N hN
    · exact ok47 N hN
  · intro p hp; cases hp
noncomputable def m18_0 (o : FO) (p0 : o.S) (p1 : o.S) (p2 : o.S) (p3 : o.S) : o.S :=
  bif m16_0 o p0 p1 p2 then
    bif m43_0 o p3 then
      bif m47_1 o p0 p1 p2 p3 then
        p3
      else
        (o.slit 0)
    else
      (o.slit 0)
  else
    (o.slit 0)
noncomputable def m18_1 (o : FO) (p0 : o.S) (p1 : o.S) (p2 : o.S) (p3 : o.S) : o.S :=
  bif m16_0 o p0 p1 p2 then
    bif m43_0 o p3 then
      bif m47_1 o p0 p1 p2 p3 then
        m47_0 o p0 p1 p2 p3
      else
        (o.slit 0)
    else
      (o.slit 0)
  else
    (o.slit 0)
noncomputable def m18_2 (o : FO) (p0 : o.S) (p1 : o.S) (p2 : o.S) (p3 : o.S) : o.S :=
  bif m16_0 o p0 p1 p2 then
    bif m43_0 o p3 then
      bif m47_1 o p0 p1 p2 p3 then
        p2
      else
        (o.slit 0)
    else
      (o.slit 0)
  else
    (o.slit 0)
noncomputable def m18_3 (o : FO) (p0 : o.S) (p1 : o.S) (p2 : o.S) (p3 : o.S) : Int :=
  bif m16_0 o p0 p1 p2 then
    bif m43_0 o p3 then
      bif m47_1 o p0 p1 p2 p3 then
        (0 : Int)
      else
        (4 : Int)
    else
      (2 : Int)
  else
    (1 : Int)
theorem val18 (o : FO) (p0 : o.S) (p1 : o.S) (p2 : o.S) (p3 : o.S) : f18 o p0 p1 p2 p3 = some (.tup [.agg [.f32 (m18_0 o p0 p1 p2 p3), .f32 (m18_1 o p0 p1 p2 p3), .f32 (m18_2 o p0 p1 p2 p3)], .int .i64 (m18_3 o p0 p1 p2 p3)], []) := by
  unfold f18 m18_0 m18_1 m18_2 m18_3
  try dsimp only
  cases (m16_0 o p0 p1 p2)
  · rfl
  · cases (m43_0 o p3)
    · rfl
    · cases (m47_1 o p0 p1 p2 p3)
      · rfl
      · rfl

noncomputable def e18 (o : FO) : List (AV o) → Tr (AV o)
  | [.agg [.f32 p0, .f32 p1, .f32 p2], .f32 p3] => .leaf (.tup [.agg [.f32 (m18_0 o p0 p1 p2 p3), .f32 (m18_1 o p0 p1 p2 p3), .f32 (m18_2 o p0 p1 p2 p3)], .int .i64 (m18_3 o p0 p1 p2 p3)])
  | _ => .fail
theorem ok18 (N : Nat) (hN : 4096 ≤ N) : CalOk Try.prog 18 (.pure (e18 ieee)) := by
  refine calOk_pure (cok18 4096 (Nat.le_refl _)) (is18 4096) ?_
  intro args av hg
  unfold e18 at hg
  split at hg
  · cases hg
    exact ⟨rfl, rfl, _, (eq18 ieee 4096 _ _ _ _).trans (val18 ieee _ _ _ _)⟩
  · cases hg

/-! loop.example/g01224/laws.sameFloat -/
noncomputable def f26 (o : FO) (p0 : o.D) (p1 : o.D) : R o :=
  let v1 : Bool := !(o.deq p0 p0)
  bif v1 then
    bif v1 then
      bif !(o.deq p1 p1) then
        some (.bool true, [])
      else
        some (.bool false, [])
    else
      some (.bool false, [])
  else
    let v2 : Bool := !(o.deq p1 p1)
    bif v2 then
      bif v1 then
        bif v2 then
          some (.bool true, [])
        else
          some (.bool false, [])
      else
        some (.bool false, [])
    else
      bif o.deq p0 (o.dlit 0) then
        bif o.deq p1 (o.dlit 0) then
          some (.bool ((o.dlt (o.dlit 0) (o.ddiv (o.dlit 4607182418800017408) p0)) == (o.dlt (o.dlit 0) (o.ddiv (o.dlit 4607182418800017408) p1))), [])
        else
          some (.bool (o.deq p0 p1), [])
      else
        some (.bool (o.deq p0 p1), [])
noncomputable def c26 (o : FO) (N : Nat) : Cx o :=
  { ty := tab [(4, ty4 o)]
    fn := tab []
    rounds := 4096, nt := 37, base := 0
    loops := [] }
noncomputable def b26 : Code := match Try.f26.body with | some b => b | none => .skip
theorem is26 (N : Nat) : FnIs Try.prog (c26 ieee N) 26 Try.f26 b26 := ⟨by kernel_rfl, by kernel_rfl, by kernel_rfl, by kernel_rfl⟩
theorem eq26 (o : FO) (N : Nat) (p0 : o.D) (p1 : o.D) : afun (c26 o N) Try.f26.results.toList b26 [.f64 p0, .f64 p1] [] = f26 o p0 p1 := by kernel_rfl
theorem cok26 (N : Nat) (hN : 4096 ≤ N) : CtxOk Try.prog (c26 ieee N) := by
  refine ctxOk ?_ ?_ mixed ?_
  · intro p hp
    simp only [List.mem_cons, List.not_mem_nil, or_false] at hp
    subst hp; exact tyOk4
  · intro p hp; cases hp
  · intro p hp; cases hp
noncomputable def m26_0 (o : FO) (p0 : o.D) (p1 : o.D) : Bool :=
  bif o.deq p0 p0 then
    bif o.deq p1 p1 then
      bif o.deq p0 (o.dlit 0) then
        bif o.deq p1 (o.dlit 0) then
          (o.dlt (o.dlit 0) (o.ddiv (o.dlit 4607182418800017408) p0)) == (o.dlt (o.dlit 0) (o.ddiv (o.dlit 4607182418800017408) p1))
        else
          o.deq p0 p1
      else
        o.deq p0 p1
    else
      false
  else
    bif o.deq p1 p1 then
      false
    else
      true
theorem val26 (o : FO) (p0 : o.D) (p1 : o.D) : f26 o p0 p1 = some (.bool (m26_0 o p0 p1), []) := by
  unfold f26 m26_0
  try dsimp only
  cases (o.deq p0 p0)
  · cases (o.deq p1 p1)
    · rfl
    · rfl
  · cases (o.deq p1 p1)
    · rfl
    · cases (o.deq p0 (o.dlit 0))
      · rfl
      · cases (o.deq p1 (o.dlit 0))
        · rfl
        · rfl

noncomputable def e26 (o : FO) : List (AV o) → Tr (AV o)
  | [.f64 p0, .f64 p1] => .leaf (.bool (m26_0 o p0 p1))
  | _ => .fail
theorem ok26 (N : Nat) (hN : 4096 ≤ N) : CalOk Try.prog 26 (.pure (e26 ieee)) := by
  refine calOk_pure (cok26 4096 (Nat.le_refl _)) (is26 4096) ?_
  intro args av hg
  unfold e26 at hg
  split at hg
  · cases hg
    exact ⟨rfl, rfl, _, (eq26 ieee 4096 _ _).trans (val26 ieee _ _)⟩
  · cases hg

/-! loop.example/g01224/laws.eqAir -/
noncomputable def f25 (o : FO) (p0 : o.S) (p1 : o.S) (p2 : o.S) (p3 : o.S) : R o :=
  bif !(m26_0 o (o.s2d p0) (o.s2d p2)) then
    some (.bool false, [])
  else
    bif !(m26_0 o (o.s2d p1) (o.s2d p3)) then
      some (.bool false, [])
    else
      some (.bool true, [])
noncomputable def c25 (o : FO) (N : Nat) : Cx o :=
  { ty := tab [(22, ty22 o), (28, ty28 o), (45, ty45 o)]
    fn := tab [(26, .pure (e26 o))]
    rounds := 4096, nt := 21, base := 0
    loops := [] }
noncomputable def b25 : Code := match Try.f25.body with | some b => b | none => .skip
theorem is25 (N : Nat) : FnIs Try.prog (c25 ieee N) 25 Try.f25 b25 := ⟨by kernel_rfl, by kernel_rfl, by kernel_rfl, by kernel_rfl⟩
theorem eq25 (o : FO) (N : Nat) (p0 : o.S) (p1 : o.S) (p2 : o.S) (p3 : o.S) : afun (c25 o N) Try.f25.results.toList b25 [.agg [.f32 p0, .f32 p1], .agg [.f32 p2, .f32 p3]] [] = f25 o p0 p1 p2 p3 := by kernel_rfl
theorem cok25 (N : Nat) (hN : 4096 ≤ N) : CtxOk Try.prog (c25 ieee N) := by
  refine ctxOk ?_ ?_ mixed ?_
  · intro p hp
    simp only [List.mem_cons, List.not_mem_nil, or_false] at hp
    rcases hp with rfl | rfl | rfl
    · exact tyOk22
    · exact tyOk28
    · exact tyOk45
  · intro p hp
    simp only [List.mem_cons, List.not_mem_nil, or_false] at hp
    subst hp; exact ok26 N hN
  · intro p hp; cases hp
noncomputable def m25_0 (o : FO) (p0 : o.S) (p1 : o.S) (p2 : o.S) (p3 : o.S) : Bool :=
  bif m26_0 o (o.s2d p0) (o.s2d p2) then
    m26_0 o (o.s2d p1) (o.s2d p3)
  else
    false
theorem val25 (o : FO) (p0 : o.S) (p1 : o.S) (p2 : o.S) (p3 : o.S) : f25 o p0 p1 p2 p3 = some (.bool (m25_0 o p0 p1 p2 p3), []) := by
  unfold f25 m25_0
  try dsimp only
  cases (m26_0 o (o.s2d p0) (o.s2d p2))
  · rfl
  · cases (m26_0 o (o.s2d p1) (o.s2d p3))
    · rfl
    · rfl

noncomputable def e25 (o : FO) : List (AV o) → Tr (AV o)
  | [.agg [.f32 p0, .f32 p1], .agg [.f32 p2, .f32 p3]] => .leaf (.bool (m25_0 o p0 p1 p2 p3))
  | _ => .fail
theorem ok25 (N : Nat) (hN : 4096 ≤ N) : CalOk Try.prog 25 (.pure (e25 ieee)) := by
  refine calOk_pure (cok25 4096 (Nat.le_refl _)) (is25 4096) ?_
  intro args av hg
  unfold e25 at hg
  split at hg
  · cases hg
    exact ⟨rfl, rfl, _, (eq25 ieee 4096 _ _ _ _).trans (val25 ieee _ _ _ _)⟩
  · cases hg

/-! loop.example/g01224/laws.eqParcel -/
noncomputable def f19 (o : FO) (p0 : o.S) (p1 : o.S) (p2 : o.S) (p3 : o.S) (p4 : o.S) (p5 : o.S) : R o :=
  bif !(m26_0 o (o.s2d p0) (o.s2d p3)) then
    some (.bool false, [])
  else
    bif !(m25_0 o p1 p2 p4 p5) then
      some (.bool false, [])
    else
      some (.bool true, [])
noncomputable def c19 (o : FO) (N : Nat) : Cx o :=
  { ty := tab [(22, ty22 o), (28, ty28 o), (30, ty30 o), (45, ty45 o)]
    fn := tab [(25, .pure (e25 o)), (26, .pure (e26 o))]
    rounds := 4096, nt := 19, base := 0
    loops := [] }
noncomputable def b19 : Code := match Try.f19.body with | some b => b | none => .skip
theorem is19 (N : Nat) : FnIs Try.prog (c19 ieee N) 19 Try.f19 b19 := ⟨by kernel_rfl, by kernel_rfl, by kernel_rfl, by kernel_rfl⟩
theorem eq19 (o : FO) (N : Nat) (p0 : o.S) (p1 : o.S) (p2 : o.S) (p3 : o.S) (p4 : o.S) (p5 : o.S) : afun (c19 o N) Try.f19.results.toList b19 [.agg [.f32 p0, .f32 p1, .f32 p2], .agg [.f32 p3, .f32 p4, .f32 p5]] [] = f19 o p0 p1 p2 p3 p4 p5 := by kernel_rfl
theorem cok19 (N : Nat) (hN : 4096 ≤ N) : CtxOk Try.prog (c19 ieee N) := by
  refine ctxOk ?_ ?_ mixed ?_
  · intro p hp
    simp only [List.mem_cons, List.not_mem_nil, or_false] at hp
    rcases hp with rfl | rfl | rfl | rfl
    · exact tyOk22
    · exact tyOk28
    · exact tyOk30
    · exact tyOk45
  · intro p hp
    simp only [List.mem_cons, List.not_mem_nil, or_false] at hp
    rcases hp with rfl | rfl
    · exact ok25 N hN
    · exact ok26 N hN
  · intro p hp; cases hp
noncomputable def m19_0 (o : FO) (p0 : o.S) (p1 : o.S) (p2 : o.S) (p3 : o.S) (p4 : o.S) (p5 : o.S) : Bool :=
  bif m26_0 o (o.s2d p0) (o.s2d p3) then
    m25_0 o p1 p2 p4 p5
  else
    false
theorem val19 (o : FO) (p0 : o.S) (p1 : o.S) (p2 : o.S) (p3 : o.S) (p4 : o.S) (p5 : o.S) : f19 o p0 p1 p2 p3 p4 p5 = some (.bool (m19_0 o p0 p1 p2 p3 p4 p5), []) := by
  unfold f19 m19_0
  try dsimp only
  cases (m26_0 o (o.s2d p0) (o.s2d p3))
  · rfl
  · cases (m25_0 o p1 p2 p4 p5)
    · rfl
    · rfl

noncomputable def e19 (o : FO) : List (AV o) → Tr (AV o)
  | [.agg [.f32 p0, .f32 p1, .f32 p2], .agg [.f32 p3, .f32 p4, .f32 p5]] => .leaf (.bool (m19_0 o p0 p1 p2 p3 p4 p5))
  | _ => .fail
theorem ok19 (N : Nat) (hN : 4096 ≤ N) : CalOk Try.prog 19 (.pure (e19 ieee)) := by
  refine calOk_pure (cok19 4096 (Nat.le_refl _)) (is19 4096) ?_
  intro args av hg
  unfold e19 at hg
  split at hg
  · cases hg
    exact ⟨rfl, rfl, _, (eq19 ieee 4096 _ _ _ _ _ _).trans (val19 ieee _ _ _ _ _ _)⟩
  · cases hg

/-! loop.example/g01224/laws.FnExactRaiseDry -/
noncomputable def f5 (o : FO) (p0 : o.S) (p1 : o.S) (p2 : o.S) (p3 : o.S) : R o :=
  bif m19_0 o (m18_0 o p0 p1 p2 p3) (m18_1 o p0 p1 p2 p3) (m18_2 o p0 p1 p2 p3) (m17_0 o p0 p1 p2 p3) (m17_1 o p0 p1 p2 p3) (m17_2 o p0 p1 p2 p3) then
    bif (m18_3 o p0 p1 p2 p3) != (m17_3 o p0 p1 p2 p3) then
      some (.bool false, [])
    else
      some (.bool true, [])
  else
    some (.bool false, [])
noncomputable def c5 (o : FO) (N : Nat) : Cx o :=
  { ty := tab [(26, ty26 o), (30, ty30 o)]
    fn := tab [(13, .pure (e13 o)), (17, .pure (e17 o)), (18, .pure (e18 o)), (19, .pure (e19 o))]
    rounds := 4096, nt := 32, base := 0
    loops := [] }
noncomputable def b5 : Code := match Try.f5.body with | some b => b | none => .skip
theorem is5 (N : Nat) : FnIs Try.prog (c5 ieee N) 5 Try.f5 b5 := ⟨by kernel_rfl, by kernel_rfl, by kernel_rfl, by kernel_rfl⟩
theorem eq5 (o : FO) (N : Nat) (p0 : o.S) (p1 : o.S) (p2 : o.S) (p3 : o.S) : afun (c5 o N) Try.f5.results.toList b5 [.agg [.f32 p0, .f32 p1, .f32 p2], .f32 p3] [] = f5 o p0 p1 p2 p3 := by kernel_rfl
theorem cok5 (N : Nat) (hN : 4096 ≤ N) : CtxOk Try.prog (c5 ieee N) := by
  refine ctxOk ?_ ?_ mixed ?_
  · intro p hp
    simp only [List.mem_cons, List.not_mem_nil, or_false] at hp
    rcases hp with rfl | rfl
    · exact tyOk26
    · exact tyOk30
  · intro p hp
    simp only [List.mem_cons, List.not_mem_nil, or_false] at hp
    rcases hp with rfl | rfl | rfl | rfl
    · exact ok13 N hN
    · exact ok17 N hN
    · exact ok18 N hN
    · exact ok19 N hN
  · intro p hp; cases hp
noncomputable def m5_0 (o : FO) (p0 : o.S) (p1 : o.S) (p2 : o.S) (p3 : o.S) : Bool :=
  bif m19_0 o (m18_0 o p0 p1 p2 p3) (m18_1 o p0 p1 p2 p3) (m18_2 o p0 p1 p2 p3) (m17_0 o p0 p1 p2 p3) (m17_1 o p0 p1 p2 p3) (m17_2 o p0 p1 p2 p3) then
    bif (m18_3 o p0 p1 p2 p3) != (m17_3 o p0 p1 p2 p3) then
      false
    else
      true
  else
    false
theorem val5 (o : FO) (p0 : o.S) (p1 : o.S) (p2 : o.S) (p3 : o.S) : f5 o p0 p1 p2 p3 = some (.bool (m5_0 o p0 p1 p2 p3), []) := by
  unfold f5 m5_0
  try dsimp only
  cases (m19_0 o (m18_0 o p0 p1 p2 p3) (m18_1 o p0 p1 p2 p3) (m18_2 o p0 p1 p2 p3) (m17_0 o p0 p1 p2 p3) (m17_1 o p0 p1 p2 p3) (m17_2 o p0 p1 p2 p3))
  · rfl
  · cases ((m18_3 o p0 p1 p2 p3) != (m17_3 o p0 p1 p2 p3))
    · rfl
    · rfl

noncomputable def e5 (o : FO) : List (AV o) → Tr (AV o)
  | [.agg [.f32 p0, .f32 p1, .f32 p2], .f32 p3] => .leaf (.bool (m5_0 o p0 p1 p2 p3))
  | _ => .fail
theorem ok5 (N : Nat) (hN : 4096 ≤ N) : CalOk Try.prog 5 (.pure (e5 ieee)) := by
  refine calOk_pure (cok5 4096 (Nat.le_refl _)) (is5 4096) ?_
  intro args av hg
  unfold e5 at hg
  split at hg
  · cases hg
    exact ⟨rfl, rfl, _, (eq5 ieee 4096 _ _ _ _).trans (val5 ieee _ _ _ _)⟩
  · cases hg

/-! loop.example/g01224/spec.l01Share -/
noncomputable def f48 (o : FO) (p0 : o.S) : R o :=
  bif amtS o p0 then
    bif o.sle p0 (o.slit 1065353216) then
      some (.bool true, [])
    else
      some (.bool false, [])
  else
    some (.bool false, [])
noncomputable def c48 (o : FO) (N : Nat) : Cx o :=
  { ty := tab []
    fn := tab [(71, .pure (e71 o))]
    rounds := 4096, nt := 9, base := 0
    loops := [] }
noncomputable def b48 : Code := match Try.f48.body with | some b => b | none => .skip
theorem is48 (N : Nat) : FnIs Try.prog (c48 ieee N) 48 Try.f48 b48 := ⟨by kernel_rfl, by kernel_rfl, by kernel_rfl, by kernel_rfl⟩
theorem eq48 (o : FO) (N : Nat) (p0 : o.S) : afun (c48 o N) Try.f48.results.toList b48 [.f32 p0] [] = f48 o p0 := by kernel_rfl
theorem cok48 (N : Nat) (hN : 4096 ≤ N) : CtxOk Try.prog (c48 ieee N) := by
  refine ctxOk ?_ ?_ mixed ?_
  · intro p hp; cases hp
  · intro p hp
    simp only [List.mem_cons, List.not_mem_nil, or_false] at hp
    subst hp; exact ok71 N hN
  · intro p hp; cases hp
noncomputable def m48_0 (o : FO) (p0 : o.S) : Bool :=
  bif amtS o p0 then
    o.sle p0 (o.slit 1065353216)
  else
    false
theorem val48 (o : FO) (p0 : o.S) : f48 o p0 = some (.bool (m48_0 o p0), []) := by
  unfold f48 m48_0
  try dsimp only
  cases (amtS o p0)
  · rfl
  · cases (o.sle p0 (o.slit 1065353216))
    · rfl
    · rfl

noncomputable def e48 (o : FO) : List (AV o) → Tr (AV o)
  | [.f32 p0] => .leaf (.bool (m48_0 o p0))
  | _ => .fail
theorem ok48 (N : Nat) (hN : 4096 ≤ N) : CalOk Try.prog 48 (.pure (e48 ieee)) := by
  refine calOk_pure (cok48 4096 (Nat.le_refl _)) (is48 4096) ?_
  intro args av hg
  unfold e48 at hg
  split at hg
  · cases hg
    exact ⟨rfl, rfl, _, (eq48 ieee 4096 _).trans (val48 ieee _)⟩
  · cases hg

/-! loop.example/g01224/spec.l02Mix -/
noncomputable def f72 (o : FO) (p0 : o.S) (p1 : o.S) (p2 : o.S) (p3 : o.S) (p4 : o.S) (p5 : o.S) (p6 : o.S) : R o :=
  some (.agg [.f32 (o.sadd (o.smul p2 (o.ssub (o.slit 1065353216) p0)) (o.smul p5 p0)), .f32 (o.sadd (o.smul p3 (o.ssub (o.slit 1065353216) p0)) (o.smul p6 p0))], [.live false true [.f32 p1, .f32 p2, .f32 p3], .live false true [.f32 p4, .f32 p5, .f32 p6]])
noncomputable def c72 (o : FO) (N : Nat) : Cx o :=
  { ty := tab [(22, ty22 o), (28, ty28 o)]
    fn := tab []
    rounds := 4096, nt := 36, base := 2
    loops := [] }
noncomputable def b72 : Code := match Try.f72.body with | some b => b | none => .skip
theorem is72 (N : Nat) : FnIs Try.prog (c72 ieee N) 72 Try.f72 b72 := ⟨by kernel_rfl, by kernel_rfl, by kernel_rfl, by kernel_rfl⟩
theorem eq72 (o : FO) (N : Nat) (p0 : o.S) (p1 : o.S) (p2 : o.S) (p3 : o.S) (p4 : o.S) (p5 : o.S) (p6 : o.S) : afun (c72 o N) Try.f72.results.toList b72 [.ptr 0 1, .ptr 1 1, .f32 p0] [.live false true [.f32 p1, .f32 p2, .f32 p3], .live false true [.f32 p4, .f32 p5, .f32 p6]] = f72 o p0 p1 p2 p3 p4 p5 p6 := by kernel_rfl
theorem cok72 (N : Nat) (hN : 4096 ≤ N) : CtxOk Try.prog (c72 ieee N) := by
  refine ctxOk ?_ ?_ mixed ?_
  · intro p hp
    simp only [List.mem_cons, List.not_mem_nil, or_false] at hp
    rcases hp with rfl | rfl
    · exact tyOk22
    · exact tyOk28
  · intro p hp; cases hp
  · intro p hp; cases hp
noncomputable def m72_0 (o : FO) (p0 : o.S) (p1 : o.S) (p2 : o.S) (p3 : o.S) (p4 : o.S) (p5 : o.S) (p6 : o.S) : o.S :=
  o.sadd (o.smul p2 (o.ssub (o.slit 1065353216) p0)) (o.smul p5 p0)
noncomputable def m72_1 (o : FO) (p0 : o.S) (p1 : o.S) (p2 : o.S) (p3 : o.S) (p4 : o.S) (p5 : o.S) (p6 : o.S) : o.S :=
  o.sadd (o.smul p3 (o.ssub (o.slit 1065353216) p0)) (o.smul p6 p0)
theorem val72 (o : FO) (p0 : o.S) (p1 : o.S) (p2 : o.S) (p3 : o.S) (p4 : o.S) (p5 : o.S) (p6 : o.S) : f72 o p0 p1 p2 p3 p4 p5 p6 = some (.agg [.f32 (m72_0 o p0 p1 p2 p3 p4 p5 p6), .f32 (m72_1 o p0 p1 p2 p3 p4 p5 p6)], [.live false true [.f32 p1, .f32 p2, .f32 p3], .live false true [.f32 p4, .f32 p5, .f32 p6]]) := by
  unfold f72 m72_0 m72_1
  rfl

noncomputable def e72 (o : FO) : List (AV o) → Heap o → Tr (AV o)
  | [.ptr 0 1, .ptr 1 1, .f32 p0], [.live _ true [.f32 p1, .f32 p2, .f32 p3], .live _ true [.f32 p4, .f32 p5, .f32 p6]] => .leaf (.agg [.f32 (m72_0 o p0 p1 p2 p3 p4 p5 p6), .f32 (m72_1 o p0 p1 p2 p3 p4 p5 p6)])
  | _, _ => .fail
theorem ok72 (N : Nat) (hN : 4096 ≤ N) : CalOk Try.prog 72 (.ro (e72 ieee)) := by
  refine calOk_ro (cok72 4096 (Nat.le_refl _)) (is72 4096) ?_
  intro args h av hg
  unfold e72 at hg
  split at hg
  · cases hg
    exact ⟨rfl, _, (eq72 ieee 4096 _ _ _ _ _ _ _).trans (val72 ieee _ _ _ _ _ _ _)⟩
  · cases hg

/-! loop.example/g01224/spec.l04Mixed -/
noncomputable def f49 (o : FO) (p0 : o.S) (p1 : o.S) (p2 : o.S) (p3 : o.S) (p4 : o.S) (p5 : o.S) (p6 : o.S) : R o :=
  let v1 : o.S := m72_1 o p3 p0 p1 p2 p4 p5 p6
  let v2 : o.S := m72_0 o p3 p0 p1 p2 p4 p5 p6
  bif !(m52_0 o p0 v2 v1) then
    some (.tup [.agg [.f32 (o.slit 0), .f32 (o.slit 0), .f32 (o.slit 0)], .int .i64 (4 : Int)], [.live false true [.f32 p4, .f32 p5, .f32 p6]])
  else
    some (.tup [.agg [.f32 p0, .f32 v2, .f32 v1], .int .i64 (0 : Int)], [.live false true [.f32 p4, .f32 p5, .f32 p6]])
noncomputable def c49 (o : FO) (N : Nat) : Cx o :=
  { ty := tab [(22, ty22 o), (28, ty28 o), (30, ty30 o)]
    fn := tab [(52, .ro (e52 o)), (72, .ro (e72 o))]
    rounds := 4096, nt := 18, base := 1
    loops := [] }
noncomputable def b49 : Code := match Try.f49.body with | some b => b | none => .skip
theorem is49 (N : Nat) : FnIs Try.prog (c49 ieee N) 49 Try.f49 b49 := ⟨by kernel_rfl, by kernel_rfl, by kernel_rfl, by kernel_rfl⟩
theorem eq49 (o : FO) (N : Nat) (p0 : o.S) (p1 : o.S) (p2 : o.S) (p3 : o.S) (p4 : o.S) (p5 : o.S) (p6 : o.S) : afun (c49 o N) Try.f49.results.toList b49 [.agg [.f32 p0, .f32 p1, .f32 p2], .ptr 0 1, .f32 p3] [.live false true [.f32 p4, .f32 p5, .f32 p6]] = f49 o p0 p1 p2 p3 p4 p5 p6 := by kernel_rfl
theorem cok49 (N : Nat) (hN : 4096 ≤ N) : CtxOk Try.prog (c49 ieee N) := by
  refine ctxOk ?_ ?_ mixed ?_
  · intro p hp
    simp only [List.mem_cons, List.not_mem_nil, or_false] at hp
    rcases hp with rfl | rfl | rfl
    · exact tyOk22
    · exact tyOk28
    · exact tyOk30
  · intro p hp
    simp only [List.mem_cons, List.not_mem_nil, or_false] at hp
    rcases hp with rfl | rfl
    · exact ok52 N hN
    · exact ok72 N hN
  · intro p hp; cases hp
noncomputable def m49_0 (o : FO) (p0 : o.S) (p1 : o.S) (p2 : o.S) (p3 : o.S) (p4 : o.S) (p5 : o.S) (p6 : o.S) : o.S :=
  bif m52_0 o p0 (m72_0 o p3 p0 p1 p2 p4 p5 p6) (m72_1 o p3 p0 p1 p2 p4 p5 p6) then
    p0
  else
    (o.slit 0)
noncomputable def m49_1 (o : FO) (p0 : o.S) (p1 : o.S) (p2 : o.S) (p3 : o.S) (p4 : o.S) (p5 : o.S) (p6 : o.S) : o.S :=
  let v1 : o.S := m72_0 o p3 p0 p1 p2 p4 p5 p6
  bif m52_0 o p0 v1 (m72_1 o p3 p0 p1 p2 p4 p5 p6) then
    v1
  else
    (o.slit 0)
noncomputable def m49_2 (o : FO) (p0 : o.S) (p1 : o.S) (p2 : o.S) (p3 : o.S) (p4 : o.S) (p5 : o.S) (p6 : o.S) : o.S :=
  let v1 : o.S := m72_1 o p3 p0 p1 p2 p4 p5 p6
  bif m52_0 o p0 (m72_0 o p3 p0 p1 p2 p4 p5 p6) v1 then
    v1
  else
    (o.slit 0)
noncomputable def m49_3 (o : FO) (p0 : o.S) (p1 : o.S) (p2 : o.S) (p3 : o.S) (p4 : o.S) (p5 : o.S) (p6 : o.S) : Int :=
  bif m52_0 o p0 (m72_0 o p3 p0 p1 p2 p4 p5 p6) (m72_1 o p3 p0 p1 p2 p4 p5 p6) then
    (0 : Int)
  else
    (4 : Int)
theorem val49 (o : FO) (p0 : o.S) (p1 : o.S) (p2 : o.S) (p3 : o.S) (p4 : o.S) (p5 : o.S) (p6 : o.S) : f49 o p0 p1 p2 p3 p4 p5 p6 = some (.tup [.agg [.f32 (m49_0 o p0 p1 p2 p3 p4 p5 p6), .f32 (m49_1 o p0 p1 p2 p3 p4 p5 p6), .f32 (m49_2 o p0 p1 p2 p3 p4 p5 p6)], .int .i64 (m49_3 o p0 p1 p2 p3 p4 p5 p6)], [.live false true [.f32 p4, .f32 p5, .f32 p6]]) := by
  unfold f49 m49_0 m49_1 m49_2 m49_3
  try dsimp only
  cases (m52_0 o p0 (m72_0 o p3 p0 p1 p2 p4 p5 p6) (m72_1 o p3 p0 p1 p2 p4 p5 p6))
  · rfl
  · rfl

noncomputable def e49 (o : FO) : List (AV o) → Heap o → Tr (AV o)
  | [.agg [.f32 p0, .f32 p1, .f32 p2], .ptr 0 1, .f32 p3], [.live _ true [.f32 p4, .f32 p5, .f32 p6]] => .leaf (.tup [.agg [.f32 (m49_0 o p0 p1 p2 p3 p4 p5 p6), .f32 (m49_1 o p0 p1 p2 p3 p4 p5 p6), .f32 (m49_2 o p0 p1 p2 p3 p4 p5 p6)], .int .i64 (m49_3 o p0 p1 p2 p3 p4 p5 p6)])
  | _, _ => .fail
theorem ok49 (N : Nat) (hN : 4096 ≤ N) : CalOk Try.prog 49 (.ro (e49 ieee)) := by
  refine calOk_ro (cok49 4096 (Nat.le_refl _)) (is49 4096) ?_
  intro args h av hg
  unfold e49 at hg
  split at hg
  · cases hg
    exact ⟨rfl, _, (eq49 ieee 4096 _ _ _ _ _ _ _).trans (val49 ieee _ _ _ _ _ _ _)⟩
  · cases hg

/-! loop.example/g01224/spec.MixParcels -/
noncomputable def f20 (o : FO) (p0 : o.S) (p1 : o.S) (p2 : o.S) (p3 : o.S) (p4 : o.S) (p5 : o.S) (p6 : o.S) : R o :=
  bif m42_0 o p0 p1 p2 then
    bif m42_0 o p3 p4 p5 then
      bif !(m48_0 o p6) then
        some (.tup [.agg [.f32 (o.slit 0), .f32 (o.slit 0), .f32 (o.slit 0)], .int .i64 (2 : Int)], [])
      else
        some (.tup [.agg [.f32 (m49_0 o p0 p1 p2 p6 p3 p4 p5), .f32 (m49_1 o p0 p1 p2 p6 p3 p4 p5), .f32 (m49_2 o p0 p1 p2 p6 p3 p4 p5)], .int .i64 (m49_3 o p0 p1 p2 p6 p3 p4 p5)], [])
    else
      some (.tup [.agg [.f32 (o.slit 0), .f32 (o.slit 0), .f32 (o.slit 0)], .int .i64 (1 : Int)], [])
  else
    some (.tup [.agg [.f32 (o.slit 0), .f32 (o.slit 0), .f32 (o.slit 0)], .int .i64 (1 : Int)], [])
noncomputable def c20 (o : FO) (N : Nat) : Cx o :=
  { ty := tab [(22, ty22 o), (28, ty28 o), (30, ty30 o)]
    fn := tab [(42, .ro (e42 o)), (48, .pure (e48 o)), (49, .ro (e49 o))]
    rounds := 4096, nt := 25, base := 0
    loops := [] }
noncomputable def b20 : Code := match Try.f20.body with | some b => b | none => .skip
theorem is20 (N : Nat) : FnIs Try.prog (c20 ieee N) 20 Try.f20 b20 := ⟨by kernel_rfl, by kernel_rfl, by kernel_rfl, by kernel_rfl⟩
theorem eq20 (o : FO) (N : Nat) (p0 : o.S) (p1 : o.S) (p2 : o.S) (p3 : o.S) (p4 : o.S) (p5 : o.S) (p6 : o.S) : afun (c20 o N) Try.f20.results.toList b20 [.agg [.f32 p0, .f32 p1, .f32 p2], .agg [.f32 p3, .f32 p4, .f32 p5], .f32 p6] [] = f20 o p0 p1 p2 p3 p4 p5 p6 := by kernel_rfl
theorem cok20 (N : Nat) (hN : 4096 ≤ N) : CtxOk Try.prog (c20 ieee N) := by
  refine ctxOk ?_ ?_ mixed ?_
  · intro p hp
    simp only [List.mem_cons, List.not_mem_nil, or_false] at hp
    rcases hp with rfl | rfl | rfl
    · exact tyOk22
    · exact tyOk28
    · exact tyOk30
  · intro p hp
    simp only [List.mem_cons, List.not_mem_nil, or_false] at hp
    rcases hp with rfl | rfl | rfl
    · exact ok42 N hN
    · exact ok48 N hN
    · exact ok49 N hN
  · intro p hp; cases hp
noncomputable def m20_0 (o : FO) (p0 : o.S) (p1 : o.S) (p2 : o.S) (p3 : o.S) (p4 : o.S) (p5 : o.S) (p6 : o.S) : o.S :=
  bif m42_0 o p0 p1 p2 then
    bif m42_0 o p3 p4 p5 then
      bif m48_0 o p6 then
        m49_0 o p0 p1 p2 p6 p3 p4 p5
      else
        (o.slit 0)
    else
      (o.slit 0)
  else
    (o.slit 0)
noncomputable def m20_1 (o : FO) (p0 : o.S) (p1 : o.S) (p2 : o.S) (p3 : o.S) (p4 : o.S) (p5 : o.S) (p6 : o.S) : o.S :=
  bif m42_0 o p0 p1 p2 then
    bif m42_0 o p3 p4 p5 then
      bif m48_0 o p6 then
        m49_1 o p0 p1 p2 p6 p3 p4 p5
      else
        (o.slit 0)
    else
      (o.slit 0)
  else
    (o.slit 0)
noncomputable def m20_2 (o : FO) (p0 : o.S) (p1 : o.S) (p2 : o.S) (p3 : o.S) (p4 : o.S) (p5 : o.S) (p6 : o.S) : o.S :=
  bif m42_0 o p0 p1 p2 then
    bif m42_0 o p3 p4 p5 then
      bif m48_0 o p6 then
        m49_2 o p0 p1 p2 p6 p3 p4 p5
      else
        (o.slit 0)
    else
      (o.slit 0)
  else
    (o.slit 0)
noncomputable def m20_3 (o : FO) (p0 : o.S) (p1 : o.S) (p2 : o.S) (p3 : o.S) (p4 : o.S) (p5 : o.S) (p6 : o.S) : Int :=
  bif m42_0 o p0 p1 p2 then
    bif m42_0 o p3 p4 p5 then
      bif m48_0 o p6 then
        m49_3 o p0 p1 p2 p6 p3 p4 p5
      else
        (2 : Int)
    else
      (1 : Int)
  else
    (1 : Int)
theorem val20 (o : FO) (p0 : o.S) (p1 : o.S) (p2 : o.S) (p3 : o.S) (p4 : o.S) (p5 : o.S) (p6 : o.S) : f20 o p0 p1 p2 p3 p4 p5 p6 = some (.tup [.agg [.f32 (m20_0 o p0 p1 p2 p3 p4 p5 p6), .f32 (m20_1 o p0 p1 p2 p3 p4 p5 p6), .f32 (m20_2 o p0 p1 p2 p3 p4 p5 p6)], .int .i64 (m20_3 o p0 p1 p2 p3 p4 p5 p6)], []) := by
  unfold f20 m20_0 m20_1 m20_2 m20_3
  try dsimp only
  cases (m42_0 o p0 p1 p2)
  · rfl
  · cases (m42_0 o p3 p4 p5)
    · rfl
    · cases (m48_0 o p6)
      · rfl
      · rfl

noncomputable def e20 (o : FO) : List (AV o) → Tr (AV o)
  | [.agg [.f32 p0, .f32 p1, .f32 p2], .agg [.f32 p3, .f32 p4, .f32 p5], .f32 p6] => .leaf (.tup [.agg [.f32 (m20_0 o p0 p1 p2 p3 p4 p5 p6), .f32 (m20_1 o p0 p1 p2 p3 p4 p5 p6), .f32 (m20_2 o p0 p1 p2 p3 p4 p5 p6)], .int .i64 (m20_3 o p0 p1 p2 p3 p4 p5 p6)])
  | _ => .fail
theorem ok20 (N : Nat) (hN : 4096 ≤ N) : CalOk Try.prog 20 (.pure (e20 ieee)) := by
  refine calOk_pure (cok20 4096 (Nat.le_refl _)) (is20 4096) ?_
  intro args av hg
  unfold e20 at hg
  split at hg
  · cases hg
    exact ⟨rfl, rfl, _, (eq20 ieee 4096 _ _ _ _ _ _ _).trans (val20 ieee _ _ _ _ _ _ _)⟩
  · cases hg

/-! loop.example/g01224/impl.isPart -/
noncomputable def f50 (o : FO) (p0 : o.S) : R o :=
  bif amtS o p0 then
    bif o.sle p0 (o.slit 1065353216) then
      some (.bool true, [])
    else
      some (.bool false, [])
  else
    some (.bool false, [])
noncomputable def c50 (o : FO) (N : Nat) : Cx o :=
  { ty := tab []
    fn := tab [(69, .pure (e69 o))]
    rounds := 4096, nt := 9, base := 0
    loops := [] }
noncomputable def b50 : Code := match Try.f50.body with | some b => b | none => .skip
theorem is50 (N : Nat) : FnIs Try.prog (c50 ieee N) 50 Try.f50 b50 := ⟨by kernel_rfl, by kernel_rfl, by kernel_rfl, by kernel_rfl⟩
theorem eq50 (o : FO) (N : Nat) (p0 : o.S) : afun (c50 o N) Try.f50.results.toList b50 [.f32 p0] [] = f50 o p0 := by kernel_rfl
theorem cok50 (N : Nat) (hN : 4096 ≤ N) : CtxOk Try.prog (c50 ieee N) := by
  refine ctxOk ?_ ?_ mixed ?_
  · intro p hp; cases hp
  · intro p hp
    simp only [List.mem_cons, List.not_mem_nil, or_false] at hp
    subst hp; exact ok69 N hN
  · intro p hp; cases hp
noncomputable def m50_0 (o : FO) (p0 : o.S) : Bool :=
  bif amtS o p0 then
    o.sle p0 (o.slit 1065353216)
  else
    false
theorem val50 (o : FO) (p0 : o.S) : f50 o p0 = some (.bool (m50_0 o p0), []) := by
  unfold f50 m50_0
  try dsimp only
  cases (amtS o p0)
  · rfl
  · cases (o.sle p0 (o.slit 1065353216))
    · rfl
    · rfl

noncomputable def e50 (o : FO) : List (AV o) → Tr (AV o)
  | [.f32 p0] => .leaf (.bool (m50_0 o p0))
  | _ => .fail
theorem ok50 (N : Nat) (hN : 4096 ≤ N) : CalOk Try.prog 50 (.pure (e50 ieee)) := by
  refine calOk_pure (cok50 4096 (Nat.le_refl _)) (is50 4096) ?_
  intro args av hg
  unfold e50 at hg
  split at hg
  · cases hg
    exact ⟨rfl, rfl, _, (eq50 ieee 4096 _).trans (val50 ieee _)⟩
  · cases hg

/-! loop.example/g01224/impl.mix -/
noncomputable def f82 (o : FO) (p0 : o.S) (p1 : o.S) (p2 : o.S) : R o :=
  some (.f32 (o.sadd (o.smul p0 (o.ssub (o.slit 1065353216) p2)) (o.smul p1 p2)), [])
noncomputable def c82 (o : FO) (N : Nat) : Cx o :=
  { ty := tab []
    fn := tab []
    rounds := 4096, nt := 15, base := 0
    loops := [] }
noncomputable def b82 : Code := match Try.f82.body with | some b => b | none => .skip
theorem is82 (N : Nat) : FnIs Try.prog (c82 ieee N) 82 Try.f82 b82 := ⟨by kernel_rfl, by kernel_rfl, by kernel_rfl, by kernel_rfl⟩
theorem eq82 (o : FO) (N : Nat) (p0 : o.S) (p1 : o.S) (p2 : o.S) : afun (c82 o N) Try.f82.results.toList b82 [.f32 p0, .f32 p1, .f32 p2] [] = f82 o p0 p1 p2 := by kernel_rfl
theorem cok82 (N : Nat) (hN : 4096 ≤ N) : CtxOk Try.prog (c82 ieee N) := by
  refine ctxOk ?_ ?_ mixed ?_
  · intro p hp; cases hp
  · intro p hp; cases hp
  · intro p hp; cases hp
noncomputable def m82_0 (o : FO) (p0 : o.S) (p1 : o.S) (p2 : o.S) : o.S :=
  o.sadd (o.smul p0 (o.ssub (o.slit 1065353216) p2)) (o.smul p1 p2)
theorem val82 (o : FO) (p0 : o.S) (p1 : o.S) (p2 : o.S) : f82 o p0 p1 p2 = some (.f32 (m82_0 o p0 p1 p2), []) := by
  unfold f82 m82_0
  rfl

noncomputable def e82 (o : FO) : List (AV o) → Tr (AV o)
  | [.f32 p0, .f32 p1, .f32 p2] => .leaf (.f32 (m82_0 o p0 p1 p2))
  | _ => .fail
theorem ok82 (N : Nat) (hN : 4096 ≤ N) : CalOk Try.prog 82 (.pure (e82 ieee)) := by
  refine calOk_pure (cok82 4096 (Nat.le_refl _)) (is82 4096) ?_
  intro args av hg
  unfold e82 at hg
  split at hg
  · cases hg
    exact ⟨rfl, rfl, _, (eq82 ieee 4096 _ _ _).trans (val82 ieee _ _ _)⟩
  · cases hg

/-! loop.example/g01224/impl.mixAir -/
noncomputable def f73 (o : FO) (p0 : o.S) (p1 : o.S) (p2 : o.S) (p3 : o.S) (p4 : o.S) : R o :=
  some (.agg [.f32 (m82_0 o p0 p2 p4), .f32 (m82_0 o p1 p3 p4)], [])
noncomputable def c73 (o : FO) (N : Nat) : Cx o :=
  { ty := tab [(22, ty22 o), (28, ty28 o)]
    fn := tab [(82, .pure (e82 o))]
    rounds := 4096, nt := 20, base := 0
    loops := [] }
noncomputable def b73 : Code := match Try.f73.body with | some b => b | none => .skip
theorem is73 (N : Nat) : FnIs Try.prog (c73 ieee N) 73 Try.f73 b73 := ⟨by kernel_rfl, by kernel_rfl, by kernel_rfl, by kernel_rfl⟩
theorem eq73 (o : FO) (N : Nat) (p0 : o.S) (p1 : o.S) (p2 : o.S) (p3 : o.S) (p4 : o.S) : afun (c73 o N) Try.f73.results.toList b73 [.agg [.f32 p0, .f32 p1], .agg [.f32 p2, .f32 p3], .f32 p4] [] = f73 o p0 p1 p2 p3 p4 := by kernel_rfl
theorem cok73 (N : Nat) (hN : 4096 ≤ N) : CtxOk Try.prog (c73 ieee N) := by
  refine ctxOk ?_ ?_ mixed ?_
  · intro p hp
    simp only [List.mem_cons, List.not_mem_nil, or_false] at hp
    rcases hp with rfl | rfl
    · exact tyOk22
    · exact tyOk28
  · intro p hp
    simp only [List.mem_cons, List.not_mem_nil, or_false] at hp
    subst hp; exact ok82 N hN
  · intro p hp; cases hp
noncomputable def m73_0 (o : FO) (p0 : o.S) (p1 : o.S) (p2 : o.S) (p3 : o.S) (p4 : o.S) : o.S :=
  m82_0 o p0 p2 p4
noncomputable def m73_1 (o : FO) (p0 : o.S) (p1 : o.S) (p2 : o.S) (p3 : o.S) (p4 : o.S) : o.S :=
  m82_0 o p1 p3 p4
theorem val73 (o : FO) (p0 : o.S) (p1 : o.S) (p2 : o.S) (p3 : o.S) (p4 : o.S) : f73 o p0 p1 p2 p3 p4 = some (.agg [.f32 (m73_0 o p0 p1 p2 p3 p4), .f32 (m73_1 o p0 p1 p2 p3 p4)], []) := by
  unfold f73 m73_0 m73_1
  rfl

noncomputable def e73 (o : FO) : List (AV o) → Tr (AV o)
  | [.agg [.f32 p0, .f32 p1], .agg [.f32 p2, .f32 p3], .f32 p4] => .leaf (.agg [.f32 (m73_0 o p0 p1 p2 p3 p4), .f32 (m73_1 o p0 p1 p2 p3 p4)])
  | _ => .fail
theorem ok73 (N : Nat) (hN : 4096 ≤ N) : CalOk Try.prog 73 (.pure (e73 ieee)) := by
  refine calOk_pure (cok73 4096 (Nat.le_refl _)) (is73 4096) ?_
  intro args av hg
  unfold e73 at hg
  split at hg
  · cases hg
    exact ⟨rfl, rfl, _, (eq73 ieee 4096 _ _ _ _ _).trans (val73 ieee _ _ _ _ _)⟩
  · cases hg

/-! (loop.example/g01224/impl.Parcel).mixed -/
noncomputable def f51 (o : FO) (p0 : o.S) (p1 : o.S) (p2 : o.S) (p3 : o.S) (p4 : o.S) (p5 : o.S) : R o :=
  let v1 : o.S := m73_1 o p1 p2 p3 p4 p5
  let v2 : o.S := m73_0 o p1 p2 p3 p4 p5
  bif !(m44_0 o v2 v1) then
    some (.tup [.agg [.f32 (o.slit 0), .f32 (o.slit 0), .f32 (o.slit 0)], .int .i64 (4 : Int)], [])
  else
    some (.tup [.agg [.f32 p0, .f32 v2, .f32 v1], .int .i64 (0 : Int)], [])
noncomputable def c51 (o : FO) (N : Nat) : Cx o :=
  { ty := tab [(22, ty22 o), (28, ty28 o), (30, ty30 o)]
    fn := tab [(44, .pure (e44 o)), (73, .pure (e73 o))]
    rounds := 4096, nt := 20, base := 0
    loops := [] }
noncomputable def b51 : Code := match Try.f51.body with | some b => b | none => .skip
theorem is51 (N : Nat) : FnIs Try.prog (c51 ieee N) 51 Try.f51 b51 := ⟨by kernel_rfl, by kernel_rfl, by kernel_rfl, by kernel_rfl⟩
theorem eq51 (o : FO) (N : Nat) (p0 : o.S) (p1 : o.S) (p2 : o.S) (p3 : o.S) (p4 : o.S) (p5 : o.S) : afun (c51 o N) Try.f51.results.toList b51 [.agg [.f32 p0, .f32 p1, .f32 p2], .agg [.f32 p3, .f32 p4], .f32 p5] [] = f51 o p0 p1 p2 p3 p4 p5 := by kernel_rfl
theorem cok51 (N : Nat) (hN : 4096 ≤ N) : CtxOk Try.prog (c51 ieee N) := by
  refine ctxOk ?_ ?_ mixed ?_
  · intro p hp
    simp only [List.mem_cons, List.not_mem_nil, or_false] at hp
    rcases hp with rfl | rfl | rfl
    · exact tyOk22
    · exact tyOk28
    · exact tyOk30
  · intro p hp
    simp only [List.mem_cons, List.not_mem_nil, or_false] at hp
    rcases hp with rfl | rfl
    · exact ok44 N hN
    · exact ok73 N hN
  · intro p hp; cases hp
noncomputable def m51_0 (o : FO) (p0 : o.S) (p1 : o.S) (p2 : o.S) (p3 : o.S) (p4 : o.S) (p5 : o.S) : o.S :=
  bif m44_0 o (m73_0 o p1 p2 p3 p4 p5) (m73_1 o p1 p2 p3 p4 p5) then
    p0
  else
    (o.slit 0)
noncomputable def m51_1 (o : FO) (p0 : o.S) (p1 : o.S) (p2 : o.S) (p3 : o.S) (p4 : o.S) (p5 : o.S) : o.S :=
  let v1 : o.S := m73_0 o p1 p2 p3 p4 p5
  bif m44_0 o v1 (m73_1 o p1 p2 p3 p4 p5) then
    v1
  else
    (o.slit 0)
noncomputable def m51_2 (o : FO) (p0 : o.S) (p1 : o.S) (p2 : o.S) (p3 : o.S) (p4 : o.S) (p5 : o.S) : o.S :=
  let v1 : o.S := m73_1 o p1 p2 p3 p4 p5
  bif m44_0 o (m73_0 o p1 p2 p3 p4 p5) v1 then
    v1
  else
    (o.slit 0)
noncomputable def m51_3 (o : FO) (p0 : o.S) (p1 : o.S) (p2 : o.S) (p3 : o.S) (p4 : o.S) (p5 : o.S) : Int :=
  bif m44_0 o (m73_0 o p1 p2 p3 p4 p5) (m73_1 o p1 p2 p3 p4 p5) then
    (0 : Int)
  else
    (4 : Int)
theorem val51 (o : FO) (p0 : o.S) (p1 : o.S) (p2 : o.S) (p3 : o.S) (p4 : o.S) (p5 : o.S) : f51 o p0 p1 p2 p3 p4 p5 = some (.tup [.agg [.f32 (m51_0 o p0 p1 p2 p3 p4 p5), .f32 (m51_1 o p0 p1 p2 p3 p4 p5), .f32 (m51_2 o p0 p1 p2 p3 p4 p5)], .int .i64 (m51_3 o p0 p1 p2 p3 p4 p5)], []) := by
  unfold f51 m51_0 m51_1 m51_2 m51_3
  try dsimp only
  cases (m44_0 o (m73_0 o p1 p2 p3 p4 p5) (m73_1 o p1 p2 p3 p4 p5))
  · rfl
  · rfl

noncomputable def e51 (o : FO) : List (AV o) → Tr (AV o)
  | [.agg [.f32 p0, .f32 p1, .f32 p2], .agg [.f32 p3, .f32 p4], .f32 p5] => .leaf (.tup [.agg [.f32 (m51_0 o p0 p1 p2 p3 p4 p5), .f32 (m51_1 o p0 p1 p2 p3 p4 p5), .f32 (m51_2 o p0 p1 p2 p3 p4 p5)], .int .i64 (m51_3 o p0 p1 p2 p3 p4 p5)])
  | _ => .fail
theorem ok51 (N : Nat) (hN : 4096 ≤ N) : CalOk Try.prog 51 (.pure (e51 ieee)) := by
  refine calOk_pure (cok51 4096 (Nat.le_refl _)) (is51 4096) ?_
  intro args av hg
  unfold e51 at hg
  split at hg
  · cases hg
    exact ⟨rfl, rfl, _, (eq51 ieee 4096 _ _ _ _ _ _).trans (val51 ieee _ _ _ _ _ _)⟩
  · cases hg

/-! loop.example/g01224/impl.MixParcels -/
noncomputable def f21 (o : FO) (p0 : o.S) (p1 : o.S) (p2 : o.S) (p3 : o.S) (p4 : o.S) (p5 : o.S) (p6 : o.S) : R o :=
  bif m16_0 o p0 p1 p2 then
    bif m16_0 o p3 p4 p5 then
      bif !(m50_0 o p6) then
        some (.tup [.agg [.f32 (o.slit 0), .f32 (o.slit 0), .f32 (o.slit 0)], .int .i64 (2 : Int)], [])
      else
        some (.tup [.agg [.f32 (m51_0 o p0 p1 p2 p4 p5 p6), .f32 (m51_1 o p0 p1 p2 p4 p5 p6), .f32 (m51_2 o p0 p1 p2 p4 p5 p6)], .int .i64 (m51_3 o p0 p1 p2 p4 p5 p6)], [])
    else
      some (.tup [.agg [.f32 (o.slit 0), .f32 (o.slit 0), .f32 (o.slit 0)], .int .i64 (1 : Int)], [])
  else
    some (.tup [.agg [.f32 (o.slit 0), .f32 (o.slit 0), .f32 (o.slit 0)], .int .i64 (1 : Int)], [])
noncomputable def c21 (o : FO) (N : Nat) : Cx o :=
  { ty := tab [(22, ty22 o), (28, ty28 o), (30, ty30 o)]
    fn := tab [(16, .pure (e16 o)), (50, .pure (e50 o)), (51, .pure (e51 o))]
    rounds := 4096, nt := 30, base := 0
    loops := [] }
noncomputable def b21 : Code := match Try.f21.body with | some b => b | none => .skip
theorem is21 (N : Nat) : FnIs Try.prog (c21 ieee N) 21 Try.f21 b21 := ⟨by kernel_rfl, by kernel_rfl, by kernel_rfl, by kernel_rfl⟩
theorem eq21 (o : FO) (N : Nat) (p0 : o.S) (p1 : o.S) (p2 : o.S) (p3 : o.S) (p4 : o.S) (p5 : o.S) (p6 : o.S) : afun (c21 o N) Try.f21.results.toList b21 [.agg [.f32 p0, .f32 p1, .f32 p2], .agg [.f32 p3, .f32 p4, .f32 p5], .f32 p6] [] = f21 o p0 p1 p2 p3 p4 p5 p6 := by kernel_rfl
theorem cok21 (N : Nat) (hN : 4096 ≤ N) : CtxOk Try.prog (c21 ieee N) := by
  refine ctxOk ?_ ?_ mixed ?_
  · intro p hp
    simp only [List.mem_cons, List.not_mem_nil, or_false] at hp
    rcases hp with rfl | rfl | rfl
    · exact tyOk22
    · exact tyOk28
    · exact tyOk30
  · intro p hp
    simp only [List.mem_cons, List.not_mem_nil, or_false] at hp
    rcases hp with rfl | rfl | rfl
    · exact ok16 N hN
    · exact ok50 N hN
    · exact ok51 N hN
  · intro p hp; cases hp
noncomputable def m21_0 (o : FO) (p0 : o.S) (p1 : o.S) (p2 : o.S) (p3 : o.S) (p4 : o.S) (p5 : o.S) (p6 : o.S) : o.S :=
  bif m16_0 o p0 p1 p2 then
    bif m16_0 o p3 p4 p5 then
      bif m50_0 o p6 then
        m51_0 o p0 p1 p2 p4 p5 p6
      else
        (o.slit 0)
    else
      (o.slit 0)
  else
    (o.slit 0)
noncomputable def m21_1 (o : FO) (p0 : o.S) (p1 : o.S) (p2 : o.S) (p3 : o.S) (p4 : o.S) (p5 : o.S) (p6 : o.S) : o.S :=
  bif m16_0 o p0 p1 p2 then
    bif m16_0 o p3 p4 p5 then
      bif m50_0 o p6 then
        m51_1 o p0 p1 p2 p4 p5 p6
      else
        (o.slit 0)
    else
      (o.slit 0)
  else
    (o.slit 0)
noncomputable def m21_2 (o : FO) (p0 : o.S) (p1 : o.S) (p2 : o.S) (p3 : o.S) (p4 : o.S) (p5 : o.S) (p6 : o.S) : o.S :=
  bif m16_0 o p0 p1 p2 then
    bif m16_0 o p3 p4 p5 then
      bif m50_0 o p6 then
        m51_2 o p0 p1 p2 p4 p5 p6
      else
        (o.slit 0)
    else
      (o.slit 0)
  else
    (o.slit 0)
noncomputable def m21_3 (o : FO) (p0 : o.S) (p1 : o.S) (p2 : o.S) (p3 : o.S) (p4 : o.S) (p5 : o.S) (p6 : o.S) : Int :=
  bif m16_0 o p0 p1 p2 then
    bif m16_0 o p3 p4 p5 then
      bif m50_0 o p6 then
        m51_3 o p0 p1 p2 p4 p5 p6
      else
        (2 : Int)
    else
      (1 : Int)
  else
    (1 : Int)
theorem val21 (o : FO) (p0 : o.S) (p1 : o.S) (p2 : o.S) (p3 : o.S) (p4 : o.S) (p5 : o.S) (p6 : o.S) : f21 o p0 p1 p2 p3 p4 p5 p6 = some (.tup [.agg [.f32 (m21_0 o p0 p1 p2 p3 p4 p5 p6), .f32 (m21_1 o p0 p1 p2 p3 p4 p5 p6), .f32 (m21_2 o p0 p1 p2 p3 p4 p5 p6)], .int .i64 (m21_3 o p0 p1 p2 p3 p4 p5 p6)], []) := by
  unfold f21 m21_0 m21_1 m21_2 m21_3
  try dsimp only
  cases (m16_0 o p0 p1 p2)
  · rfl
  · cases (m16_0 o p3 p4 p5)
    · rfl
    · cases (m50_0 o p6)
      · rfl
      · rfl

noncomputable def e21 (o : FO) : List (AV o) → Tr (AV o)
  | [.agg [.f32 p0, .f32 p1, .f32 p2], .agg [.f32 p3, .f32 p4, .f32 p5], .f32 p6] => .leaf (.tup [.agg [.f32 (m21_0 o p0 p1 p2 p3 p4 p5 p6), .f32 (m21_1 o p0 p1 p2 p3 p4 p5 p6), .f32 (m21_2 o p0 p1 p2 p3 p4 p5 p6)], .int .i64 (m21_3 o p0 p1 p2 p3 p4 p5 p6)])
  | _ => .fail
theorem ok21 (N : Nat) (hN : 4096 ≤ N) : CalOk Try.prog 21 (.pure (e21 ieee)) := by
  refine calOk_pure (cok21 4096 (Nat.le_refl _)) (is21 4096) ?_
  intro args av hg
  unfold e21 at hg
  split at hg
  · cases hg
    exact ⟨rfl, rfl, _, (eq21 ieee 4096 _ _ _ _ _ _ _).trans (val21 ieee _ _ _ _ _ _ _)⟩
  · cases hg

/-! loop.example/g01224/laws.FnExactMixParcels -/
noncomputable def f6 (o : FO) (p0 : o.S) (p1 : o.S) (p2 : o.S) (p3 : o.S) (p4 : o.S) (p5 : o.S) (p6 : o.S) : R o :=
  bif m19_0 o (m21_0 o p0 p1 p2 p3 p4 p5 p6) (m21_1 o p0 p1 p2 p3 p4 p5 p6) (m21_2 o p0 p1 p2 p3 p4 p5 p6) (m20_0 o p0 p1 p2 p3 p4 p5 p6) (m20_1 o p0 p1 p2 p3 p4 p5 p6) (m20_2 o p0 p1 p2 p3 p4 p5 p6) then
    bif (m21_3 o p0 p1 p2 p3 p4 p5 p6) != (m20_3 o p0 p1 p2 p3 p4 p5 p6) then
      some (.bool false, [])
    else
      some (.bool true, [])
  else
    some (.bool false, [])
noncomputable def c6 (o : FO) (N : Nat) : Cx o :=
  { ty := tab [(26, ty26 o), (30, ty30 o)]
    fn := tab [(13, .pure (e13 o)), (19, .pure (e19 o)), (20, .pure (e20 o)), (21, .pure (e21 o))]
    rounds := 4096, nt := 38, base := 0
    loops := [] }
noncomputable def b6 : Code := match Try.f6.body with | some b => b | none => .skip
theorem is6 (N : Nat) : FnIs Try.prog (c6 ieee N) 6 Try.f6 b6 := ⟨by kernel_rfl, by kernel_rfl, by kernel_rfl, by kernel_rfl⟩
theorem eq6 (o : FO) (N : Nat) (p0 : o.S) (p1 : o.S) (p2 : o.S) (p3 : o.S) (p4 : o.S) (p5 : o.S) (p6 : o.S) : afun (c6 o N) Try.f6.results.toList b6 [.agg [.f32 p0, .f32 p1, .f32 p2], .agg [.f32 p3, .f32 p4, .f32 p5], .f32 p6] [] = f6 o p0 p1 p2 p3 p4 p5 p6 := by kernel_rfl
theorem cok6 (N : Nat) (hN : 4096 ≤ N) : CtxOk Try.prog (c6 ieee N) := by
  refine ctxOk ?_ ?_ mixed ?_
  · intro p hp
    simp only [List.mem_cons, List.not_mem_nil, or_false] at hp
    rcases hp with rfl | rfl
    · exact tyOk26
    · exact tyOk30
  · intro p hp
    simp only [List.mem_cons, List.not_mem_nil, or_false] at hp
    rcases hp with rfl | rfl | rfl | rfl
    · exact ok13 N hN
    · exact ok19 N hN
    · exact ok20 N hN
    · exact ok21 N hN
  · intro p hp; cases hp
noncomputable def m6_0 (o : FO) (p0 : o.S) (p1 : o.S) (p2 : o.S) (p3 : o.S) (p4 : o.S) (p5 : o.S) (p6 : o.S) : Bool :=
  bif m19_0 o (m21_0 o p0 p1 p2 p3 p4 p5 p6) (m21_1 o p0 p1 p2 p3 p4 p5 p6) (m21_2 o p0 p1 p2 p3 p4 p5 p6) (m20_0 o p0 p1 p2 p3 p4 p5 p6) (m20_1 o p0 p1 p2 p3 p4 p5 p6) (m20_2 o p0 p1 p2 p3 p4 p5 p6) then
    bif (m21_3 o p0 p1 p2 p3 p4 p5 p6) != (m20_3 o p0 p1 p2 p3 p4 p5 p6) then
      false
    else
      true
  else
    false
theorem val6 (o : FO) (p0 : o.S) (p1 : o.S) (p2 : o.S) (p3 : o.S) (p4 : o.S) (p5 : o.S) (p6 : o.S) : f6 o p0 p1 p2 p3 p4 p5 p6 = some (.bool (m6_0 o p0 p1 p2 p3 p4 p5 p6), []) := by
  unfold f6 m6_0
  try dsimp only
  cases (m19_0 o (m21_0 o p0 p1 p2 p3 p4 p5 p6) (m21_1 o p0 p1 p2 p3 p4 p5 p6) (m21_2 o p0 p1 p2 p3 p4 p5 p6) (m20_0 o p0 p1 p2 p3 p4 p5 p6) (m20_1 o p0 p1 p2 p3 p4 p5 p6) (m20_2 o p0 p1 p2 p3 p4 p5 p6))
  · rfl
  · cases ((m21_3 o p0 p1 p2 p3 p4 p5 p6) != (m20_3 o p0 p1 p2 p3 p4 p5 p6))
    · rfl
    · rfl

noncomputable def e6 (o : FO) : List (AV o) → Tr (AV o)
  | [.agg [.f32 p0, .f32 p1, .f32 p2], .agg [.f32 p3, .f32 p4, .f32 p5], .f32 p6] => .leaf (.bool (m6_0 o p0 p1 p2 p3 p4 p5 p6))
  | _ => .fail
theorem ok6 (N : Nat) (hN : 4096 ≤ N) : CalOk Try.prog 6 (.pure (e6 ieee)) := by
  refine calOk_pure (cok6 4096 (Nat.le_refl _)) (is6 4096) ?_
  intro args av hg
  unfold e6 at hg
  split at hg
  · cases hg
    exact ⟨rfl, rfl, _, (eq6 ieee 4096 _ _ _ _ _ _ _).trans (val6 ieee _ _ _ _ _ _ _)⟩
  · cases hg

end Go.Proofs.Ytimbfpcjnbnpmaa
