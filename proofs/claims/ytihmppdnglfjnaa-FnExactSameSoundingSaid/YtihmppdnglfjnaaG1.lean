import Derived.Test.YtihmppdnglfjnaaG0
set_option linter.unusedVariables false
set_option maxRecDepth 100000
namespace Go.Proofs.Ytihmppdnglfjnaa
open Go.Ab Go.RowKit

/-! loop.example/g01224/laws.szLevelS -/
noncomputable def f15 (o : FO) (p0 : Nat) (p1 : Int) (p2 : List (AV o)) : R o :=
  let v1 : Int := IntKind.wrap .i64 (p1 - ((p0 : Nat) : Int))
  bif decide (v1 < (0 : Int)) then
    some (.int .i64 (-1 : Int), [.live false true p2])
  else
    some (.int .i64 v1, [.live false true p2])
noncomputable def c15 (o : FO) (N : Nat) : Cx o :=
  { ty := tab [(22, ty22 o)]
    fn := tab []
    rounds := 4096, nt := 12, base := 1
    loops := [] }
noncomputable def b15 : Code := match Try.f15.body with | some b => b | none => .skip
theorem is15 (N : Nat) : FnIs Try.prog (c15 ieee N) 15 Try.f15 b15 := ⟨by kernel_rfl, by kernel_rfl, by kernel_rfl, by kernel_rfl⟩
theorem eq15 (o : FO) (N : Nat) (p0 : Nat) (p1 : Int) (p2 : List (AV o)) : afun (c15 o N) Try.f15.results.toList b15 [.slice 0 0 p0 3, .int .i64 p1] [.live false true p2] = f15 o p0 p1 p2 := by kernel_rfl
theorem cok15 (N : Nat) (hN : 4096 ≤ N) : CtxOk Try.prog (c15 ieee N) := by
  refine ctxOk ?_ ?_ mixed ?_
  · intro p hp
    simp only [List.mem_cons, List.not_mem_nil, or_false] at hp
    subst hp; exact tyOk22
  · intro p hp; cases hp
  · intro p hp; cases hp
noncomputable def m15_0 (o : FO) (p0 : Nat) (p1 : Int) (p2 : List (AV o)) : Int :=
  let v1 : Int := IntKind.wrap .i64 (p1 - ((p0 : Nat) : Int))
  bif decide (v1 < (0 : Int)) then
    (-1 : Int)
  else
    v1
theorem val15 (o : FO) (p0 : Nat) (p1 : Int) (p2 : List (AV o)) : f15 o p0 p1 p2 = some (.int .i64 (m15_0 o p0 p1 p2), [.live false true p2]) := by
  unfold f15 m15_0
  try dsimp only
  cases (decide ((IntKind.wrap .i64 (p1 - ((p0 : Nat) : Int))) < (0 : Int)))
  · rfl
  · rfl

noncomputable def e15 (o : FO) : List (AV o) → Heap o → Tr (AV o)
  | [.slice 0 0 p0 3, .int .i64 p1], [.live _ true p2] => .leaf (.int .i64 (m15_0 o p0 p1 p2))
  | _, _ => .fail
theorem ok15 (N : Nat) (hN : 4096 ≤ N) : CalOk Try.prog 15 (.ro (e15 ieee)) := by
  refine calOk_ro (cok15 2000000 (by decide)) (is15 2000000) ?_
  intro args h av hg
  unfold e15 at hg
  split at hg
  · cases hg
    exact ⟨rfl, _, (eq15 ieee 2000000 _ _ _).trans (val15 ieee _ _ _)⟩
  · cases hg

/-! loop.example/g01224/laws.toAir -/
noncomputable def f72 (o : FO) (p0 : o.S) (p1 : o.S) : R o :=
  some (.agg [.f32 p0, .f32 p1], [])
noncomputable def c72 (o : FO) (N : Nat) : Cx o :=
  { ty := tab [(30, ty30 o), (43, ty43 o), (48, ty48 o)]
    fn := tab []
    rounds := 4096, nt := 11, base := 0
    loops := [] }
noncomputable def b72 : Code := match Try.f72.body with | some b => b | none => .skip
theorem is72 (N : Nat) : FnIs Try.prog (c72 ieee N) 72 Try.f72 b72 := ⟨by kernel_rfl, by kernel_rfl, by kernel_rfl, by kernel_rfl⟩
theorem eq72 (o : FO) (N : Nat) (p0 : o.S) (p1 : o.S) : afun (c72 o N) Try.f72.results.toList b72 [.agg [.f32 p0, .f32 p1]] [] = f72 o p0 p1 := by kernel_rfl
theorem cok72 (N : Nat) (hN : 4096 ≤ N) : CtxOk Try.prog (c72 ieee N) := by
  refine ctxOk ?_ ?_ mixed ?_
  · intro p hp
    simp only [List.mem_cons, List.not_mem_nil, or_false] at hp
    rcases hp with rfl | rfl | rfl
    · exact tyOk30
    · exact tyOk43
    · exact tyOk48
  · intro p hp; cases hp
  · intro p hp; cases hp
theorem val72 (o : FO) (p0 : o.S) (p1 : o.S) : f72 o p0 p1 = some (.agg [.f32 p0, .f32 p1], []) := by
  unfold f72
  rfl

noncomputable def e72 (o : FO) : List (AV o) → Tr (AV o)
  | [.agg [.f32 p0, .f32 p1]] => .leaf (.agg [.f32 p0, .f32 p1])
  | _ => .fail
theorem ok72 (N : Nat) (hN : 4096 ≤ N) : CalOk Try.prog 72 (.pure (e72 ieee)) := by
  refine calOk_pure (cok72 2000000 (by decide)) (is72 2000000) ?_
  intro args av hg
  unfold e72 at hg
  split at hg
  · cases hg
    exact ⟨rfl, rfl, _, (eq72 ieee 2000000 _ _).trans (val72 ieee _ _)⟩
  · cases hg

/-! loop.example/g01224/laws.toLevel -/
noncomputable def f53 (o : FO) (p0 : o.S) (p1 : o.S) (p2 : o.S) : R o :=
  some (.agg [.f32 p0, .f32 p1, .f32 p2], [])
noncomputable def c53 (o : FO) (N : Nat) : Cx o :=
  { ty := tab [(30, ty30 o), (43, ty43 o), (48, ty48 o), (66, ty66 o), (73, ty73 o)]
    fn := tab [(72, .pure (e72 o))]
    rounds := 4096, nt := 12, base := 0
    loops := [] }
noncomputable def b53 : Code := match Try.f53.body with | some b => b | none => .skip
theorem is53 (N : Nat) : FnIs Try.prog (c53 ieee N) 53 Try.f53 b53 := ⟨by kernel_rfl, by kernel_rfl, by kernel_rfl, by kernel_rfl⟩
theorem eq53 (o : FO) (N : Nat) (p0 : o.S) (p1 : o.S) (p2 : o.S) : afun (c53 o N) Try.f53.results.toList b53 [.agg [.f32 p0, .f32 p1, .f32 p2]] [] = f53 o p0 p1 p2 := by kernel_rfl
theorem cok53 (N : Nat) (hN : 4096 ≤ N) : CtxOk Try.prog (c53 ieee N) := by
  refine ctxOk ?_ ?_ mixed ?_
  · intro p hp
    simp only [List.mem_cons, List.not_mem_nil, or_false] at hp
    rcases hp with rfl | rfl | rfl | rfl | rfl
    · exact tyOk30
    · exact tyOk43
    · exact tyOk48
    · exact tyOk66
    · exact tyOk73
  · intro p hp
    simp only [List.mem_cons, List.not_mem_nil, or_false] at hp
    subst hp; exact ok72 N hN
  · intro p hp; cases hp
theorem val53 (o : FO) (p0 : o.S) (p1 : o.S) (p2 : o.S) : f53 o p0 p1 p2 = some (.agg [.f32 p0, .f32 p1, .f32 p2], []) := by
  unfold f53
  rfl

noncomputable def e53 (o : FO) : List (AV o) → Tr (AV o)
  | [.agg [.f32 p0, .f32 p1, .f32 p2]] => .leaf (.agg [.f32 p0, .f32 p1, .f32 p2])
  | _ => .fail
theorem ok53 (N : Nat) (hN : 4096 ≤ N) : CalOk Try.prog 53 (.pure (e53 ieee)) := by
  refine calOk_pure (cok53 2000000 (by decide)) (is53 2000000) ?_
  intro args av hg
  unfold e53 at hg
  split at hg
  · cases hg
    exact ⟨rfl, rfl, _, (eq53 ieee 2000000 _ _ _).trans (val53 ieee _ _ _)⟩
  · cases hg

/-! loop.example/g01224/laws.toLevelS -/
noncomputable def f17_L0 (o : FO) (N : Nat) (s0 : Nat × Nat × Int × List (AV o) × List (AV o) → R o) (a : Nat × Nat × Int × List (AV o) × List (AV o)) : R o :=
  bif decide (a.2.2.1 < ((a.1 : Nat) : Int)) then
    gd (decide (0 ≤ a.2.2.1) && decide (a.2.2.1 < ((a.1 : Nat) : Int))) (
    rdS a.2.2.2.1 (0 + (((a.2.2.1).toNat) * 3)) fun x1 =>
    rdS a.2.2.2.1 ((0 + (((a.2.2.1).toNat) * 3)) + 1) fun x2 =>
    rdS a.2.2.2.1 (((0 + (((a.2.2.1).toNat) * 3)) + 1) + 1) fun x3 =>
    gd (decide (0 ≤ a.2.2.1) && decide (a.2.2.1 < ((a.2.1 : Nat) : Int))) (
    wrA a.2.2.2.2 (0 + (((a.2.2.1).toNat) * 3)) 3 [.f32 x1, .f32 x2, .f32 x3] fun c4 =>
    s0 (a.1, a.2.1, IntKind.wrap .i64 (a.2.2.1 + (1 : Int)), a.2.2.2.1, c4)))
  else
    some (.slice 1 0 a.2.1 3, [.live false true a.2.2.2.1, .live true true a.2.2.2.2])
noncomputable def f17_D0 (o : FO) (vs : List (AV o)) (h : Heap o) : Option (Nat × Nat × Int × List (AV o) × List (AV o)) :=
  match vs, h with
  | [.slice 0 0 a0_0 3, .slice 1 0 a0_1 3, .int .i64 a0_2], [.live false true a0_3, .live true true a0_4] => some (a0_0, a0_1, a0_2, a0_3, a0_4)
  | _, _ => none
noncomputable def f17_E0 (o : FO) (a : Nat × Nat × Int × List (AV o) × List (AV o)) : List (AV o) × Heap o := ([.slice 0 0 a.1 3, .slice 1 0 a.2.1 3, .int .i64 a.2.2.1], [.live false true a.2.2.2.1, .live true true a.2.2.2.2])
theorem f17_DE0 (o : FO) : ∀ vs h a, f17_D0 o vs h = some a → f17_E0 o a = (vs, h) := by
  intro vs h a hx
  unfold f17_D0 at hx
  split at hx
  · cases hx; rfl
  · cases hx
noncomputable def f17 (o : FO) (N : Nat) (p0 : Nat) (p1 : List (AV o)) : R o :=
  gd (decide (0 ≤ ((p0 : Nat) : Int)) && (decide (((p0 : Nat) : Int) = ((p0 : Nat) : Int)) && (decide (((p0 : Nat) : Int) * ((3 : Nat) : Int) ≤ 16777216) && (decide (((12 : Nat) : Int) * ((p0 : Nat) : Int) ≤ 281474976710656) && decide (((p0 : Nat) : Int) ≤ 9223372036854775807))))) (
  iter (f17_L0 o N) N (p0, (((p0 : Nat) : Int)).toNat, (0 : Int), p1, zeros [.f32 (o.slit 0), .f32 (o.slit 0), .f32 (o.slit 0)] ((((p0 : Nat) : Int)).toNat)))
noncomputable def c17 (o : FO) (N : Nat) : Cx o :=
  { ty := tab [(22, ty22 o), (25, ty25 o), (66, ty66 o), (73, ty73 o)]
    fn := tab [(53, .pure (e53 o))]
    rounds := N, nt := 23, base := 1
    loops := [loopD [0, 3, 4] (f17_D0 o) (f17_E0 o)] }
noncomputable def b17 : Code := match Try.f17.body with | some b => b | none => .skip
theorem is17 (N : Nat) : FnIs Try.prog (c17 ieee N) 17 Try.f17 b17 := ⟨by kernel_rfl, by kernel_rfl, by kernel_rfl, by kernel_rfl⟩
theorem eq17 (o : FO) (N : Nat) (p0 : Nat) (p1 : List (AV o)) : afun (c17 o N) Try.f17.results.toList b17 [.slice 0 0 p0 3] [.live false true p1] = f17 o N p0 p1 := by kernel_rfl
theorem cok17 (N : Nat) (hN : 4096 ≤ N) : CtxOk Try.prog (c17 ieee N) := by
  refine ctxOk ?_ ?_ mixed ?_
  · intro p hp
    simp only [List.mem_cons, List.not_mem_nil, or_false] at hp
    rcases hp with rfl | rfl | rfl | rfl
    · exact tyOk22
    · exact tyOk25
    · exact tyOk66
    · exact tyOk73
  · intro p hp
    simp only [List.mem_cons, List.not_mem_nil, or_false] at hp
    subst hp; exact ok53 N hN
  · intro p hp
    simp only [List.mem_cons, List.not_mem_nil, or_false] at hp
    subst hp; exact loopD_ok _ _ _ (f17_DE0 ieee)
noncomputable def k17 (o : FO) : R o → Bool := fun r => match r with | some (.slice 1 0 _ 3, [.live false true _, .live true true _]) => true | _ => false
theorem k17_c (o : FO) (b : Bool) (x y : R o) : k17 o (bif b then x else y) = bif b then k17 o x else k17 o y := by cases b <;> rfl
noncomputable def m17_ok (o : FO) (p0 : Nat) (p1 : List (AV o)) : Bool := k17 o (f17 o 2000000 p0 p1)
noncomputable def g17_0 (o : FO) : R o → Nat := fun r => match r with | some (.slice 1 0 r0 3, [.live false true _, .live true true _]) => r0 | _ => 0
theorem g17_0c (o : FO) (b : Bool) (x y : R o) : g17_0 o (bif b then x else y) = bif b then g17_0 o x else g17_0 o y := by cases b <;> rfl
noncomputable def m17_0 (o : FO) (p0 : Nat) (p1 : List (AV o)) : Nat := g17_0 o (f17 o 2000000 p0 p1)
noncomputable def g17_1 (o : FO) : R o → List (AV o) := fun r => match r with | some (.slice 1 0 _ 3, [.live false true r1, .live true true _]) => r1 | _ => []
theorem g17_1c (o : FO) (b : Bool) (x y : R o) : g17_1 o (bif b then x else y) = bif b then g17_1 o x else g17_1 o y := by cases b <;> rfl
noncomputable def m17_1 (o : FO) (p0 : Nat) (p1 : List (AV o)) : List (AV o) := g17_1 o (f17 o 2000000 p0 p1)
noncomputable def g17_2 (o : FO) : R o → List (AV o) := fun r => match r with | some (.slice 1 0 _ 3, [.live false true _, .live true true r2]) => r2 | _ => []
theorem g17_2c (o : FO) (b : Bool) (x y : R o) : g17_2 o (bif b then x else y) = bif b then g17_2 o x else g17_2 o y := by cases b <;> rfl
noncomputable def m17_2 (o : FO) (p0 : Nat) (p1 : List (AV o)) : List (AV o) := g17_2 o (f17 o 2000000 p0 p1)
theorem val17 (o : FO) (p0 : Nat) (p1 : List (AV o)) (h : m17_ok o p0 p1 = true) : f17 o 2000000 p0 p1 = some (.slice 1 0 (m17_0 o p0 p1) 3, [.live false true (m17_1 o p0 p1), .live true true (m17_2 o p0 p1)]) := by
  unfold m17_ok k17 at h
  unfold m17_0 g17_0 m17_1 g17_1 m17_2 g17_2
  generalize f17 o 2000000 p0 p1 = r at h ⊢
  split at h
  · rfl
  · cases h

noncomputable def e17 (o : FO) : List (AV o) → Heap o → Tr (AV o × Heap o)
  | [.slice 0 0 p0 3], [.live false true p1] => .br (m17_ok o p0 p1) (.leaf ((.slice 1 0 (m17_0 o p0 p1) 3, [.live false true (m17_1 o p0 p1), .live true true (m17_2 o p0 p1)]))) .fail
  | _, _ => .fail
theorem ok17 (N : Nat) (hN : 4096 ≤ N) : CalOk Try.prog 17 (.rw (e17 ieee)) := by
  refine calOk_rw (cok17 2000000 (by decide)) (is17 2000000) ?_
  intro args h av h2 hg
  unfold e17 at hg
  split at hg
  · obtain ⟨h0, hg⟩ := br_get hg
    cases hg
    exact (eq17 ieee 2000000 _ _).trans (val17 ieee _ _ h0)
  · cases hg

/-! math.Float32bits -/
noncomputable def e83 (o : FO) : List (AV o) → Tr (AV o) := eBitsS o
theorem ok83 (N : Nat) (_ : 4096 ≤ N) : CalOk Try.prog 83 (.pure (e83 ieee)) := calOk_bitsS (fn := Try.f83) (by kernel_rfl) (by kernel_rfl) (by kernel_rfl) (by kernel_rfl) (by kernel_rfl)

/-! loop.example/g01224/spec.l01Same -/
noncomputable def f51 (o : FO) (p0 : o.S) (p1 : o.S) : R o :=
  let v1 : Bool := !(o.seq p0 p0)
  bif v1 then
    bif v1 then
      bif !(o.seq p1 p1) then
        some (.bool true, [])
      else
        some (.bool false, [])
    else
      some (.bool false, [])
  else
    let v2 : Bool := !(o.seq p1 p1)
    bif v2 then
      bif v1 then
        bif v2 then
          some (.bool true, [])
        else
          some (.bool false, [])
      else
        some (.bool false, [])
    else
      gd (o.seq p0 p0) (
      gd (o.seq p1 p1) (
      some (.bool ((o.sbits p0) == (o.sbits p1)), [])))
noncomputable def c51 (o : FO) (N : Nat) : Cx o :=
  { ty := tab []
    fn := tab [(83, .pure (e83 o))]
    rounds := 4096, nt := 26, base := 0
    loops := [] }
noncomputable def b51 : Code := match Try.f51.body with | some b => b | none => .skip
theorem is51 (N : Nat) : FnIs Try.prog (c51 ieee N) 51 Try.f51 b51 := ⟨by kernel_rfl, by kernel_rfl, by kernel_rfl, by kernel_rfl⟩
theorem eq51 (o : FO) (N : Nat) (p0 : o.S) (p1 : o.S) : afun (c51 o N) Try.f51.results.toList b51 [.f32 p0, .f32 p1] [] = f51 o p0 p1 := by kernel_rfl
theorem cok51 (N : Nat) (hN : 4096 ≤ N) : CtxOk Try.prog (c51 ieee N) := by
  refine ctxOk ?_ ?_ mixed ?_
  · intro p hp; cases hp
  · intro p hp
    simp only [List.mem_cons, List.not_mem_nil, or_false] at hp
    subst hp; exact ok83 N hN
  · intro p hp; cases hp
noncomputable def m51_0 (o : FO) (p0 : o.S) (p1 : o.S) : Bool :=
  bif o.seq p0 p0 then
    bif o.seq p1 p1 then
      (o.sbits p0) == (o.sbits p1)
    else
      false
  else
    bif o.seq p1 p1 then
      false
    else
      true
theorem val51 (o : FO) (p0 : o.S) (p1 : o.S) : f51 o p0 p1 = some (.bool (m51_0 o p0 p1), []) := by
  unfold f51 m51_0
  try dsimp only
  cases (o.seq p0 p0)
  · cases (o.seq p1 p1)
    · rfl
    · rfl
  · cases (o.seq p1 p1)
    · rfl
    · rfl

noncomputable def e51 (o : FO) : List (AV o) → Tr (AV o)
  | [.f32 p0, .f32 p1] => .leaf (.bool (m51_0 o p0 p1))
  | _ => .fail
theorem ok51 (N : Nat) (hN : 4096 ≤ N) : CalOk Try.prog 51 (.pure (e51 ieee)) := by
  refine calOk_pure (cok51 2000000 (by decide)) (is51 2000000) ?_
  intro args av hg
  unfold e51 at hg
  split at hg
  · cases hg
    exact ⟨rfl, rfl, _, (eq51 ieee 2000000 _ _).trans (val51 ieee _ _)⟩
  · cases hg

/-! loop.example/g01224/spec.l02Same -/
noncomputable def f52 (o : FO) (p0 : Nat) (p1 : Nat) (p2 : List (AV o)) (p3 : List (AV o)) : R o :=
  rdS p2 (p0 + 0) fun x1 =>
  rdS p3 (p1 + 0) fun x2 =>
  bif m51_0 o x1 x2 then
    rdS p2 (p0 + 1) fun x3 =>
    rdS p3 (p1 + 1) fun x4 =>
    bif m51_0 o x3 x4 then
      some (.bool true, [.live false true p2, .live false true p3])
    else
      some (.bool false, [.live false true p2, .live false true p3])
  else
    some (.bool false, [.live false true p2, .live false true p3])
noncomputable def c52 (o : FO) (N : Nat) : Cx o :=
  { ty := tab [(30, ty30 o), (43, ty43 o)]
    fn := tab [(51, .pure (e51 o))]
    rounds := 4096, nt := 25, base := 2
    loops := [] }
noncomputable def b52 : Code := match Try.f52.body with | some b => b | none => .skip
theorem is52 (N : Nat) : FnIs Try.prog (c52 ieee N) 52 Try.f52 b52 := ⟨by kernel_rfl, by kernel_rfl, by kernel_rfl, by kernel_rfl⟩
theorem eq52 (o : FO) (N : Nat) (p0 : Nat) (p1 : Nat) (p2 : List (AV o)) (p3 : List (AV o)) : afun (c52 o N) Try.f52.results.toList b52 [.ptr 0 p0, .ptr 1 p1] [.live false true p2, .live false true p3] = f52 o p0 p1 p2 p3 := by kernel_rfl
theorem cok52 (N : Nat) (hN : 4096 ≤ N) : CtxOk Try.prog (c52 ieee N) := by
  refine ctxOk ?_ ?_ mixed ?_
  · intro p hp
    simp only [List.mem_cons, List.not_mem_nil, or_false] at hp
    rcases hp with rfl | rfl
    · exact tyOk30
    · exact tyOk43
  · intro p hp
    simp only [List.mem_cons, List.not_mem_nil, or_false] at hp
    subst hp; exact ok51 N hN
  · intro p hp; cases hp
noncomputable def k52 (o : FO) : R o → Bool := fun r => match r with | some (.bool _, _) => true | _ => false
theorem k52_c (o : FO) (b : Bool) (x y : R o) : k52 o (bif b then x else y) = bif b then k52 o x else k52 o y := by cases b <;> rfl
noncomputable def m52_ok (o : FO) (p0 : Nat) (p1 : Nat) (p2 : List (AV o)) (p3 : List (AV o)) : Bool := k52 o (f52 o p0 p1 p2 p3)
noncomputable def g52_0 (o : FO) : R o → Bool := fun r => match r with | some (.bool r0, _) => r0 | _ => false
theorem g52_0c (o : FO) (b : Bool) (x y : R o) : g52_0 o (bif b then x else y) = bif b then g52_0 o x else g52_0 o y := by cases b <;> rfl
noncomputable def m52_0 (o : FO) (p0 : Nat) (p1 : Nat) (p2 : List (AV o)) (p3 : List (AV o)) : Bool := g52_0 o (f52 o p0 p1 p2 p3)
noncomputable def m52_h (o : FO) (p0 : Nat) (p1 : Nat) (p2 : List (AV o)) (p3 : List (AV o)) : Heap o := match f52 o p0 p1 p2 p3 with | some (_, h) => h | _ => []
theorem val52 (o : FO) (p0 : Nat) (p1 : Nat) (p2 : List (AV o)) (p3 : List (AV o)) (h : m52_ok o p0 p1 p2 p3 = true) : f52 o p0 p1 p2 p3 = some (.bool (m52_0 o p0 p1 p2 p3), m52_h o p0 p1 p2 p3) := by
  unfold m52_ok k52 at h
  unfold m52_0 g52_0 m52_h
  generalize f52 o p0 p1 p2 p3 = r at h ⊢
  split at h
  · rfl
  · cases h

noncomputable def e52 (o : FO) : List (AV o) → Heap o → Tr (AV o)
  | [.ptr 0 p0, .ptr 1 p1], [.live _ true p2, .live _ true p3] => .br (m52_ok o p0 p1 p2 p3) (.leaf (.bool (m52_0 o p0 p1 p2 p3))) .fail
  | _, _ => .fail
theorem ok52 (N : Nat) (hN : 4096 ≤ N) : CalOk Try.prog 52 (.ro (e52 ieee)) := by
  refine calOk_ro (cok52 2000000 (by decide)) (is52 2000000) ?_
  intro args h av hg
  unfold e52 at hg
  split at hg
  · obtain ⟨h0, hg⟩ := br_get hg
    cases hg
    exact ⟨rfl, _, (eq52 ieee 2000000 _ _ _ _).trans (val52 ieee _ _ _ _ h0)⟩
  · cases hg

/-! loop.example/g01224/spec.SameSounding -/
noncomputable def f16_L0 (o : FO) (N : Nat) (s0 : Nat × Nat × Int × List (AV o) × List (AV o) → R o) (a : Nat × Nat × Int × List (AV o) × List (AV o)) : R o :=
  bif decide (a.2.2.1 < ((a.1 : Nat) : Int)) then
    gd (decide (0 ≤ a.2.2.1) && decide (a.2.2.1 < ((a.1 : Nat) : Int))) (
    rdS a.2.2.2.1 ((0 + (((a.2.2.1).toNat) * 3)) + 0) fun x1 =>
    gd (decide (0 ≤ a.2.2.1) && decide (a.2.2.1 < ((a.2.1 : Nat) : Int))) (
    rdS a.2.2.2.2 ((0 + (((a.2.2.1).toNat) * 3)) + 0) fun x2 =>
    bif m51_0 o x1 x2 then
      gd (decide (0 ≤ a.2.2.1) && decide (a.2.2.1 < ((a.1 : Nat) : Int))) (
      gd (decide (0 ≤ a.2.2.1) && decide (a.2.2.1 < ((a.2.1 : Nat) : Int))) (
      gd (m52_ok o ((0 + (((a.2.2.1).toNat) * 3)) + 1) ((0 + (((a.2.2.1).toNat) * 3)) + 1) a.2.2.2.1 a.2.2.2.2) (
      bif m52_0 o ((0 + (((a.2.2.1).toNat) * 3)) + 1) ((0 + (((a.2.2.1).toNat) * 3)) + 1) a.2.2.2.1 a.2.2.2.2 then
        s0 (a.1, a.2.1, IntKind.wrap .i64 (a.2.2.1 + (1 : Int)), a.2.2.2.1, a.2.2.2.2)
      else
        some (.bool false, [.live false true a.2.2.2.1, .live false true a.2.2.2.2]))))
    else
      some (.bool false, [.live false true a.2.2.2.1, .live false true a.2.2.2.2])))
  else
    some (.bool true, [.live false true a.2.2.2.1, .live false true a.2.2.2.2])
noncomputable def f16_D0 (o : FO) (vs : List (AV o)) (h : Heap o) : Option (Nat × Nat × Int × List (AV o) × List (AV o)) :=
  match vs, h with
  | [.slice 0 0 a0_0 3, .slice 1 0 a0_1 3, .int .i64 a0_2], [.live false true a0_3, .live false true a0_4] => some (a0_0, a0_1, a0_2, a0_3, a0_4)
  | _, _ => none
noncomputable def f16_E0 (o : FO) (a : Nat × Nat × Int × List (AV o) × List (AV o)) : List (AV o) × Heap o := ([.slice 0 0 a.1 3, .slice 1 0 a.2.1 3, .int .i64 a.2.2.1], [.live false true a.2.2.2.1, .live false true a.2.2.2.2])
theorem f16_DE0 (o : FO) : ∀ vs h a, f16_D0 o vs h = some a → f16_E0 o a = (vs, h) := by
  intro vs h a hx
  unfold f16_D0 at hx
  split at hx
  · cases hx; rfl
  · cases hx
noncomputable def f16 (o : FO) (N : Nat) (p0 : Nat) (p1 : Nat) (p2 : List (AV o)) (p3 : List (AV o)) : R o :=
  bif ((p0 : Nat) : Int) != ((p1 : Nat) : Int) then
    some (.bool false, [.live false true p2, .live false true p3])
  else
    iter (f16_L0 o N) N (p0, p1, (0 : Int), p2, p3)
noncomputable def c16 (o : FO) (N : Nat) : Cx o :=
  { ty := tab [(25, ty25 o), (30, ty30 o), (43, ty43 o), (66, ty66 o)]
    fn := tab [(51, .pure (e51 o)), (52, .ro (e52 o))]
    rounds := N, nt := 41, base := 2
    loops := [loopD [0, 1, 5] (f16_D0 o) (f16_E0 o)] }
noncomputable def b16 : Code := match Try.f16.body with | some b => b | none => .skip
theorem is16 (N : Nat) : FnIs Try.prog (c16 ieee N) 16 Try.f16 b16 := ⟨by kernel_rfl, by kernel_rfl, by kernel_rfl, by kernel_rfl⟩
theorem eq16 (o : FO) (N : Nat) (p0 : Nat) (p1 : Nat) (p2 : List (AV o)) (p3 : List (AV o)) : afun (c16 o N) Try.f16.results.toList b16 [.slice 0 0 p0 3, .slice 1 0 p1 3] [.live false true p2, .live false true p3] = f16 o N p0 p1 p2 p3 := by kernel_rfl
theorem cok16 (N : Nat) (hN : 4096 ≤ N) : CtxOk Try.prog (c16 ieee N) := by
  refine ctxOk ?_ ?_ mixed ?_
  · intro p hp
    simp only [List.mem_cons, List.not_mem_nil, or_false] at hp
    rcases hp with rfl | rfl | rfl | rfl
    · exact tyOk25
    · exact tyOk30
    · exact tyOk43
    · exact tyOk66
  · intro p hp
    simp only [List.mem_cons, List.not_mem_nil, or_false] at hp
    rcases hp with rfl | rfl
    · exact ok51 N hN
    · exact ok52 N hN
  · intro p hp
    simp only [List.mem_cons, List.not_mem_nil, or_false] at hp
    subst hp; exact loopD_ok _ _ _ (f16_DE0 ieee)
noncomputable def k16 (o : FO) : R o → Bool := fun r => match r with | some (.bool _, _) => true | _ => false
theorem k16_c (o : FO) (b : Bool) (x y : R o) : k16 o (bif b then x else y) = bif b then k16 o x else k16 o y := by cases b <;> rfl
noncomputable def m16_ok (o : FO) (p0 : Nat) (p1 : Nat) (p2 : List (AV o)) (p3 : List (AV o)) : Bool := k16 o (f16 o 2000000 p0 p1 p2 p3)
noncomputable def g16_0 (o : FO) : R o → Bool := fun r => match r with | some (.bool r0, _) => r0 | _ => false
theorem g16_0c (o : FO) (b : Bool) (x y : R o) : g16_0 o (bif b then x else y) = bif b then g16_0 o x else g16_0 o y := by cases b <;> rfl
noncomputable def m16_0 (o : FO) (p0 : Nat) (p1 : Nat) (p2 : List (AV o)) (p3 : List (AV o)) : Bool := g16_0 o (f16 o 2000000 p0 p1 p2 p3)
noncomputable def m16_h (o : FO) (p0 : Nat) (p1 : Nat) (p2 : List (AV o)) (p3 : List (AV o)) : Heap o := match f16 o 2000000 p0 p1 p2 p3 with | some (_, h) => h | _ => []
theorem val16 (o : FO) (p0 : Nat) (p1 : Nat) (p2 : List (AV o)) (p3 : List (AV o)) (h : m16_ok o p0 p1 p2 p3 = true) : f16 o 2000000 p0 p1 p2 p3 = some (.bool (m16_0 o p0 p1 p2 p3), m16_h o p0 p1 p2 p3) := by
  unfold m16_ok k16 at h
  unfold m16_0 g16_0 m16_h
  generalize f16 o 2000000 p0 p1 p2 p3 = r at h ⊢
  split at h
  · rfl
  · cases h

noncomputable def e16 (o : FO) : List (AV o) → Heap o → Tr (AV o)
  | [.slice 0 0 p0 3, .slice 1 0 p1 3], [.live _ true p2, .live _ true p3] => .br (m16_ok o p0 p1 p2 p3) (.leaf (.bool (m16_0 o p0 p1 p2 p3))) .fail
  | _, _ => .fail
theorem ok16 (N : Nat) (hN : 4096 ≤ N) : CalOk Try.prog 16 (.ro (e16 ieee)) := by
  refine calOk_ro (cok16 2000000 (by decide)) (is16 2000000) ?_
  intro args h av hg
  unfold e16 at hg
  split at hg
  · obtain ⟨h0, hg⟩ := br_get hg
    cases hg
    exact ⟨rfl, _, (eq16 ieee 2000000 _ _ _ _).trans (val16 ieee _ _ _ _ h0)⟩
  · cases hg

/-! loop.example/g01224/impl.SameNumber -/
noncomputable def f84 (o : FO) (p0 : o.S) (p1 : o.S) : R o :=
  let v1 : Bool := !(o.seq p0 p0)
  bif v1 then
    bif v1 then
      bif !(o.seq p1 p1) then
        some (.bool true, [])
      else
        some (.bool false, [])
    else
      some (.bool false, [])
  else
    let v2 : Bool := !(o.seq p1 p1)
    bif v2 then
      bif v1 then
        bif v2 then
          some (.bool true, [])
        else
          some (.bool false, [])
      else
        some (.bool false, [])
    else
      gd (o.seq p0 p0) (
      gd (o.seq p1 p1) (
      some (.bool ((o.sbits p0) == (o.sbits p1)), [])))
noncomputable def c84 (o : FO) (N : Nat) : Cx o :=
  { ty := tab []
    fn := tab [(83, .pure (e83 o))]
    rounds := 4096, nt := 26, base := 0
    loops := [] }
noncomputable def b84 : Code := match Try.f84.body with | some b => b | none => .skip
theorem is84 (N : Nat) : FnIs Try.prog (c84 ieee N) 84 Try.f84 b84 := ⟨by kernel_rfl, by kernel_rfl, by kernel_rfl, by kernel_rfl⟩
theorem eq84 (o : FO) (N : Nat) (p0 : o.S) (p1 : o.S) : afun (c84 o N) Try.f84.results.toList b84 [.f32 p0, .f32 p1] [] = f84 o p0 p1 := by kernel_rfl
theorem cok84 (N : Nat) (hN : 4096 ≤ N) : CtxOk Try.prog (c84 ieee N) := by
  refine ctxOk ?_ ?_ mixed ?_
  · intro p hp; cases hp
  · intro p hp
    simp only [List.mem_cons, List.not_mem_nil, or_false] at hp
    subst hp; exact ok83 N hN
  · intro p hp; cases hp
noncomputable def m84_0 (o : FO) (p0 : o.S) (p1 : o.S) : Bool :=
  bif o.seq p0 p0 then
    bif o.seq p1 p1 then
      (o.sbits p0) == (o.sbits p1)
    else
      false
  else
    bif o.seq p1 p1 then
      false
    else
      true
theorem val84 (o : FO) (p0 : o.S) (p1 : o.S) : f84 o p0 p1 = some (.bool (m84_0 o p0 p1), []) := by
  unfold f84 m84_0
  try dsimp only
  cases (o.seq p0 p0)
  · cases (o.seq p1 p1)
    · rfl
    · rfl
  · cases (o.seq p1 p1)
    · rfl
    · rfl

noncomputable def e84 (o : FO) : List (AV o) → Tr (AV o)
  | [.f32 p0, .f32 p1] => .leaf (.bool (m84_0 o p0 p1))
  | _ => .fail
theorem ok84 (N : Nat) (hN : 4096 ≤ N) : CalOk Try.prog 84 (.pure (e84 ieee)) := by
  refine calOk_pure (cok84 2000000 (by decide)) (is84 2000000) ?_
  intro args av hg
  unfold e84 at hg
  split at hg
  · cases hg
    exact ⟨rfl, rfl, _, (eq84 ieee 2000000 _ _).trans (val84 ieee _ _)⟩
  · cases hg

/-! loop.example/g01224/impl.SameAir -/
noncomputable def f85 (o : FO) (p0 : o.S) (p1 : o.S) (p2 : o.S) (p3 : o.S) : R o :=
  bif m84_0 o p0 p2 then
    bif m84_0 o p1 p3 then
      some (.bool true, [])
    else
      some (.bool false, [])
  else
    some (.bool false, [])
noncomputable def c85 (o : FO) (N : Nat) : Cx o :=
  { ty := tab [(30, ty30 o), (43, ty43 o)]
    fn := tab [(84, .pure (e84 o))]
    rounds := 4096, nt := 17, base := 0
    loops := [] }
noncomputable def b85 : Code := match Try.f85.body with | some b => b | none => .skip
theorem is85 (N : Nat) : FnIs Try.prog (c85 ieee N) 85 Try.f85 b85 := ⟨by kernel_rfl, by kernel_rfl, by kernel_rfl, by kernel_rfl⟩
theorem eq85 (o : FO) (N : Nat) (p0 : o.S) (p1 : o.S) (p2 : o.S) (p3 : o.S) : afun (c85 o N) Try.f85.results.toList b85 [.agg [.f32 p0, .f32 p1], .agg [.f32 p2, .f32 p3]] [] = f85 o p0 p1 p2 p3 := by kernel_rfl
theorem cok85 (N : Nat) (hN : 4096 ≤ N) : CtxOk Try.prog (c85 ieee N) := by
  refine ctxOk ?_ ?_ mixed ?_
  · intro p hp
    simp only [List.mem_cons, List.not_mem_nil, or_false] at hp
    rcases hp with rfl | rfl
    · exact tyOk30
    · exact tyOk43
  · intro p hp
    simp only [List.mem_cons, List.not_mem_nil, or_false] at hp
    subst hp; exact ok84 N hN
  · intro p hp; cases hp
noncomputable def m85_0 (o : FO) (p0 : o.S) (p1 : o.S) (p2 : o.S) (p3 : o.S) : Bool :=
  bif m84_0 o p0 p2 then
    m84_0 o p1 p3
  else
    false
theorem val85 (o : FO) (p0 : o.S) (p1 : o.S) (p2 : o.S) (p3 : o.S) : f85 o p0 p1 p2 p3 = some (.bool (m85_0 o p0 p1 p2 p3), []) := by
  unfold f85 m85_0
  try dsimp only
  cases (m84_0 o p0 p2)
  · rfl
  · cases (m84_0 o p1 p3)
    · rfl
    · rfl

noncomputable def e85 (o : FO) : List (AV o) → Tr (AV o)
  | [.agg [.f32 p0, .f32 p1], .agg [.f32 p2, .f32 p3]] => .leaf (.bool (m85_0 o p0 p1 p2 p3))
  | _ => .fail
theorem ok85 (N : Nat) (hN : 4096 ≤ N) : CalOk Try.prog 85 (.pure (e85 ieee)) := by
  refine calOk_pure (cok85 2000000 (by decide)) (is85 2000000) ?_
  intro args av hg
  unfold e85 at hg
  split at hg
  · cases hg
    exact ⟨rfl, rfl, _, (eq85 ieee 2000000 _ _ _ _).trans (val85 ieee _ _ _ _)⟩
  · cases hg

/-! loop.example/g01224/impl.SameParcel -/
noncomputable def f56 (o : FO) (p0 : o.S) (p1 : o.S) (p2 : o.S) (p3 : o.S) (p4 : o.S) (p5 : o.S) : R o :=
  bif m84_0 o p0 p3 then
    bif m85_0 o p1 p2 p4 p5 then
      some (.bool true, [])
    else
      some (.bool false, [])
  else
    some (.bool false, [])
noncomputable def c56 (o : FO) (N : Nat) : Cx o :=
  { ty := tab [(30, ty30 o), (43, ty43 o), (53, ty53 o)]
    fn := tab [(84, .pure (e84 o)), (85, .pure (e85 o))]
    rounds := 4096, nt := 17, base := 0
    loops := [] }
noncomputable def b56 : Code := match Try.f56.body with | some b => b | none => .skip
theorem is56 (N : Nat) : FnIs Try.prog (c56 ieee N) 56 Try.f56 b56 := ⟨by kernel_rfl, by kernel_rfl, by kernel_rfl, by kernel_rfl⟩
theorem eq56 (o : FO) (N : Nat) (p0 : o.S) (p1 : o.S) (p2 : o.S) (p3 : o.S) (p4 : o.S) (p5 : o.S) : afun (c56 o N) Try.f56.results.toList b56 [.agg [.f32 p0, .f32 p1, .f32 p2], .agg [.f32 p3, .f32 p4, .f32 p5]] [] = f56 o p0 p1 p2 p3 p4 p5 := by kernel_rfl
theorem cok56 (N : Nat) (hN : 4096 ≤ N) : CtxOk Try.prog (c56 ieee N) := by
  refine ctxOk ?_ ?_ mixed ?_
  · intro p hp
    simp only [List.mem_cons, List.not_mem_nil, or_false] at hp
    rcases hp with rfl | rfl | rfl
    · exact tyOk30
    · exact tyOk43
    · exact tyOk53
  · intro p hp
    simp only [List.mem_cons, List.not_mem_nil, or_false] at hp
    rcases hp with rfl | rfl
    · exact ok84 N hN
    · exact ok85 N hN
  · intro p hp; cases hp
noncomputable def m56_0 (o : FO) (p0 : o.S) (p1 : o.S) (p2 : o.S) (p3 : o.S) (p4 : o.S) (p5 : o.S) : Bool :=
  bif m84_0 o p0 p3 then
    m85_0 o p1 p2 p4 p5
  else
    false
theorem val56 (o : FO) (p0 : o.S) (p1 : o.S) (p2 : o.S) (p3 : o.S) (p4 : o.S) (p5 : o.S) : f56 o p0 p1 p2 p3 p4 p5 = some (.bool (m56_0 o p0 p1 p2 p3 p4 p5), []) := by
  unfold f56 m56_0
  try dsimp only
  cases (m84_0 o p0 p3)
  · rfl
  · cases (m85_0 o p1 p2 p4 p5)
    · rfl
    · rfl

noncomputable def e56 (o : FO) : List (AV o) → Tr (AV o)
  | [.agg [.f32 p0, .f32 p1, .f32 p2], .agg [.f32 p3, .f32 p4, .f32 p5]] => .leaf (.bool (m56_0 o p0 p1 p2 p3 p4 p5))
  | _ => .fail
theorem ok56 (N : Nat) (hN : 4096 ≤ N) : CalOk Try.prog 56 (.pure (e56 ieee)) := by
  refine calOk_pure (cok56 2000000 (by decide)) (is56 2000000) ?_
  intro args av hg
  unfold e56 at hg
  split at hg
  · cases hg
    exact ⟨rfl, rfl, _, (eq56 ieee 2000000 _ _ _ _ _ _).trans (val56 ieee _ _ _ _ _ _)⟩
  · cases hg

/-! loop.example/g01224/impl.SameSounding$1 -/
noncomputable def f55 (o : FO) (p0 : o.S) (p1 : o.S) (p2 : o.S) (p3 : o.S) (p4 : o.S) (p5 : o.S) : R o :=
  some (.bool (m56_0 o p0 p1 p2 p3 p4 p5), [])
noncomputable def c55 (o : FO) (N : Nat) : Cx o :=
  { ty := tab [(66, ty66 o)]
    fn := tab [(56, .pure (e56 o))]
    rounds := 4096, nt := 8, base := 0
    loops := [] }
noncomputable def b55 : Code := match Try.f55.body with | some b => b | none => .skip
theorem is55 (N : Nat) : FnIs Try.prog (c55 ieee N) 55 Try.f55 b55 := ⟨by kernel_rfl, by kernel_rfl, by kernel_rfl, by kernel_rfl⟩
theorem eq55 (o : FO) (N : Nat) (p0 : o.S) (p1 : o.S) (p2 : o.S) (p3 : o.S) (p4 : o.S) (p5 : o.S) : afun (c55 o N) Try.f55.results.toList b55 [.agg [.f32 p0, .f32 p1, .f32 p2], .agg [.f32 p3, .f32 p4, .f32 p5]] [] = f55 o p0 p1 p2 p3 p4 p5 := by kernel_rfl
theorem cok55 (N : Nat) (hN : 4096 ≤ N) : CtxOk Try.prog (c55 ieee N) := by
  refine ctxOk ?_ ?_ mixed ?_
  · intro p hp
    simp only [List.mem_cons, List.not_mem_nil, or_false] at hp
    subst hp; exact tyOk66
  · intro p hp
    simp only [List.mem_cons, List.not_mem_nil, or_false] at hp
    subst hp; exact ok56 N hN
  · intro p hp; cases hp
noncomputable def m55_0 (o : FO) (p0 : o.S) (p1 : o.S) (p2 : o.S) (p3 : o.S) (p4 : o.S) (p5 : o.S) : Bool :=
  m56_0 o p0 p1 p2 p3 p4 p5
theorem val55 (o : FO) (p0 : o.S) (p1 : o.S) (p2 : o.S) (p3 : o.S) (p4 : o.S) (p5 : o.S) : f55 o p0 p1 p2 p3 p4 p5 = some (.bool (m55_0 o p0 p1 p2 p3 p4 p5), []) := by
  unfold f55 m55_0
  rfl

noncomputable def e55 (o : FO) : List (AV o) → Tr (AV o)
  | [.agg [.f32 p0, .f32 p1, .f32 p2], .agg [.f32 p3, .f32 p4, .f32 p5]] => .leaf (.bool (m55_0 o p0 p1 p2 p3 p4 p5))
  | _ => .fail
theorem ok55 (N : Nat) (hN : 4096 ≤ N) : CalOk Try.prog 55 (.pure (e55 ieee)) := by
  refine calOk_pure (cok55 2000000 (by decide)) (is55 2000000) ?_
  intro args av hg
  unfold e55 at hg
  split at hg
  · cases hg
    exact ⟨rfl, rfl, _, (eq55 ieee 2000000 _ _ _ _ _ _).trans (val55 ieee _ _ _ _ _ _)⟩
  · cases hg

/-! slices.EqualFunc[[]loop.example/g01224/impl.Level,[]loop.example/g01224/impl.Level,loop.example/g01224/impl.Level,loop.example/g01224/impl.Level] -/
noncomputable def f54_L0 (o : FO) (N : Nat) (s0 : Nat × Nat × Int × Int × List (AV o) × List (AV o) → R o) (a : Nat × Nat × Int × Int × List (AV o) × List (AV o)) : R o :=
  bif decide (a.2.2.2.1 < a.2.2.1) then
    gd (decide (0 ≤ a.2.2.2.1) && decide (a.2.2.2.1 < ((a.2.1 : Nat) : Int))) (
    rdS a.2.2.2.2.1 (0 + (((a.2.2.2.1).toNat) * 3)) fun x1 =>
    rdS a.2.2.2.2.1 ((0 + (((a.2.2.2.1).toNat) * 3)) + 1) fun x2 =>
    rdS a.2.2.2.2.1 (((0 + (((a.2.2.2.1).toNat) * 3)) + 1) + 1) fun x3 =>
    gd (decide (0 ≤ a.2.2.2.1) && decide (a.2.2.2.1 < ((a.1 : Nat) : Int))) (
    rdS a.2.2.2.2.2 (0 + (((a.2.2.2.1).toNat) * 3)) fun x4 =>
    rdS a.2.2.2.2.2 ((0 + (((a.2.2.2.1).toNat) * 3)) + 1) fun x5 =>
    rdS a.2.2.2.2.2 (((0 + (((a.2.2.2.1).toNat) * 3)) + 1) + 1) fun x6 =>
    bif !(m55_0 o x1 x2 x3 x4 x5 x6) then
      some (.bool false, [.live false true a.2.2.2.2.1, .live false true a.2.2.2.2.2])
    else
      s0 (a.1, a.2.1, a.2.2.1, IntKind.wrap .i64 (a.2.2.2.1 + (1 : Int)), a.2.2.2.2.1, a.2.2.2.2.2)))
  else
    some (.bool true, [.live false true a.2.2.2.2.1, .live false true a.2.2.2.2.2])
noncomputable def f54_D0 (o : FO) (vs : List (AV o)) (h : Heap o) : Option (Nat × Nat × Int × Int × List (AV o) × List (AV o)) :=
  match vs, h with
  | [.slice 1 0 a0_0 3, .clo 55 [], .slice 0 0 a0_1 3, .int .i64 a0_2, .int .i64 a0_3], [.live false true a0_4, .live false true a0_5] => some (a0_0, a0_1, a0_2, a0_3, a0_4, a0_5)
  | _, _ => none
noncomputable def f54_E0 (o : FO) (a : Nat × Nat × Int × Int × List (AV o) × List (AV o)) : List (AV o) × Heap o := ([.slice 1 0 a.1 3, .clo 55 [], .slice 0 0 a.2.1 3, .int .i64 a.2.2.1, .int .i64 a.2.2.2.1], [.live false true a.2.2.2.2.1, .live false true a.2.2.2.2.2])
theorem f54_DE0 (o : FO) : ∀ vs h a, f54_D0 o vs h = some a → f54_E0 o a = (vs, h) := by
  intro vs h a hx
  unfold f54_D0 at hx
  split at hx
  · cases hx; rfl
  · cases hx
noncomputable def f54 (o : FO) (N : Nat) (p0 : Nat) (p1 : Nat) (p2 : List (AV o)) (p3 : List (AV o)) : R o :=
  bif ((p0 : Nat) : Int) != ((p1 : Nat) : Int) then
    some (.bool false, [.live false true p2, .live false true p3])
  else
    iter (f54_L0 o N) N (p1, p0, ((p0 : Nat) : Int), (0 : Int), p2, p3)
noncomputable def c54 (o : FO) (N : Nat) : Cx o :=
  { ty := tab [(25, ty25 o), (66, ty66 o)]
    fn := tab [(55, .pure (e55 o))]
    rounds := N, nt := 32, base := 2
    loops := [loopD [1, 2, 15, 16, 17] (f54_D0 o) (f54_E0 o)] }
noncomputable def b54 : Code := match Try.f54.body with | some b => b | none => .skip
theorem is54 (N : Nat) : FnIs Try.prog (c54 ieee N) 54 Try.f54 b54 := ⟨by kernel_rfl, by kernel_rfl, by kernel_rfl, by kernel_rfl⟩
theorem eq54 (o : FO) (N : Nat) (p0 : Nat) (p1 : Nat) (p2 : List (AV o)) (p3 : List (AV o)) : afun (c54 o N) Try.f54.results.toList b54 [.slice 0 0 p0 3, .slice 1 0 p1 3, .clo 55 []] [.live false true p2, .live false true p3] = f54 o N p0 p1 p2 p3 := by kernel_rfl
theorem cok54 (N : Nat) (hN : 4096 ≤ N) : CtxOk Try.prog (c54 ieee N) := by
  refine ctxOk ?_ ?_ mixed ?_
  · intro p hp
    simp only [List.mem_cons, List.not_mem_nil, or_false] at hp
    rcases hp with rfl | rfl
    · exact tyOk25
    · exact tyOk66
  · intro p hp
    simp only [List.mem_cons, List.not_mem_nil, or_false] at hp
    subst hp; exact ok55 N hN
  · intro p hp
    simp only [List.mem_cons, List.not_mem_nil, or_false] at hp
    subst hp; exact loopD_ok _ _ _ (f54_DE0 ieee)
noncomputable def k54 (o : FO) : R o → Bool := fun r => match r with | some (.bool _, _) => true | _ => false
theorem k54_c (o : FO) (b : Bool) (x y : R o) : k54 o (bif b then x else y) = bif b then k54 o x else k54 o y := by cases b <;> rfl
noncomputable def m54_ok (o : FO) (p0 : Nat) (p1 : Nat) (p2 : List (AV o)) (p3 : List (AV o)) : Bool := k54 o (f54 o 2000000 p0 p1 p2 p3)
noncomputable def g54_0 (o : FO) : R o → Bool := fun r => match r with | some (.bool r0, _) => r0 | _ => false
theorem g54_0c (o : FO) (b : Bool) (x y : R o) : g54_0 o (bif b then x else y) = bif b then g54_0 o x else g54_0 o y := by cases b <;> rfl
noncomputable def m54_0 (o : FO) (p0 : Nat) (p1 : Nat) (p2 : List (AV o)) (p3 : List (AV o)) : Bool := g54_0 o (f54 o 2000000 p0 p1 p2 p3)
noncomputable def m54_h (o : FO) (p0 : Nat) (p1 : Nat) (p2 : List (AV o)) (p3 : List (AV o)) : Heap o := match f54 o 2000000 p0 p1 p2 p3 with | some (_, h) => h | _ => []
theorem val54 (o : FO) (p0 : Nat) (p1 : Nat) (p2 : List (AV o)) (p3 : List (AV o)) (h : m54_ok o p0 p1 p2 p3 = true) : f54 o 2000000 p0 p1 p2 p3 = some (.bool (m54_0 o p0 p1 p2 p3), m54_h o p0 p1 p2 p3) := by
  unfold m54_ok k54 at h
  unfold m54_0 g54_0 m54_h
  generalize f54 o 2000000 p0 p1 p2 p3 = r at h ⊢
  split at h
  · rfl
  · cases h

noncomputable def e54 (o : FO) : List (AV o) → Heap o → Tr (AV o)
  | [.slice 0 0 p0 3, .slice 1 0 p1 3, .clo 55 []], [.live _ true p2, .live _ true p3] => .br (m54_ok o p0 p1 p2 p3) (.leaf (.bool (m54_0 o p0 p1 p2 p3))) .fail
  | _, _ => .fail
theorem ok54 (N : Nat) (hN : 4096 ≤ N) : CalOk Try.prog 54 (.ro (e54 ieee)) := by
  refine calOk_ro (cok54 2000000 (by decide)) (is54 2000000) ?_
  intro args h av hg
  unfold e54 at hg
  split at hg
  · obtain ⟨h0, hg⟩ := br_get hg
    cases hg
    exact ⟨rfl, _, (eq54 ieee 2000000 _ _ _ _).trans (val54 ieee _ _ _ _ h0)⟩
  · cases hg

/-! loop.example/g01224/impl.SameSounding -/
noncomputable def f18 (o : FO) (p0 : Nat) (p1 : Nat) (p2 : List (AV o)) (p3 : List (AV o)) : R o :=
  gd (m54_ok o p0 p1 p2 p3) (
  some (.bool (m54_0 o p0 p1 p2 p3), [.live false true p2, .live false true p3]))
noncomputable def c18 (o : FO) (N : Nat) : Cx o :=
  { ty := tab []
    fn := tab [(54, .ro (e54 o))]
    rounds := 4096, nt := 8, base := 2
    loops := [] }
noncomputable def b18 : Code := match Try.f18.body with | some b => b | none => .skip
theorem is18 (N : Nat) : FnIs Try.prog (c18 ieee N) 18 Try.f18 b18 := ⟨by kernel_rfl, by kernel_rfl, by kernel_rfl, by kernel_rfl⟩
theorem eq18 (o : FO) (N : Nat) (p0 : Nat) (p1 : Nat) (p2 : List (AV o)) (p3 : List (AV o)) : afun (c18 o N) Try.f18.results.toList b18 [.slice 0 0 p0 3, .slice 1 0 p1 3] [.live false true p2, .live false true p3] = f18 o p0 p1 p2 p3 := by kernel_rfl
theorem cok18 (N : Nat) (hN : 4096 ≤ N) : CtxOk Try.prog (c18 ieee N) := by
  refine ctxOk ?_ ?_ mixed ?_
  · intro p hp; cases hp
  · intro p hp
    simp only [List.mem_cons, List.not_mem_nil, or_false] at hp
    subst hp; exact ok54 N hN
  · intro p hp; cases hp
noncomputable def m18_ok (o : FO) (p0 : Nat) (p1 : Nat) (p2 : List (AV o)) (p3 : List (AV o)) : Bool :=
  bif m54_ok o p0 p1 p2 p3 then
    true
  else
    false
noncomputable def m18_0 (o : FO) (p0 : Nat) (p1 : Nat) (p2 : List (AV o)) (p3 : List (AV o)) : Bool :=
  m54_0 o p0 p1 p2 p3
theorem val18 (o : FO) (p0 : Nat) (p1 : Nat) (p2 : List (AV o)) (p3 : List (AV o)) (h : m18_ok o p0 p1 p2 p3 = true) : f18 o p0 p1 p2 p3 = some (.bool (m18_0 o p0 p1 p2 p3), [.live false true p2, .live false true p3]) := by
  revert h
  unfold m18_ok f18 m18_0
  try dsimp only
  cases (m54_ok o p0 p1 p2 p3)
  · intro h; exact absurd h Bool.false_ne_true
  · intro _; rfl

noncomputable def e18 (o : FO) : List (AV o) → Heap o → Tr (AV o)
  | [.slice 0 0 p0 3, .slice 1 0 p1 3], [.live _ true p2, .live _ true p3] => .br (m18_ok o p0 p1 p2 p3) (.leaf (.bool (m18_0 o p0 p1 p2 p3))) .fail
  | _, _ => .fail
theorem ok18 (N : Nat) (hN : 4096 ≤ N) : CalOk Try.prog 18 (.ro (e18 ieee)) := by
  refine calOk_ro (cok18 2000000 (by decide)) (is18 2000000) ?_
  intro args h av hg
  unfold e18 at hg
  split at hg
  · obtain ⟨h0, hg⟩ := br_get hg
    cases hg
    exact ⟨rfl, _, (eq18 ieee 2000000 _ _ _ _).trans (val18 ieee _ _ _ _ h0)⟩
  · cases hg

/-! loop.example/g01224/laws.sameFloat -/
noncomputable def f30 (o : FO) (p0 : o.D) (p1 : o.D) : R o :=
  let v1 : Bool := !(o.deq p0 p0)
  bif v1 then
    bif v1 then
      bif !(o.deq p1 p1) then
        some (.bool true, [])
      else
        some (.bool false, [])
    else
      some (.bool false, [])
  else
    let v2 : Bool := !(o.deq p1 p1)
    bif v2 then
      bif v1 then
        bif v2 then
          some (.bool true, [])
        else
          some (.bool false, [])
      else
        some (.bool false, [])
    else
      bif o.deq p0 (o.dlit 0) then
        bif o.deq p1 (o.dlit 0) then
          some (.bool ((o.dlt (o.dlit 0) (o.ddiv (o.dlit 4607182418800017408) p0)) == (o.dlt (o.dlit 0) (o.ddiv (o.dlit 4607182418800017408) p1))), [])
        else
          some (.bool (o.deq p0 p1), [])
      else
        some (.bool (o.deq p0 p1), [])
noncomputable def c30 (o : FO) (N : Nat) : Cx o :=
  { ty := tab [(4, ty4 o)]
    fn := tab []
    rounds := 4096, nt := 37, base := 0
    loops := [] }
noncomputable def b30 : Code := match Try.f30.body with | some b => b | none => .skip
theorem is30 (N : Nat) : FnIs Try.prog (c30 ieee N) 30 Try.f30 b30 := ⟨by kernel_rfl, by kernel_rfl, by kernel_rfl, by kernel_rfl⟩
theorem eq30 (o : FO) (N : Nat) (p0 : o.D) (p1 : o.D) : afun (c30 o N) Try.f30.results.toList b30 [.f64 p0, .f64 p1] [] = f30 o p0 p1 := by kernel_rfl
theorem cok30 (N : Nat) (hN : 4096 ≤ N) : CtxOk Try.prog (c30 ieee N) := by
  refine ctxOk ?_ ?_ mixed ?_
  · intro p hp
    simp only [List.mem_cons, List.not_mem_nil, or_false] at hp
    subst hp; exact tyOk4
  · intro p hp; cases hp
  · intro p hp; cases hp
noncomputable def m30_0 (o : FO) (p0 : o.D) (p1 : o.D) : Bool :=
  bif o.deq p0 p0 then
    bif o.deq p1 p1 then
      bif o.deq p0 (o.dlit 0) then
        bif o.deq p1 (o.dlit 0) then
          (o.dlt (o.dlit 0) (o.ddiv (o.dlit 4607182418800017408) p0)) == (o.dlt (o.dlit 0) (o.ddiv (o.dlit 4607182418800017408) p1))
        else
          o.deq p0 p1
      else
        o.deq p0 p1
    else
      false
  else
    bif o.deq p1 p1 then
      false
    else
      true
theorem val30 (o : FO) (p0 : o.D) (p1 : o.D) : f30 o p0 p1 = some (.bool (m30_0 o p0 p1), []) := by
  unfold f30 m30_0
  try dsimp only
  cases (o.deq p0 p0)
  · cases (o.deq p1 p1)
    · rfl
    · rfl
  · cases (o.deq p1 p1)
    · rfl
    · cases (o.deq p0 (o.dlit 0))
      · rfl
      · cases (o.deq p1 (o.dlit 0))
        · rfl
        · rfl

noncomputable def e30 (o : FO) : List (AV o) → Tr (AV o)
  | [.f64 p0, .f64 p1] => .leaf (.bool (m30_0 o p0 p1))
  | _ => .fail
theorem ok30 (N : Nat) (hN : 4096 ≤ N) : CalOk Try.prog 30 (.pure (e30 ieee)) := by
  refine calOk_pure (cok30 2000000 (by decide)) (is30 2000000) ?_
  intro args av hg
  unfold e30 at hg
  split at hg
  · cases hg
    exact ⟨rfl, rfl, _, (eq30 ieee 2000000 _ _).trans (val30 ieee _ _)⟩
  · cases hg

/-! loop.example/g01224/laws.eqAir -/
noncomputable def f33 (o : FO) (p0 : o.S) (p1 : o.S) (p2 : o.S) (p3 : o.S) : R o :=
  bif !(m30_0 o (o.s2d p0) (o.s2d p2)) then
    some (.bool false, [])
  else
    bif !(m30_0 o (o.s2d p1) (o.s2d p3)) then
      some (.bool false, [])
    else
      some (.bool true, [])
noncomputable def c33 (o : FO) (N : Nat) : Cx o :=
  { ty := tab [(30, ty30 o), (40, ty40 o), (43, ty43 o)]
    fn := tab [(30, .pure (e30 o))]
    rounds := 4096, nt := 21, base := 0
    loops := [] }
noncomputable def b33 : Code := match Try.f33.body with | some b => b | none => .skip
theorem is33 (N : Nat) : FnIs Try.prog (c33 ieee N) 33 Try.f33 b33 := ⟨by kernel_rfl, by kernel_rfl, by kernel_rfl, by kernel_rfl⟩
theorem eq33 (o : FO) (N : Nat) (p0 : o.S) (p1 : o.S) (p2 : o.S) (p3 : o.S) : afun (c33 o N) Try.f33.results.toList b33 [.agg [.f32 p0, .f32 p1], .agg [.f32 p2, .f32 p3]] [] = f33 o p0 p1 p2 p3 := by kernel_rfl
theorem cok33 (N : Nat) (hN : 4096 ≤ N) : CtxOk Try.prog (c33 ieee N) := by
  refine ctxOk ?_ ?_ mixed ?_
  · intro p hp
    simp only [List.mem_cons, List.not_mem_nil, or_false] at hp
    rcases hp with rfl | rfl | rfl
    · exact tyOk30
    · exact tyOk40
    · exact tyOk43
  · intro p hp
    simp only [List.mem_cons, List.not_mem_nil, or_false] at hp
    subst hp; exact ok30 N hN
  · intro p hp; cases hp
noncomputable def m33_0 (o : FO) (p0 : o.S) (p1 : o.S) (p2 : o.S) (p3 : o.S) : Bool :=
  bif m30_0 o (o.s2d p0) (o.s2d p2) then
    m30_0 o (o.s2d p1) (o.s2d p3)
  else
    false
theorem val33 (o : FO) (p0 : o.S) (p1 : o.S) (p2 : o.S) (p3 : o.S) : f33 o p0 p1 p2 p3 = some (.bool (m33_0 o p0 p1 p2 p3), []) := by
  unfold f33 m33_0
  try dsimp only
  cases (m30_0 o (o.s2d p0) (o.s2d p2))
  · rfl
  · cases (m30_0 o (o.s2d p1) (o.s2d p3))
    · rfl
    · rfl

noncomputable def e33 (o : FO) : List (AV o) → Tr (AV o)
  | [.agg [.f32 p0, .f32 p1], .agg [.f32 p2, .f32 p3]] => .leaf (.bool (m33_0 o p0 p1 p2 p3))
  | _ => .fail
theorem ok33 (N : Nat) (hN : 4096 ≤ N) : CalOk Try.prog 33 (.pure (e33 ieee)) := by
  refine calOk_pure (cok33 2000000 (by decide)) (is33 2000000) ?_
  intro args av hg
  unfold e33 at hg
  split at hg
  · cases hg
    exact ⟨rfl, rfl, _, (eq33 ieee 2000000 _ _ _ _).trans (val33 ieee _ _ _ _)⟩
  · cases hg

/-! loop.example/g01224/laws.eqLevel -/
noncomputable def f57 (o : FO) (p0 : o.S) (p1 : o.S) (p2 : o.S) (p3 : o.S) (p4 : o.S) (p5 : o.S) : R o :=
  bif !(m30_0 o (o.s2d p0) (o.s2d p3)) then
    some (.bool false, [])
  else
    bif !(m33_0 o p1 p2 p4 p5) then
      some (.bool false, [])
    else
      some (.bool true, [])
noncomputable def c57 (o : FO) (N : Nat) : Cx o :=
  { ty := tab [(30, ty30 o), (40, ty40 o), (43, ty43 o), (66, ty66 o)]
    fn := tab [(30, .pure (e30 o)), (33, .pure (e33 o))]
    rounds := 4096, nt := 19, base := 0
    loops := [] }
noncomputable def b57 : Code := match Try.f57.body with | some b => b | none => .skip
theorem is57 (N : Nat) : FnIs Try.prog (c57 ieee N) 57 Try.f57 b57 := ⟨by kernel_rfl, by kernel_rfl, by kernel_rfl, by kernel_rfl⟩
theorem eq57 (o : FO) (N : Nat) (p0 : o.S) (p1 : o.S) (p2 : o.S) (p3 : o.S) (p4 : o.S) (p5 : o.S) : afun (c57 o N) Try.f57.results.toList b57 [.agg [.f32 p0, .f32 p1, .f32 p2], .agg [.f32 p3, .f32 p4, .f32 p5]] [] = f57 o p0 p1 p2 p3 p4 p5 := by kernel_rfl
theorem cok57 (N : Nat) (hN : 4096 ≤ N) : CtxOk Try.prog (c57 ieee N) := by
  refine ctxOk ?_ ?_ mixed ?_
  · intro p hp
    simp only [List.mem_cons, List.not_mem_nil, or_false] at hp
    rcases hp with rfl | rfl | rfl | rfl
    · exact tyOk30
    · exact tyOk40
    · exact tyOk43
    · exact tyOk66
  · intro p hp
    simp only [List.mem_cons, List.not_mem_nil, or_false] at hp
    rcases hp with rfl | rfl
    · exact ok30 N hN
    · exact ok33 N hN
  · intro p hp; cases hp
noncomputable def m57_0 (o : FO) (p0 : o.S) (p1 : o.S) (p2 : o.S) (p3 : o.S) (p4 : o.S) (p5 : o.S) : Bool :=
  bif m30_0 o (o.s2d p0) (o.s2d p3) then
    m33_0 o p1 p2 p4 p5
  else
    false
theorem val57 (o : FO) (p0 : o.S) (p1 : o.S) (p2 : o.S) (p3 : o.S) (p4 : o.S) (p5 : o.S) : f57 o p0 p1 p2 p3 p4 p5 = some (.bool (m57_0 o p0 p1 p2 p3 p4 p5), []) := by
  unfold f57 m57_0
  try dsimp only
  cases (m30_0 o (o.s2d p0) (o.s2d p3))
  · rfl
  · cases (m33_0 o p1 p2 p4 p5)
    · rfl
    · rfl

noncomputable def e57 (o : FO) : List (AV o) → Tr (AV o)
  | [.agg [.f32 p0, .f32 p1, .f32 p2], .agg [.f32 p3, .f32 p4, .f32 p5]] => .leaf (.bool (m57_0 o p0 p1 p2 p3 p4 p5))
  | _ => .fail
theorem ok57 (N : Nat) (hN : 4096 ≤ N) : CalOk Try.prog 57 (.pure (e57 ieee)) := by
  refine calOk_pure (cok57 2000000 (by decide)) (is57 2000000) ?_
  intro args av hg
  unfold e57 at hg
  split at hg
  · cases hg
    exact ⟨rfl, rfl, _, (eq57 ieee 2000000 _ _ _ _ _ _).trans (val57 ieee _ _ _ _ _ _)⟩
  · cases hg

/-! loop.example/g01224/laws.eqLevelS -/
noncomputable def f19_L0 (o : FO) (N : Nat) (s0 : Nat × Nat × Int × List (AV o) × List (AV o) → R o) (a : Nat × Nat × Int × List (AV o) × List (AV o)) : R o :=
  bif decide (a.2.2.1 < ((a.1 : Nat) : Int)) then
    gd (decide (0 ≤ a.2.2.1) && decide (a.2.2.1 < ((a.1 : Nat) : Int))) (
    rdS a.2.2.2.1 (0 + (((a.2.2.1).toNat) * 3)) fun x1 =>
    rdS a.2.2.2.1 ((0 + (((a.2.2.1).toNat) * 3)) + 1) fun x2 =>
    rdS a.2.2.2.1 (((0 + (((a.2.2.1).toNat) * 3)) + 1) + 1) fun x3 =>
    gd (decide (0 ≤ a.2.2.1) && decide (a.2.2.1 < ((a.2.1 : Nat) : Int))) (
    rdS a.2.2.2.2 (0 + (((a.2.2.1).toNat) * 3)) fun x4 =>
    rdS a.2.2.2.2 ((0 + (((a.2.2.1).toNat) * 3)) + 1) fun x5 =>
    rdS a.2.2.2.2 (((0 + (((a.2.2.1).toNat) * 3)) + 1) + 1) fun x6 =>
    bif !(m57_0 o x1 x2 x3 x4 x5 x6) then
      some (.bool false, [.live false true a.2.2.2.1, .live false true a.2.2.2.2])
    else
      s0 (a.1, a.2.1, IntKind.wrap .i64 (a.2.2.1 + (1 : Int)), a.2.2.2.1, a.2.2.2.2)))
  else
    some (.bool true, [.live false true a.2.2.2.1, .live false true a.2.2.2.2])
noncomputable def f19_D0 (o : FO) (vs : List (AV o)) (h : Heap o) : Option (Nat × Nat × Int × List (AV o) × List (AV o)) :=
  match vs, h with
  | [.slice 0 0 a0_0 3, .slice 1 0 a0_1 3, .int .i64 a0_2], [.live false true a0_3, .live false true a0_4] => some (a0_0, a0_1, a0_2, a0_3, a0_4)
  | _, _ => none
noncomputable def f19_E0 (o : FO) (a : Nat × Nat × Int × List (AV o) × List (AV o)) : List (AV o) × Heap o := ([.slice 0 0 a.1 3, .slice 1 0 a.2.1 3, .int .i64 a.2.2.1], [.live false true a.2.2.2.1, .live false true a.2.2.2.2])
theorem f19_DE0 (o : FO) : ∀ vs h a, f19_D0 o vs h = some a → f19_E0 o a = (vs, h) := by
  intro vs h a hx
  unfold f19_D0 at hx
  split at hx
  · cases hx; rfl
  · cases hx
noncomputable def f19 (o : FO) (N : Nat) (p0 : Nat) (p1 : Nat) (p2 : List (AV o)) (p3 : List (AV o)) : R o :=
  bif ((p0 : Nat) : Int) != ((p1 : Nat) : Int) then
    some (.bool false, [.live false true p2, .live false true p3])
  else
    iter (f19_L0 o N) N (p0, p1, (0 : Int), p2, p3)
noncomputable def c19 (o : FO) (N : Nat) : Cx o :=
  { ty := tab [(25, ty25 o), (66, ty66 o)]
    fn := tab [(57, .pure (e57 o))]
    rounds := N, nt := 27, base := 2
    loops := [loopD [0, 1, 5] (f19_D0 o) (f19_E0 o)] }
noncomputable def b19 : Code := match Try.f19.body with | some b => b | none => .skip
theorem is19 (N : Nat) : FnIs Try.prog (c19 ieee N) 19 Try.f19 b19 := ⟨by kernel_rfl, by kernel_rfl, by kernel_rfl, by kernel_rfl⟩
theorem eq19 (o : FO) (N : Nat) (p0 : Nat) (p1 : Nat) (p2 : List (AV o)) (p3 : List (AV o)) : afun (c19 o N) Try.f19.results.toList b19 [.slice 0 0 p0 3, .slice 1 0 p1 3] [.live false true p2, .live false true p3] = f19 o N p0 p1 p2 p3 := by kernel_rfl
theorem cok19 (N : Nat) (hN : 4096 ≤ N) : CtxOk Try.prog (c19 ieee N) := by
  refine ctxOk ?_ ?_ mixed ?_
  · intro p hp
    simp only [List.mem_cons, List.not_mem_nil, or_false] at hp
    rcases hp with rfl | rfl
    · exact tyOk25
    · exact tyOk66
  · intro p hp
    simp only [List.mem_cons, List.not_mem_nil, or_false] at hp
    subst hp; exact ok57 N hN
  · intro p hp
    simp only [List.mem_cons, List.not_mem_nil, or_false] at hp
    subst hp; exact loopD_ok _ _ _ (f19_DE0 ieee)
noncomputable def k19 (o : FO) : R o → Bool := fun r => match r with | some (.bool _, _) => true | _ => false
theorem k19_c (o : FO) (b : Bool) (x y : R o) : k19 o (bif b then x else y) = bif b then k19 o x else k19 o y := by cases b <;> rfl
noncomputable def m19_ok (o : FO) (p0 : Nat) (p1 : Nat) (p2 : List (AV o)) (p3 : List (AV o)) : Bool := k19 o (f19 o 2000000 p0 p1 p2 p3)
noncomputable def g19_0 (o : FO) : R o → Bool := fun r => match r with | some (.bool r0, _) => r0 | _ => false
theorem g19_0c (o : FO) (b : Bool) (x y : R o) : g19_0 o (bif b then x else y) = bif b then g19_0 o x else g19_0 o y := by cases b <;> rfl
noncomputable def m19_0 (o : FO) (p0 : Nat) (p1 : Nat) (p2 : List (AV o)) (p3 : List (AV o)) : Bool := g19_0 o (f19 o 2000000 p0 p1 p2 p3)
noncomputable def m19_h (o : FO) (p0 : Nat) (p1 : Nat) (p2 : List (AV o)) (p3 : List (AV o)) : Heap o := match f19 o 2000000 p0 p1 p2 p3 with | some (_, h) => h | _ => []
theorem val19 (o : FO) (p0 : Nat) (p1 : Nat) (p2 : List (AV o)) (p3 : List (AV o)) (h : m19_ok o p0 p1 p2 p3 = true) : f19 o 2000000 p0 p1 p2 p3 = some (.bool (m19_0 o p0 p1 p2 p3), m19_h o p0 p1 p2 p3) := by
  unfold m19_ok k19 at h
  unfold m19_0 g19_0 m19_h
  generalize f19 o 2000000 p0 p1 p2 p3 = r at h ⊢
  split at h
  · rfl
  · cases h

noncomputable def e19 (o : FO) : List (AV o) → Heap o → Tr (AV o)
  | [.slice 0 0 p0 3, .slice 1 0 p1 3], [.live _ true p2, .live _ true p3] => .br (m19_ok o p0 p1 p2 p3) (.leaf (.bool (m19_0 o p0 p1 p2 p3))) .fail
  | _, _ => .fail
theorem ok19 (N : Nat) (hN : 4096 ≤ N) : CalOk Try.prog 19 (.ro (e19 ieee)) := by
  refine calOk_ro (cok19 2000000 (by decide)) (is19 2000000) ?_
  intro args h av hg
  unfold e19 at hg
  split at hg
  · obtain ⟨h0, hg⟩ := br_get hg
    cases hg
    exact ⟨rfl, _, (eq19 ieee 2000000 _ _ _ _).trans (val19 ieee _ _ _ _ h0)⟩
  · cases hg

/-! loop.example/g01224/laws.toLevelS -/
noncomputable def f17a_L0 (o : FO) (N : Nat) (s0 : Nat × Nat × Int × List (AV o) × List (AV o) → R o) (a : Nat × Nat × Int × List (AV o) × List (AV o)) : R o :=
  bif decide (a.2.2.1 < ((a.1 : Nat) : Int)) then
    gd (decide (0 ≤ a.2.2.1) && decide (a.2.2.1 < ((a.1 : Nat) : Int))) (
    rdS a.2.2.2.1 (0 + (((a.2.2.1).toNat) * 3)) fun x1 =>
    rdS a.2.2.2.1 ((0 + (((a.2.2.1).toNat) * 3)) + 1) fun x2 =>
    rdS a.2.2.2.1 (((0 + (((a.2.2.1).toNat) * 3)) + 1) + 1) fun x3 =>
    gd (decide (0 ≤ a.2.2.1) && decide (a.2.2.1 < ((a.2.1 : Nat) : Int))) (
    wrA a.2.2.2.2 (0 + (((a.2.2.1).toNat) * 3)) 3 [.f32 x1, .f32 x2, .f32 x3] fun c4 =>
    s0 (a.1, a.2.1, IntKind.wrap .i64 (a.2.2.1 + (1 : Int)), a.2.2.2.1, c4)))
  else
    some (.slice 1 0 a.2.1 3, [.live true true a.2.2.2.1, .live true true a.2.2.2.2])
noncomputable def f17a_D0 (o : FO) (vs : List (AV o)) (h : Heap o) : Option (Nat × Nat × Int × List (AV o) × List (AV o)) :=
  match vs, h with
  | [.slice 0 0 a0_0 3, .slice 1 0 a0_1 3, .int .i64 a0_2], [.live true true a0_3, .live true true a0_4] => some (a0_0, a0_1, a0_2, a0_3, a0_4)
  | _, _ => none
noncomputable def f17a_E0 (o : FO) (a : Nat × Nat × Int × List (AV o) × List (AV o)) : List (AV o) × Heap o := ([.slice 0 0 a.1 3, .slice 1 0 a.2.1 3, .int .i64 a.2.2.1], [.live true true a.2.2.2.1, .live true true a.2.2.2.2])
theorem f17a_DE0 (o : FO) : ∀ vs h a, f17a_D0 o vs h = some a → f17a_E0 o a = (vs, h) := by
  intro vs h a hx
  unfold f17a_D0 at hx
  split at hx
  · cases hx; rfl
  · cases hx
noncomputable def f17a (o : FO) (N : Nat) (p0 : Nat) (p1 : List (AV o)) : R o :=
  gd (decide (0 ≤ ((p0 : Nat) : Int)) && (decide (((p0 : Nat) : Int) = ((p0 : Nat) : Int)) && (decide (((p0 : Nat) : Int) * ((3 : Nat) : Int) ≤ 16777216) && (decide (((12 : Nat) : Int) * ((p0 : Nat) : Int) ≤ 281474976710656) && decide (((p0 : Nat) : Int) ≤ 9223372036854775807))))) (
  iter (f17a_L0 o N) N (p0, (((p0 : Nat) : Int)).toNat, (0 : Int), p1, zeros [.f32 (o.slit 0), .f32 (o.slit 0), .f32 (o.slit 0)] ((((p0 : Nat) : Int)).toNat)))
noncomputable def c17a (o : FO) (N : Nat) : Cx o :=
  { ty := tab [(22, ty22 o), (25, ty25 o), (66, ty66 o), (73, ty73 o)]
    fn := tab [(53, .pure (e53 o))]
    rounds := N, nt := 23, base := 1
    loops := [loopD [0, 3, 4] (f17a_D0 o) (f17a_E0 o)] }
theorem is17a (N : Nat) : FnIs Try.prog (c17a ieee N) 17 Try.f17 b17 := ⟨by kernel_rfl, by kernel_rfl, by kernel_rfl, by kernel_rfl⟩
theorem eq17a (o : FO) (N : Nat) (p0 : Nat) (p1 : List (AV o)) : afun (c17a o N) Try.f17.results.toList b17 [.slice 0 0 p0 3] [.live true true p1] = f17a o N p0 p1 := by kernel_rfl
theorem cok17a (N : Nat) (hN : 4096 ≤ N) : CtxOk Try.prog (c17a ieee N) := by
  refine ctxOk ?_ ?_ mixed ?_
  · intro p hp
    simp only [List.mem_cons, List.not_mem_nil, or_false] at hp
    rcases hp with rfl | rfl | rfl | rfl
    · exact tyOk22
    · exact tyOk25
    · exact tyOk66
    · exact tyOk73
  · intro p hp
    simp only [List.mem_cons, List.not_mem_nil, or_false] at hp
    subst hp; exact ok53 N hN
  · intro p hp
    simp only [List.mem_cons, List.not_mem_nil, or_false] at hp
    subst hp; exact loopD_ok _ _ _ (f17a_DE0 ieee)
noncomputable def k17a (o : FO) : R o → Bool := fun r => match r with | some (.slice 1 0 _ 3, [.live true true _, .live true true _]) => true | _ => false
theorem k17a_c (o : FO) (b : Bool) (x y : R o) : k17a o (bif b then x else y) = bif b then k17a o x else k17a o y := by cases b <;> rfl
noncomputable def m17a_ok (o : FO) (p0 : Nat) (p1 : List (AV o)) : Bool := k17a o (f17a o 2000000 p0 p1)
noncomputable def g17a_0 (o : FO) : R o → Nat := fun r => match r with | some (.slice 1 0 r0 3, [.live true true _, .live true true _]) => r0 | _ => 0
theorem g17a_0c (o : FO) (b : Bool) (x y : R o) : g17a_0 o (bif b then x else y) = bif b then g17a_0 o x else g17a_0 o y := by cases b <;> rfl
noncomputable def m17a_0 (o : FO) (p0 : Nat) (p1 : List (AV o)) : Nat := g17a_0 o (f17a o 2000000 p0 p1)
noncomputable def g17a_1 (o : FO) : R o → List (AV o) := fun r => match r with | some (.slice 1 0 _ 3, [.live true true r1, .live true true _]) => r1 | _ => []
theorem g17a_1c (o : FO) (b : Bool) (x y : R o) : g17a_1 o (bif b then x else y) = bif b then g17a_1 o x else g17a_1 o y := by cases b <;> rfl
noncomputable def m17a_1 (o : FO) (p0 : Nat) (p1 : List (AV o)) : List (AV o) := g17a_1 o (f17a o 2000000 p0 p1)
noncomputable def g17a_2 (o : FO) : R o → List (AV o) := fun r => match r with | some (.slice 1 0 _ 3, [.live true true _, .live true true r2]) => r2 | _ => []
theorem g17a_2c (o : FO) (b : Bool) (x y : R o) : g17a_2 o (bif b then x else y) = bif b then g17a_2 o x else g17a_2 o y := by cases b <;> rfl
noncomputable def m17a_2 (o : FO) (p0 : Nat) (p1 : List (AV o)) : List (AV o) := g17a_2 o (f17a o 2000000 p0 p1)
theorem val17a (o : FO) (p0 : Nat) (p1 : List (AV o)) (h : m17a_ok o p0 p1 = true) : f17a o 2000000 p0 p1 = some (.slice 1 0 (m17a_0 o p0 p1) 3, [.live true true (m17a_1 o p0 p1), .live true true (m17a_2 o p0 p1)]) := by
  unfold m17a_ok k17a at h
  unfold m17a_0 g17a_0 m17a_1 g17a_1 m17a_2 g17a_2
  generalize f17a o 2000000 p0 p1 = r at h ⊢
  split at h
  · rfl
  · cases h

noncomputable def e17as (o : FO) : List (AV o) → Heap o → Tr (AV o × Heap o)
  | [.slice 0 0 p0 3], [.live true true p1] => .br (m17a_ok o p0 p1) (.leaf ((.slice 1 0 (m17a_0 o p0 p1) 3, [.live true true (m17a_1 o p0 p1), .live true true (m17a_2 o p0 p1)]))) .fail
  | _, _ => .fail
theorem ok17as (N : Nat) (hN : 4096 ≤ N) : CalOk Try.prog 17 (.rw (e17as ieee)) := by
  refine calOk_rw (cok17a 2000000 (by decide)) (is17a 2000000) ?_
  intro args h av h2 hg
  unfold e17as at hg
  split at hg
  · obtain ⟨h0, hg⟩ := br_get hg
    cases hg
    exact (eq17a ieee 2000000 _ _).trans (val17a ieee _ _ h0)
  · cases hg
noncomputable def e17s (o : FO) : List (AV o) → Heap o → Tr (AV o × Heap o)
  | [.slice 0 0 p0 3], [.live false true p1] => .br (m17_ok o p0 p1) (.leaf ((.slice 1 0 (m17_0 o p0 p1) 3, [.live false true (m17_1 o p0 p1), .live true true (m17_2 o p0 p1)]))) .fail
  | _, _ => .fail
theorem ok17s (N : Nat) (hN : 4096 ≤ N) : CalOk Try.prog 17 (.rw (e17s ieee)) := by
  refine calOk_rw (cok17 2000000 (by decide)) (is17 2000000) ?_
  intro args h av h2 hg
  unfold e17s at hg
  split at hg
  · obtain ⟨h0, hg⟩ := br_get hg
    cases hg
    exact (eq17 ieee 2000000 _ _).trans (val17 ieee _ _ h0)
  · cases hg
noncomputable def e17v1 (o : FO) : List (AV o) → Heap o → Tr (AV o × Heap o)
  | [.slice 0 0 p0 3], [.live false true p1] => .br (m17_ok o p0 p1) (.leaf ((.slice 1 0 (m17_0 o p0 p1) 3, [.live false true (m17_1 o p0 p1), .live true true (m17_2 o p0 p1)]))) .fail
  | [.slice 0 0 p0 3], [.live true true p1] => .br (m17a_ok o p0 p1) (.leaf ((.slice 1 0 (m17a_0 o p0 p1) 3, [.live true true (m17a_1 o p0 p1), .live true true (m17a_2 o p0 p1)]))) .fail
  | _, _ => .fail
theorem ok17v1 (N : Nat) (hN : 4096 ≤ N) : CalOk Try.prog 17 (.rw (e17v1 ieee)) := by
  intro args h av h2 hg
  unfold e17v1 at hg
  split at hg
  · exact ok17s N hN _ _ av h2 hg
  · exact ok17as N hN _ _ av h2 hg
  · cases hg

/-! loop.example/g01224/laws.FnExactSameSounding -/
noncomputable def f3 (o : FO) (p0 : Nat) (p1 : Nat) (p2 : List (AV o)) (p3 : List (AV o)) : R o :=
  let v1 : Int := m15_0 o p0 (1048576 : Int) p2
  bif decide (v1 < (0 : Int)) then
    some (.bool true, [.live false true p2, .live false true p3])
  else
    bif decide ((m15_0 o p1 v1 p3) < (0 : Int)) then
      some (.bool true, [.live false true p2, .live false true p3])
    else
      gd (m17_ok o p0 p2) (
      gd (m17_ok o p1 p3) (
      gd (m16_ok o (m17_0 o p0 p2) (m17_0 o p1 p3) (m17_2 o p0 p2) (m17_2 o p1 p3)) (
      gd (m17_ok o p0 (m17_1 o p0 p2)) (
      let v2 : List (AV o) := m17_2 o p0 (m17_1 o p0 p2)
      let v3 : List (AV o) := m17_1 o p0 (m17_1 o p0 p2)
      let v4 : Nat := m17_0 o p0 (m17_1 o p0 p2)
      gd (m17_ok o p1 (m17_1 o p1 p3)) (
      let v5 : List (AV o) := m17_2 o p1 (m17_1 o p1 p3)
      let v6 : List (AV o) := m17_1 o p1 (m17_1 o p1 p3)
      let v7 : Nat := m17_0 o p1 (m17_1 o p1 p3)
      gd (m18_ok o v4 v7 v2 v5) (
      bif !((m18_0 o v4 v7 v2 v5) == (m16_0 o (m17_0 o p0 p2) (m17_0 o p1 p3) (m17_2 o p0 p2) (m17_2 o p1 p3))) then
        some (.bool false, [.live false true v3, .live false true v6])
      else
        gd (m17_ok o p0 v3) (
        let v8 : List (AV o) := m17_2 o p0 v3
        let v9 : List (AV o) := m17_1 o p0 v3
        let v10 : Nat := m17_0 o p0 v3
        gd (m19_ok o v4 v10 v2 v8) (
        bif !(m19_0 o v4 v10 v2 v8) then
          some (.bool false, [.live false true v9, .live false true v6])
        else
          gd (m17_ok o p1 v6) (
          let v11 : List (AV o) := m17_2 o p1 v6
          let v12 : List (AV o) := m17_1 o p1 v6
          let v13 : Nat := m17_0 o p1 v6
          gd (m19_ok o v7 v13 v5 v11) (
          bif !(m19_0 o v7 v13 v5 v11) then
            some (.bool false, [.live false true v9, .live false true v12])
          else
            some (.bool true, [.live false true v9, .live false true v12])))))))))))
noncomputable def c3 (o : FO) (N : Nat) : Cx o :=
  { ty := tab [(4, ty4 o)]
    fn := tab [(15, .ro (e15 o)), (16, .ro (e16 o)), (17, .rw (e17v1 o)), (18, .ro (e18 o)), (19, .ro (e19 o))]
    rounds := 4096, nt := 45, base := 2
    loops := [] }
noncomputable def b3 : Code := match Try.f3.body with | some b => b | none => .skip
theorem is3 (N : Nat) : FnIs Try.prog (c3 ieee N) 3 Try.f3 b3 := ⟨by kernel_rfl, by kernel_rfl, by kernel_rfl, by kernel_rfl⟩
theorem eq3 (o : FO) (N : Nat) (p0 : Nat) (p1 : Nat) (p2 : List (AV o)) (p3 : List (AV o)) : afun (c3 o N) Try.f3.results.toList b3 [.slice 0 0 p0 3, .slice 1 0 p1 3] [.live false true p2, .live false true p3] = f3 o p0 p1 p2 p3 := by kernel_rfl
theorem cok3 (N : Nat) (hN : 4096 ≤ N) : CtxOk Try.prog (c3 ieee N) := by
  refine ctxOk ?_ ?_ mixed ?_
  · intro p hp
    simp only [List.mem_cons, List.not_mem_nil, or_false] at hp
    subst hp; exact tyOk4
  · intro p hp
    simp only [List.mem_cons, List.not_mem_nil, or_false] at hp
    rcases hp with rfl | rfl | rfl | rfl | rfl
    · exact ok15 N hN
    · exact ok16 N hN
    · exact ok17v1 N hN
    · exact ok18 N hN
    · exact ok19 N hN
  · intro p hp; cases hp
noncomputable def m3_ok (o : FO) (p0 : Nat) (p1 : Nat) (p2 : List (AV o)) (p3 : List (AV o)) : Bool :=
  let v1 : Int := m15_0 o p0 (1048576 : Int) p2
  bif decide (v1 < (0 : Int)) then
    true
  else
    bif decide ((m15_0 o p1 v1 p3) < (0 : Int)) then
      true
    else
      bif m17_ok o p0 p2 then
        bif m17_ok o p1 p3 then
          bif m16_ok o (m17_0 o p0 p2) (m17_0 o p1 p3) (m17_2 o p0 p2) (m17_2 o p1 p3) then
            bif m17_ok o p0 (m17_1 o p0 p2) then
              let v2 : List (AV o) := m17_2 o p0 (m17_1 o p0 p2)
              let v3 : List (AV o) := m17_1 o p0 (m17_1 o p0 p2)
              let v4 : Nat := m17_0 o p0 (m17_1 o p0 p2)
              bif m17_ok o p1 (m17_1 o p1 p3) then
                let v5 : List (AV o) := m17_2 o p1 (m17_1 o p1 p3)
                let v6 : List (AV o) := m17_1 o p1 (m17_1 o p1 p3)
                let v7 : Nat := m17_0 o p1 (m17_1 o p1 p3)
                bif m18_ok o v4 v7 v2 v5 then
                  bif !((m18_0 o v4 v7 v2 v5) == (m16_0 o (m17_0 o p0 p2) (m17_0 o p1 p3) (m17_2 o p0 p2) (m17_2 o p1 p3))) then
                    true
                  else
                    bif m17_ok o p0 v3 then
                      let v8 : List (AV o) := m17_2 o p0 v3
                      let v9 : Nat := m17_0 o p0 v3
                      bif m19_ok o v4 v9 v2 v8 then
                        bif m19_0 o v4 v9 v2 v8 then
                          bif m17_ok o p1 v6 then
                            bif m19_ok o v7 (m17_0 o p1 v6) v5 (m17_2 o p1 v6) then
                              true
                            else
                              false
                          else
                            false
                        else
                          true
                      else
                        false
                    else
                      false
                else
                  false
              else
                false
            else
              false
          else
            false
        else
          false
      else
        false
noncomputable def m3_0 (o : FO) (p0 : Nat) (p1 : Nat) (p2 : List (AV o)) (p3 : List (AV o)) : Bool :=
  let v1 : Int := m15_0 o p0 (1048576 : Int) p2
  bif decide (v1 < (0 : Int)) then
    true
  else
    bif decide ((m15_0 o p1 v1 p3) < (0 : Int)) then
      true
    else
      let v2 : List (AV o) := m17_2 o p0 (m17_1 o p0 p2)
      let v3 : List (AV o) := m17_1 o p0 (m17_1 o p0 p2)
      let v4 : Nat := m17_0 o p0 (m17_1 o p0 p2)
      let v5 : List (AV o) := m17_2 o p1 (m17_1 o p1 p3)
      let v6 : List (AV o) := m17_1 o p1 (m17_1 o p1 p3)
      let v7 : Nat := m17_0 o p1 (m17_1 o p1 p3)
      bif !((m18_0 o v4 v7 v2 v5) == (m16_0 o (m17_0 o p0 p2) (m17_0 o p1 p3) (m17_2 o p0 p2) (m17_2 o p1 p3))) then
        false
      else
        bif m19_0 o v4 (m17_0 o p0 v3) v2 (m17_2 o p0 v3) then
          m19_0 o v7 (m17_0 o p1 v6) v5 (m17_2 o p1 v6)
        else
          false
noncomputable def m3_1 (o : FO) (p0 : Nat) (p1 : Nat) (p2 : List (AV o)) (p3 : List (AV o)) : List (AV o) :=
  let v1 : Int := m15_0 o p0 (1048576 : Int) p2
  bif decide (v1 < (0 : Int)) then
    p2
  else
    bif decide ((m15_0 o p1 v1 p3) < (0 : Int)) then
      p2
    else
      let v2 : List (AV o) := m17_2 o p0 (m17_1 o p0 p2)
      let v3 : List (AV o) := m17_1 o p0 (m17_1 o p0 p2)
      let v4 : Nat := m17_0 o p0 (m17_1 o p0 p2)
      bif !((m18_0 o v4 (m17_0 o p1 (m17_1 o p1 p3)) v2 (m17_2 o p1 (m17_1 o p1 p3))) == (m16_0 o (m17_0 o p0 p2) (m17_0 o p1 p3) (m17_2 o p0 p2) (m17_2 o p1 p3))) then
        v3
      else
        let v5 : List (AV o) := m17_1 o p0 v3
        bif m19_0 o v4 (m17_0 o p0 v3) v2 (m17_2 o p0 v3) then
          v5
        else
          v5
noncomputable def m3_2 (o : FO) (p0 : Nat) (p1 : Nat) (p2 : List (AV o)) (p3 : List (AV o)) : List (AV o) :=
  let v1 : Int := m15_0 o p0 (1048576 : Int) p2
  bif decide (v1 < (0 : Int)) then
    p3
  else
    bif decide ((m15_0 o p1 v1 p3) < (0 : Int)) then
      p3
    else
      let v2 : List (AV o) := m17_2 o p0 (m17_1 o p0 p2)
      let v3 : List (AV o) := m17_1 o p0 (m17_1 o p0 p2)
      let v4 : Nat := m17_0 o p0 (m17_1 o p0 p2)
      let v5 : List (AV o) := m17_1 o p1 (m17_1 o p1 p3)
      bif !((m18_0 o v4 (m17_0 o p1 (m17_1 o p1 p3)) v2 (m17_2 o p1 (m17_1 o p1 p3))) == (m16_0 o (m17_0 o p0 p2) (m17_0 o p1 p3) (m17_2 o p0 p2) (m17_2 o p1 p3))) then
        v5
      else
        bif m19_0 o v4 (m17_0 o p0 v3) v2 (m17_2 o p0 v3) then
          m17_1 o p1 v5
        else
          v5
theorem val3 (o : FO) (p0 : Nat) (p1 : Nat) (p2 : List (AV o)) (p3 : List (AV o)) (h : m3_ok o p0 p1 p2 p3 = true) : f3 o p0 p1 p2 p3 = some (.bool (m3_0 o p0 p1 p2 p3), [.live false true (m3_1 o p0 p1 p2 p3), .live false true (m3_2 o p0 p1 p2 p3)]) := by
  revert h
  unfold m3_ok f3 m3_0 m3_1 m3_2
  try dsimp only
  cases (decide ((m15_0 o p0 (1048576 : Int) p2) < (0 : Int)))
  · cases (decide ((m15_0 o p1 (m15_0 o p0 (1048576 : Int) p2) p3) < (0 : Int)))
    · cases (m17_ok o p0 p2)
      · intro h; exact absurd h Bool.false_ne_true
      · cases (m17_ok o p1 p3)
        · intro h; exact absurd h Bool.false_ne_true
        · cases (m16_ok o (m17_0 o p0 p2) (m17_0 o p1 p3) (m17_2 o p0 p2) (m17_2 o p1 p3))
          · intro h; exact absurd h Bool.false_ne_true
          · cases (m17_ok o p0 (m17_1 o p0 p2))
            · intro h; exact absurd h Bool.false_ne_true
            · cases (m17_ok o p1 (m17_1 o p1 p3))
              · intro h; exact absurd h Bool.false_ne_true
              · cases (m18_ok o (m17_0 o p0 (m17_1 o p0 p2)) (m17_0 o p1 (m17_1 o p1 p3)) (m17_2 o p0 (m17_1 o p0 p2)) (m17_2 o p1 (m17_1 o p1 p3)))
                · intro h; exact absurd h Bool.false_ne_true
                · cases (!((m18_0 o (m17_0 o p0 (m17_1 o p0 p2)) (m17_0 o p1 (m17_1 o p1 p3)) (m17_2 o p0 (m17_1 o p0 p2)) (m17_2 o p1 (m17_1 o p1 p3))) == (m16_0 o (m17_0 o p0 p2) (m17_0 o p1 p3) (m17_2 o p0 p2) (m17_2 o p1 p3))))
                  · cases (m17_ok o p0 (m17_1 o p0 (m17_1 o p0 p2)))
                    · intro h; exact absurd h Bool.false_ne_true
                    · cases (m19_ok o (m17_0 o p0 (m17_1 o p0 p2)) (m17_0 o p0 (m17_1 o p0 (m17_1 o p0 p2))) (m17_2 o p0 (m17_1 o p0 p2)) (m17_2 o p0 (m17_1 o p0 (m17_1 o p0 p2))))
                      · intro h; exact absurd h Bool.false_ne_true
                      · cases (m19_0 o (m17_0 o p0 (m17_1 o p0 p2)) (m17_0 o p0 (m17_1 o p0 (m17_1 o p0 p2))) (m17_2 o p0 (m17_1 o p0 p2)) (m17_2 o p0 (m17_1 o p0 (m17_1 o p0 p2))))
                        · intro _; rfl
                        · cases (m17_ok o p1 (m17_1 o p1 (m17_1 o p1 p3)))
                          · intro h; exact absurd h Bool.false_ne_true
                          · cases (m19_ok o (m17_0 o p1 (m17_1 o p1 p3)) (m17_0 o p1 (m17_1 o p1 (m17_1 o p1 p3))) (m17_2 o p1 (m17_1 o p1 p3)) (m17_2 o p1 (m17_1 o p1 (m17_1 o p1 p3))))
                            · intro h; exact absurd h Bool.false_ne_true
                            · cases (m19_0 o (m17_0 o p1 (m17_1 o p1 p3)) (m17_0 o p1 (m17_1 o p1 (m17_1 o p1 p3))) (m17_2 o p1 (m17_1 o p1 p3)) (m17_2 o p1 (m17_1 o p1 (m17_1 o p1 p3))))
                              · intro _; rfl
                              · intro _; rfl
                  · intro _; rfl
    · intro _; rfl
  · intro _; rfl

noncomputable def e3 (o : FO) : List (AV o) → Heap o → Tr (AV o)
  | [.slice 0 0 p0 3, .slice 1 0 p1 3], [.live _ true p2, .live _ true p3] => .br (m3_ok o p0 p1 p2 p3) (.leaf (.bool (m3_0 o p0 p1 p2 p3))) .fail
  | _, _ => .fail
theorem ok3 (N : Nat) (hN : 4096 ≤ N) : CalOk Try.prog 3 (.ro (e3 ieee)) := by
  refine calOk_ro (cok3 2000000 (by decide)) (is3 2000000) ?_
  intro args h av hg
  unfold e3 at hg
  split at hg
  · obtain ⟨h0, hg⟩ := br_get hg
    cases hg
    exact ⟨rfl, _, (eq3 ieee 2000000 _ _ _ _).trans (val3 ieee _ _ _ _ h0)⟩
  · cases hg

/-! loop.example/g01224/laws.szLevelS -/
noncomputable def f15a (o : FO) (p0 : Int) : R o :=
  let v1 : Int := IntKind.wrap .i64 (p0 - (0 : Int))
  bif decide (v1 < (0 : Int)) then
    some (.int .i64 (-1 : Int), [])
  else
    some (.int .i64 v1, [])
noncomputable def c15a (o : FO) (N : Nat) : Cx o :=
  { ty := tab [(22, ty22 o)]
    fn := tab []
    rounds := 4096, nt := 12, base := 0
    loops := [] }
theorem is15a (N : Nat) : FnIs Try.prog (c15a ieee N) 15 Try.f15 b15 := ⟨by kernel_rfl, by kernel_rfl, by kernel_rfl, by kernel_rfl⟩
theorem eq15a (o : FO) (N : Nat) (p0 : Int) : afun (c15a o N) Try.f15.results.toList b15 [.nilslice, .int .i64 p0] [] = f15a o p0 := by kernel_rfl
theorem cok15a (N : Nat) (hN : 4096 ≤ N) : CtxOk Try.prog (c15a ieee N) := by
  refine ctxOk ?_ ?_ mixed ?_
  · intro p hp
    simp only [List.mem_cons, List.not_mem_nil, or_false] at hp
    subst hp; exact tyOk22
  · intro p hp; cases hp
  · intro p hp; cases hp
noncomputable def m15a_0 (o : FO) (p0 : Int) : Int :=
  let v1 : Int := IntKind.wrap .i64 (p0 - (0 : Int))
  bif decide (v1 < (0 : Int)) then
    (-1 : Int)
  else
    v1
theorem val15a (o : FO) (p0 : Int) : f15a o p0 = some (.int .i64 (m15a_0 o p0), []) := by
  unfold f15a m15a_0
  try dsimp only
  cases (decide ((IntKind.wrap .i64 (p0 - (0 : Int))) < (0 : Int)))
  · rfl
  · rfl

noncomputable def e15as (o : FO) : List (AV o) → Heap o → Tr (AV o)
  | [.nilslice, .int .i64 p0], [] => .leaf (.int .i64 (m15a_0 o p0))
  | _, _ => .fail
theorem ok15as (N : Nat) (hN : 4096 ≤ N) : CalOk Try.prog 15 (.ro (e15as ieee)) := by
  refine calOk_ro (cok15a 2000000 (by decide)) (is15a 2000000) ?_
  intro args h av hg
  unfold e15as at hg
  split at hg
  · cases hg
    exact ⟨rfl, _, (eq15a ieee 2000000 _).trans (val15a ieee _)⟩
  · cases hg
noncomputable def e15s (o : FO) : List (AV o) → Heap o → Tr (AV o)
  | [.slice 0 0 p0 3, .int .i64 p1], [.live _ true p2] => .leaf (.int .i64 (m15_0 o p0 p1 p2))
  | _, _ => .fail
theorem ok15s (N : Nat) (hN : 4096 ≤ N) : CalOk Try.prog 15 (.ro (e15s ieee)) := by
  refine calOk_ro (cok15 2000000 (by decide)) (is15 2000000) ?_
  intro args h av hg
  unfold e15s at hg
  split at hg
  · cases hg
    exact ⟨rfl, _, (eq15 ieee 2000000 _ _ _).trans (val15 ieee _ _ _)⟩
  · cases hg
noncomputable def e15v1 (o : FO) : List (AV o) → Heap o → Tr (AV o)
  | [.slice 0 0 p0 3, .int .i64 p1], [.live _ true p2] => .leaf (.int .i64 (m15_0 o p0 p1 p2))
  | [.nilslice, .int .i64 p0], [] => .leaf (.int .i64 (m15a_0 o p0))
  | _, _ => .fail
theorem ok15v1 (N : Nat) (hN : 4096 ≤ N) : CalOk Try.prog 15 (.ro (e15v1 ieee)) := by
  intro args h av hg
  unfold e15v1 at hg
  split at hg
  · exact ok15s N hN _ _ av hg
  · exact ok15as N hN _ _ av hg
  · cases hg

/-! loop.example/g01224/laws.toLevelS -/
noncomputable def f17b_L0 (o : FO) (N : Nat) (s0 : Nat × Int → R o) (a : Nat × Int) : R o :=
  bif decide (a.2 < (0 : Int)) then
    none
  else
    some (.slice 0 0 a.1 3, [.live true true []])
noncomputable def f17b_D0 (o : FO) (vs : List (AV o)) (h : Heap o) : Option (Nat × Int) :=
  match vs, h with
  | [.nilslice, .slice 0 0 a0_0 3, .int .i64 a0_1], [.live true true []] => some (a0_0, a0_1)
  | _, _ => none
noncomputable def f17b_E0 (o : FO) (a : Nat × Int) : List (AV o) × Heap o := ([.nilslice, .slice 0 0 a.1 3, .int .i64 a.2], [.live true true []])
theorem f17b_DE0 (o : FO) : ∀ vs h a, f17b_D0 o vs h = some a → f17b_E0 o a = (vs, h) := by
  intro vs h a hx
  unfold f17b_D0 at hx
  split at hx
  · cases hx; rfl
  · cases hx
noncomputable def f17b (o : FO) (N : Nat) : R o :=
  iter (f17b_L0 o N) N (0, (0 : Int))
noncomputable def c17b (o : FO) (N : Nat) : Cx o :=
  { ty := tab [(22, ty22 o), (25, ty25 o), (66, ty66 o)]
    fn := tab []
    rounds := N, nt := 23, base := 0
    loops := [loopD [0, 3, 4] (f17b_D0 o) (f17b_E0 o)] }
theorem is17b (N : Nat) : FnIs Try.prog (c17b ieee N) 17 Try.f17 b17 := ⟨by kernel_rfl, by kernel_rfl, by kernel_rfl, by kernel_rfl⟩
theorem eq17b (o : FO) (N : Nat) : afun (c17b o N) Try.f17.results.toList b17 [.nilslice] [] = f17b o N := by kernel_rfl
theorem cok17b (N : Nat) (hN : 4096 ≤ N) : CtxOk Try.prog (c17b ieee N) := by
  refine ctxOk ?_ ?_ mixed ?_
  · intro p hp
    simp only [List.mem_cons, List.not_mem_nil, or_false] at hp
    rcases hp with rfl | rfl | rfl
    · exact tyOk22
    · exact tyOk25
    · exact tyOk66
  · intro p hp; cases hp
  · intro p hp
    simp only [List.mem_cons, List.not_mem_nil, or_false] at hp
    subst hp; exact loopD_ok _ _ _ (f17b_DE0 ieee)
noncomputable def k17b (o : FO) : R o → Bool := fun r => match r with | some (.slice 0 0 _ 3, [.live true true []]) => true | _ => false
theorem k17b_c (o : FO) (b : Bool) (x y : R o) : k17b o (bif b then x else y) = bif b then k17b o x else k17b o y := by cases b <;> rfl
noncomputable def m17b_ok (o : FO)  : Bool := k17b o (f17b o 2000000)
noncomputable def g17b_0 (o : FO) : R o → Nat := fun r => match r with | some (.slice 0 0 r0 3, [.live true true []]) => r0 | _ => 0
theorem g17b_0c (o : FO) (b : Bool) (x y : R o) : g17b_0 o (bif b then x else y) = bif b then g17b_0 o x else g17b_0 o y := by cases b <;> rfl
noncomputable def m17b_0 (o : FO)  : Nat := g17b_0 o (f17b o 2000000)
theorem val17b (o : FO)  (h : m17b_ok o = true) : f17b o 2000000 = some (.slice 0 0 (m17b_0 o) 3, [.live true true []]) := by
  unfold m17b_ok k17b at h
  unfold m17b_0 g17b_0
  generalize f17b o 2000000 = r at h ⊢
  split at h
  · rfl
  · cases h

noncomputable def e17bs (o : FO) : List (AV o) → Heap o → Tr (AV o × Heap o)
  | [.nilslice], [] => .br (m17b_ok o) (.leaf ((.slice 0 0 (m17b_0 o) 3, [.live true true []]))) .fail
  | _, _ => .fail
theorem ok17bs (N : Nat) (hN : 4096 ≤ N) : CalOk Try.prog 17 (.rw (e17bs ieee)) := by
  refine calOk_rw (cok17b 2000000 (by decide)) (is17b 2000000) ?_
  intro args h av h2 hg
  unfold e17bs at hg
  split at hg
  · obtain ⟨h0, hg⟩ := br_get hg
    cases hg
    exact (eq17b ieee 2000000).trans (val17b ieee h0)
  · cases hg
noncomputable def e17v2 (o : FO) : List (AV o) → Heap o → Tr (AV o × Heap o)
  | [.slice 0 0 p0 3], [.live false true p1] => .br (m17_ok o p0 p1) (.leaf ((.slice 1 0 (m17_0 o p0 p1) 3, [.live false true (m17_1 o p0 p1), .live true true (m17_2 o p0 p1)]))) .fail
  | [.slice 0 0 p0 3], [.live true true p1] => .br (m17a_ok o p0 p1) (.leaf ((.slice 1 0 (m17a_0 o p0 p1) 3, [.live true true (m17a_1 o p0 p1), .live true true (m17a_2 o p0 p1)]))) .fail
  | [.nilslice], [] => .br (m17b_ok o) (.leaf ((.slice 0 0 (m17b_0 o) 3, [.live true true []]))) .fail
  | _, _ => .fail
theorem ok17v2 (N : Nat) (hN : 4096 ≤ N) : CalOk Try.prog 17 (.rw (e17v2 ieee)) := by
  intro args h av h2 hg
  unfold e17v2 at hg
  split at hg
  · exact ok17s N hN _ _ av h2 hg
  · exact ok17as N hN _ _ av h2 hg
  · exact ok17bs N hN _ _ av h2 hg
  · cases hg

/-! loop.example/g01224/laws.FnExactSameSounding -/
noncomputable def f3a (o : FO) (p0 : Nat) (p1 : List (AV o)) : R o :=
  let v1 : Int := m15_0 o p0 (1048576 : Int) p1
  bif decide (v1 < (0 : Int)) then
    some (.bool true, [.live false true p1])
  else
    bif decide ((m15a_0 o v1) < (0 : Int)) then
      some (.bool true, [.live false true p1])
    else
      gd (m17_ok o p0 p1) (
      gd (m17b_ok o) (
      gd (m16_ok o (m17_0 o p0 p1) (m17b_0 o) (m17_2 o p0 p1) []) (
      gd (m17_ok o p0 (m17_1 o p0 p1)) (
      let v2 : List (AV o) := m17_2 o p0 (m17_1 o p0 p1)
      let v3 : List (AV o) := m17_1 o p0 (m17_1 o p0 p1)
      let v4 : Nat := m17_0 o p0 (m17_1 o p0 p1)
      gd (m17b_ok o) (
      gd (m18_ok o v4 (m17b_0 o) v2 []) (
      bif !((m18_0 o v4 (m17b_0 o) v2 []) == (m16_0 o (m17_0 o p0 p1) (m17b_0 o) (m17_2 o p0 p1) [])) then
        some (.bool false, [.live false true v3])
      else
        gd (m17_ok o p0 v3) (
        let v5 : List (AV o) := m17_2 o p0 v3
        let v6 : List (AV o) := m17_1 o p0 v3
        let v7 : Nat := m17_0 o p0 v3
        gd (m19_ok o v4 v7 v2 v5) (
        bif !(m19_0 o v4 v7 v2 v5) then
          some (.bool false, [.live false true v6])
        else
          gd (m17b_ok o) (
          gd (m19_ok o (m17b_0 o) (m17b_0 o) [] []) (
          bif !(m19_0 o (m17b_0 o) (m17b_0 o) [] []) then
            some (.bool false, [.live false true v6])
          else
            some (.bool true, [.live false true v6])))))))))))
noncomputable def c3a (o : FO) (N : Nat) : Cx o :=
  { ty := tab [(4, ty4 o)]
    fn := tab [(15, .ro (e15v1 o)), (16, .ro (e16 o)), (17, .rw (e17v2 o)), (18, .ro (e18 o)), (19, .ro (e19 o))]
    rounds := 4096, nt := 45, base := 1
    loops := [] }
theorem is3a (N : Nat) : FnIs Try.prog (c3a ieee N) 3 Try.f3 b3 := ⟨by kernel_rfl, by kernel_rfl, by kernel_rfl, by kernel_rfl⟩
theorem eq3a (o : FO) (N : Nat) (p0 : Nat) (p1 : List (AV o)) : afun (c3a o N) Try.f3.results.toList b3 [.slice 0 0 p0 3, .nilslice] [.live false true p1] = f3a o p0 p1 := by kernel_rfl
theorem cok3a (N : Nat) (hN : 4096 ≤ N) : CtxOk Try.prog (c3a ieee N) := by
  refine ctxOk ?_ ?_ mixed ?_
  · intro p hp
    simp only [List.mem_cons, List.not_mem_nil, or_false] at hp
    subst hp; exact tyOk4
  · intro p hp
    simp only [List.mem_cons, List.not_mem_nil, or_false] at hp
    rcases hp with rfl | rfl | rfl | rfl | rfl
    · exact ok15v1 N hN
    · exact ok16 N hN
    · exact ok17v2 N hN
    · exact ok18 N hN
    · exact ok19 N hN
  · intro p hp; cases hp
noncomputable def m3a_ok (o : FO) (p0 : Nat) (p1 : List (AV o)) : Bool :=
  let v1 : Int := m15_0 o p0 (1048576 : Int) p1
  bif decide (v1 < (0 : Int)) then
    true
  else
    bif decide ((m15a_0 o v1) < (0 : Int)) then
      true
    else
      bif m17_ok o p0 p1 then
        bif m17b_ok o then
          bif m16_ok o (m17_0 o p0 p1) (m17b_0 o) (m17_2 o p0 p1) [] then
            bif m17_ok o p0 (m17_1 o p0 p1) then
              let v2 : List (AV o) := m17_2 o p0 (m17_1 o p0 p1)
              let v3 : List (AV o) := m17_1 o p0 (m17_1 o p0 p1)
              let v4 : Nat := m17_0 o p0 (m17_1 o p0 p1)
              bif m18_ok o v4 (m17b_0 o) v2 [] then
                bif !((m18_0 o v4 (m17b_0 o) v2 []) == (m16_0 o (m17_0 o p0 p1) (m17b_0 o) (m17_2 o p0 p1) [])) then
                  true
                else
                  bif m17_ok o p0 v3 then
                    let v5 : List (AV o) := m17_2 o p0 v3
                    let v6 : Nat := m17_0 o p0 v3
                    bif m19_ok o v4 v6 v2 v5 then
                      bif m19_0 o v4 v6 v2 v5 then
                        bif m19_ok o (m17b_0 o) (m17b_0 o) [] [] then
                          true
                        else
                          false
                      else
                        true
                    else
                      false
                  else
                    false
              else
                false
            else
              false
          else
            false
        else
          false
      else
        false
noncomputable def m3a_0 (o : FO) (p0 : Nat) (p1 : List (AV o)) : Bool :=
  let v1 : Int := m15_0 o p0 (1048576 : Int) p1
  bif decide (v1 < (0 : Int)) then
    true
  else
    bif decide ((m15a_0 o v1) < (0 : Int)) then
      true
    else
      let v2 : List (AV o) := m17_2 o p0 (m17_1 o p0 p1)
      let v3 : List (AV o) := m17_1 o p0 (m17_1 o p0 p1)
      let v4 : Nat := m17_0 o p0 (m17_1 o p0 p1)
      bif !((m18_0 o v4 (m17b_0 o) v2 []) == (m16_0 o (m17_0 o p0 p1) (m17b_0 o) (m17_2 o p0 p1) [])) then
        false
      else
        bif m19_0 o v4 (m17_0 o p0 v3) v2 (m17_2 o p0 v3) then
          m19_0 o (m17b_0 o) (m17b_0 o) [] []
        else
          false
noncomputable def m3a_1 (o : FO) (p0 : Nat) (p1 : List (AV o)) : List (AV o) :=
  let v1 : Int := m15_0 o p0 (1048576 : Int) p1
  bif decide (v1 < (0 : Int)) then
    p1
  else
    bif decide ((m15a_0 o v1) < (0 : Int)) then
      p1
    else
      let v2 : List (AV o) := m17_2 o p0 (m17_1 o p0 p1)
      let v3 : List (AV o) := m17_1 o p0 (m17_1 o p0 p1)
      let v4 : Nat := m17_0 o p0 (m17_1 o p0 p1)
      bif !((m18_0 o v4 (m17b_0 o) v2 []) == (m16_0 o (m17_0 o p0 p1) (m17b_0 o) (m17_2 o p0 p1) [])) then
        v3
      else
        let v5 : List (AV o) := m17_1 o p0 v3
        bif m19_0 o v4 (m17_0 o p0 v3) v2 (m17_2 o p0 v3) then
          v5
        else
          v5
theorem val3a (o : FO) (p0 : Nat) (p1 : List (AV o)) (h : m3a_ok o p0 p1 = true) : f3a o p0 p1 = some (.bool (m3a_0 o p0 p1), [.live false true (m3a_1 o p0 p1)]) := by
  revert h
  unfold m3a_ok f3a m3a_0 m3a_1
  try dsimp only
  cases (decide ((m15_0 o p0 (1048576 : Int) p1) < (0 : Int)))
  · cases (decide ((m15a_0 o (m15_0 o p0 (1048576 : Int) p1)) < (0 : Int)))
    · cases (m17_ok o p0 p1)
      · intro h; exact absurd h Bool.false_ne_true
      · cases (m17b_ok o)
        · intro h; exact absurd h Bool.false_ne_true
        · cases (m16_ok o (m17_0 o p0 p1) (m17b_0 o) (m17_2 o p0 p1) [])
          · intro h; exact absurd h Bool.false_ne_true
          · cases (m17_ok o p0 (m17_1 o p0 p1))
            · intro h; exact absurd h Bool.false_ne_true
            · cases (m18_ok o (m17_0 o p0 (m17_1 o p0 p1)) (m17b_0 o) (m17_2 o p0 (m17_1 o p0 p1)) [])
              · intro h; exact absurd h Bool.false_ne_true
              · cases (!((m18_0 o (m17_0 o p0 (m17_1 o p0 p1)) (m17b_0 o) (m17_2 o p0 (m17_1 o p0 p1)) []) == (m16_0 o (m17_0 o p0 p1) (m17b_0 o) (m17_2 o p0 p1) [])))
                · cases (m17_ok o p0 (m17_1 o p0 (m17_1 o p0 p1)))
                  · intro h; exact absurd h Bool.false_ne_true
                  · cases (m19_ok o (m17_0 o p0 (m17_1 o p0 p1)) (m17_0 o p0 (m17_1 o p0 (m17_1 o p0 p1))) (m17_2 o p0 (m17_1 o p0 p1)) (m17_2 o p0 (m17_1 o p0 (m17_1 o p0 p1))))
                    · intro h; exact absurd h Bool.false_ne_true
                    · cases (m19_0 o (m17_0 o p0 (m17_1 o p0 p1)) (m17_0 o p0 (m17_1 o p0 (m17_1 o p0 p1))) (m17_2 o p0 (m17_1 o p0 p1)) (m17_2 o p0 (m17_1 o p0 (m17_1 o p0 p1))))
                      · intro _; rfl
                      · cases (m19_ok o (m17b_0 o) (m17b_0 o) [] [])
                        · intro h; exact absurd h Bool.false_ne_true
                        · cases (m19_0 o (m17b_0 o) (m17b_0 o) [] [])
                          · intro _; rfl
                          · intro _; rfl
                · intro _; rfl
    · intro _; rfl
  · intro _; rfl

noncomputable def e3as (o : FO) : List (AV o) → Heap o → Tr (AV o)
  | [.slice 0 0 p0 3, .nilslice], [.live _ true p1] => .br (m3a_ok o p0 p1) (.leaf (.bool (m3a_0 o p0 p1))) .fail
  | _, _ => .fail
theorem ok3as (N : Nat) (hN : 4096 ≤ N) : CalOk Try.prog 3 (.ro (e3as ieee)) := by
  refine calOk_ro (cok3a 2000000 (by decide)) (is3a 2000000) ?_
  intro args h av hg
  unfold e3as at hg
  split at hg
  · obtain ⟨h0, hg⟩ := br_get hg
    cases hg
    exact ⟨rfl, _, (eq3a ieee 2000000 _ _).trans (val3a ieee _ _ h0)⟩
  · cases hg
noncomputable def e3s (o : FO) : List (AV o) → Heap o → Tr (AV o)
  | [.slice 0 0 p0 3, .slice 1 0 p1 3], [.live _ true p2, .live _ true p3] => .br (m3_ok o p0 p1 p2 p3) (.leaf (.bool (m3_0 o p0 p1 p2 p3))) .fail
  | _, _ => .fail
theorem ok3s (N : Nat) (hN : 4096 ≤ N) : CalOk Try.prog 3 (.ro (e3s ieee)) := by
  refine calOk_ro (cok3 2000000 (by decide)) (is3 2000000) ?_
  intro args h av hg
  unfold e3s at hg
  split at hg
  · obtain ⟨h0, hg⟩ := br_get hg
    cases hg
    exact ⟨rfl, _, (eq3 ieee 2000000 _ _ _ _).trans (val3 ieee _ _ _ _ h0)⟩
  · cases hg
noncomputable def e3v1 (o : FO) : List (AV o) → Heap o → Tr (AV o)
  | [.slice 0 0 p0 3, .slice 1 0 p1 3], [.live _ true p2, .live _ true p3] => .br (m3_ok o p0 p1 p2 p3) (.leaf (.bool (m3_0 o p0 p1 p2 p3))) .fail
  | [.slice 0 0 p0 3, .nilslice], [.live _ true p1] => .br (m3a_ok o p0 p1) (.leaf (.bool (m3a_0 o p0 p1))) .fail
  | _, _ => .fail
theorem ok3v1 (N : Nat) (hN : 4096 ≤ N) : CalOk Try.prog 3 (.ro (e3v1 ieee)) := by
  intro args h av hg
  unfold e3v1 at hg
  split at hg
  · exact ok3s N hN _ _ av hg
  · exact ok3as N hN _ _ av hg
  · cases hg

/-! loop.example/g01224/laws.FnExactSameSounding -/
noncomputable def f3b (o : FO) (p0 : Nat) (p1 : List (AV o)) : R o :=
  bif decide ((m15a_0 o (1048576 : Int)) < (0 : Int)) then
    some (.bool true, [.live false true p1])
  else
    bif decide ((m15_0 o p0 (m15a_0 o (1048576 : Int)) p1) < (0 : Int)) then
      some (.bool true, [.live false true p1])
    else
      gd (m17b_ok o) (
      gd (m17_ok o p0 p1) (
      gd (m16_ok o (m17b_0 o) (m17_0 o p0 p1) [] (m17_2 o p0 p1)) (
      gd (m17b_ok o) (
      gd (m17_ok o p0 (m17_1 o p0 p1)) (
      let v1 : List (AV o) := m17_2 o p0 (m17_1 o p0 p1)
      let v2 : List (AV o) := m17_1 o p0 (m17_1 o p0 p1)
      let v3 : Nat := m17_0 o p0 (m17_1 o p0 p1)
      gd (m18_ok o (m17b_0 o) v3 [] v1) (
      bif !((m18_0 o (m17b_0 o) v3 [] v1) == (m16_0 o (m17b_0 o) (m17_0 o p0 p1) [] (m17_2 o p0 p1))) then
        some (.bool false, [.live false true v2])
      else
        gd (m17b_ok o) (
        gd (m19_ok o (m17b_0 o) (m17b_0 o) [] []) (
        bif !(m19_0 o (m17b_0 o) (m17b_0 o) [] []) then
          some (.bool false, [.live false true v2])
        else
          gd (m17_ok o p0 v2) (
          let v4 : List (AV o) := m17_2 o p0 v2
          let v5 : List (AV o) := m17_1 o p0 v2
          let v6 : Nat := m17_0 o p0 v2
          gd (m19_ok o v3 v6 v1 v4) (
          bif !(m19_0 o v3 v6 v1 v4) then
            some (.bool false, [.live false true v5])
          else
            some (.bool true, [.live false true v5])))))))))))
noncomputable def c3b (o : FO) (N : Nat) : Cx o :=
  { ty := tab [(4, ty4 o)]
    fn := tab [(15, .ro (e15v1 o)), (16, .ro (e16 o)), (17, .rw (e17v2 o)), (18, .ro (e18 o)), (19, .ro (e19 o))]
    rounds := 4096, nt := 45, base := 1
    loops := [] }
theorem is3b (N : Nat) : FnIs Try.prog (c3b ieee N) 3 Try.f3 b3 := ⟨by kernel_rfl, by kernel_rfl, by kernel_rfl, by kernel_rfl⟩
theorem eq3b (o : FO) (N : Nat) (p0 : Nat) (p1 : List (AV o)) : afun (c3b o N) Try.f3.results.toList b3 [.nilslice, .slice 0 0 p0 3] [.live false true p1] = f3b o p0 p1 := by kernel_rfl
theorem cok3b (N : Nat) (hN : 4096 ≤ N) : CtxOk Try.prog (c3b ieee N) := by
  refine ctxOk ?_ ?_ mixed ?_
  · intro p hp
    simp only [List.mem_cons, List.not_mem_nil, or_false] at hp
    subst hp; exact tyOk4
  · intro p hp
    simp only [List.mem_cons, List.not_mem_nil, or_false] at hp
    rcases hp with rfl | rfl | rfl | rfl | rfl
    · exact ok15v1 N hN
    · exact ok16 N hN
    · exact ok17v2 N hN
    · exact ok18 N hN
    · exact ok19 N hN
  · intro p hp; cases hp
noncomputable def m3b_ok (o : FO) (p0 : Nat) (p1 : List (AV o)) : Bool :=
  bif decide ((m15a_0 o (1048576 : Int)) < (0 : Int)) then
    true
  else
    bif decide ((m15_0 o p0 (m15a_0 o (1048576 : Int)) p1) < (0 : Int)) then
      true
    else
      bif m17b_ok o then
        bif m17_ok o p0 p1 then
          bif m16_ok o (m17b_0 o) (m17_0 o p0 p1) [] (m17_2 o p0 p1) then
            bif m17_ok o p0 (m17_1 o p0 p1) then
              let v1 : List (AV o) := m17_2 o p0 (m17_1 o p0 p1)
              let v2 : List (AV o) := m17_1 o p0 (m17_1 o p0 p1)
              let v3 : Nat := m17_0 o p0 (m17_1 o p0 p1)
              bif m18_ok o (m17b_0 o) v3 [] v1 then
                bif !((m18_0 o (m17b_0 o) v3 [] v1) == (m16_0 o (m17b_0 o) (m17_0 o p0 p1) [] (m17_2 o p0 p1))) then
                  true
                else
                  bif m19_ok o (m17b_0 o) (m17b_0 o) [] [] then
                    bif m19_0 o (m17b_0 o) (m17b_0 o) [] [] then
                      bif m17_ok o p0 v2 then
                        bif m19_ok o v3 (m17_0 o p0 v2) v1 (m17_2 o p0 v2) then
                          true
                        else
                          false
                      else
                        false
                    else
                      true
                  else
                    false
              else
                false
            else
              false
          else
            false
        else
          false
      else
        false
noncomputable def m3b_0 (o : FO) (p0 : Nat) (p1 : List (AV o)) : Bool :=
  bif decide ((m15a_0 o (1048576 : Int)) < (0 : Int)) then
    true
  else
    bif decide ((m15_0 o p0 (m15a_0 o (1048576 : Int)) p1) < (0 : Int)) then
      true
    else
      let v1 : List (AV o) := m17_2 o p0 (m17_1 o p0 p1)
      let v2 : List (AV o) := m17_1 o p0 (m17_1 o p0 p1)
      let v3 : Nat := m17_0 o p0 (m17_1 o p0 p1)
      bif !((m18_0 o (m17b_0 o) v3 [] v1) == (m16_0 o (m17b_0 o) (m17_0 o p0 p1) [] (m17_2 o p0 p1))) then
        false
      else
        bif m19_0 o (m17b_0 o) (m17b_0 o) [] [] then
          m19_0 o v3 (m17_0 o p0 v2) v1 (m17_2 o p0 v2)
        else
          false
noncomputable def m3b_1 (o : FO) (p0 : Nat) (p1 : List (AV o)) : List (AV o) :=
  bif decide ((m15a_0 o (1048576 : Int)) < (0 : Int)) then
    p1
  else
    bif decide ((m15_0 o p0 (m15a_0 o (1048576 : Int)) p1) < (0 : Int)) then
      p1
    else
      let v1 : List (AV o) := m17_1 o p0 (m17_1 o p0 p1)
      bif !((m18_0 o (m17b_0 o) (m17_0 o p0 (m17_1 o p0 p1)) [] (m17_2 o p0 (m17_1 o p0 p1))) == (m16_0 o (m17b_0 o) (m17_0 o p0 p1) [] (m17_2 o p0 p1))) then
        v1
      else
        bif m19_0 o (m17b_0 o) (m17b_0 o) [] [] then
          m17_1 o p0 v1
        else
          v1
theorem val3b (o : FO) (p0 : Nat) (p1 : List (AV o)) (h : m3b_ok o p0 p1 = true) : f3b o p0 p1 = some (.bool (m3b_0 o p0 p1), [.live false true (m3b_1 o p0 p1)]) := by
  revert h
  unfold m3b_ok f3b m3b_0 m3b_1
  try dsimp only
  cases (decide ((m15a_0 o (1048576 : Int)) < (0 : Int)))
  · cases (decide ((m15_0 o p0 (m15a_0 o (1048576 : Int)) p1) < (0 : Int)))
    · cases (m17b_ok o)
      · intro h; exact absurd h Bool.false_ne_true
      · cases (m17_ok o p0 p1)
        · intro h; exact absurd h Bool.false_ne_true
        · cases (m16_ok o (m17b_0 o) (m17_0 o p0 p1) [] (m17_2 o p0 p1))
          · intro h; exact absurd h Bool.false_ne_true
          · cases (m17_ok o p0 (m17_1 o p0 p1))
            · intro h; exact absurd h Bool.false_ne_true
            · cases (m18_ok o (m17b_0 o) (m17_0 o p0 (m17_1 o p0 p1)) [] (m17_2 o p0 (m17_1 o p0 p1)))
              · intro h; exact absurd h Bool.false_ne_true
              · cases (!((m18_0 o (m17b_0 o) (m17_0 o p0 (m17_1 o p0 p1)) [] (m17_2 o p0 (m17_1 o p0 p1))) == (m16_0 o (m17b_0 o) (m17_0 o p0 p1) [] (m17_2 o p0 p1))))
                · cases (m19_ok o (m17b_0 o) (m17b_0 o) [] [])
                  · intro h; exact absurd h Bool.false_ne_true
                  · cases (m19_0 o (m17b_0 o) (m17b_0 o) [] [])
                    · intro _; rfl
                    · cases (m17_ok o p0 (m17_1 o p0 (m17_1 o p0 p1)))
                      · intro h; exact absurd h Bool.false_ne_true
                      · cases (m19_ok o (m17_0 o p0 (m17_1 o p0 p1)) (m17_0 o p0 (m17_1 o p0 (m17_1 o p0 p1))) (m17_2 o p0 (m17_1 o p0 p1)) (m17_2 o p0 (m17_1 o p0 (m17_1 o p0 p1))))
                        · intro h; exact absurd h Bool.false_ne_true
                        · cases (m19_0 o (m17_0 o p0 (m17_1 o p0 p1)) (m17_0 o p0 (m17_1 o p0 (m17_1 o p0 p1))) (m17_2 o p0 (m17_1 o p0 p1)) (m17_2 o p0 (m17_1 o p0 (m17_1 o p0 p1))))
                          · intro _; rfl
                          · intro _; rfl
                · intro _; rfl
    · intro _; rfl
  · intro _; rfl

noncomputable def e3bs (o : FO) : List (AV o) → Heap o → Tr (AV o)
  | [.nilslice, .slice 0 0 p0 3], [.live _ true p1] => .br (m3b_ok o p0 p1) (.leaf (.bool (m3b_0 o p0 p1))) .fail
  | _, _ => .fail
theorem ok3bs (N : Nat) (hN : 4096 ≤ N) : CalOk Try.prog 3 (.ro (e3bs ieee)) := by
  refine calOk_ro (cok3b 2000000 (by decide)) (is3b 2000000) ?_
  intro args h av hg
  unfold e3bs at hg
  split at hg
  · obtain ⟨h0, hg⟩ := br_get hg
    cases hg
    exact ⟨rfl, _, (eq3b ieee 2000000 _ _).trans (val3b ieee _ _ h0)⟩
  · cases hg
noncomputable def e3v2 (o : FO) : List (AV o) → Heap o → Tr (AV o)
  | [.slice 0 0 p0 3, .slice 1 0 p1 3], [.live _ true p2, .live _ true p3] => .br (m3_ok o p0 p1 p2 p3) (.leaf (.bool (m3_0 o p0 p1 p2 p3))) .fail
  | [.slice 0 0 p0 3, .nilslice], [.live _ true p1] => .br (m3a_ok o p0 p1) (.leaf (.bool (m3a_0 o p0 p1))) .fail
  | [.nilslice, .slice 0 0 p0 3], [.live _ true p1] => .br (m3b_ok o p0 p1) (.leaf (.bool (m3b_0 o p0 p1))) .fail
  | _, _ => .fail
theorem ok3v2 (N : Nat) (hN : 4096 ≤ N) : CalOk Try.prog 3 (.ro (e3v2 ieee)) := by
  intro args h av hg
  unfold e3v2 at hg
  split at hg
  · exact ok3s N hN _ _ av hg
  · exact ok3as N hN _ _ av hg
  · exact ok3bs N hN _ _ av hg
  · cases hg

/-! loop.example/g01224/laws.FnExactSameSounding -/
noncomputable def f3c (o : FO) : R o :=
  bif decide ((m15a_0 o (1048576 : Int)) < (0 : Int)) then
    some (.bool true, [])
  else
    bif decide ((m15a_0 o (m15a_0 o (1048576 : Int))) < (0 : Int)) then
      some (.bool true, [])
    else
      gd (m17b_ok o) (
      gd (m17b_ok o) (
      gd (m16_ok o (m17b_0 o) (m17b_0 o) [] []) (
      gd (m17b_ok o) (
      gd (m17b_ok o) (
      gd (m18_ok o (m17b_0 o) (m17b_0 o) [] []) (
      bif !((m18_0 o (m17b_0 o) (m17b_0 o) [] []) == (m16_0 o (m17b_0 o) (m17b_0 o) [] [])) then
        some (.bool false, [])
      else
        gd (m17b_ok o) (
        gd (m19_ok o (m17b_0 o) (m17b_0 o) [] []) (
        let v1 : Bool := m19_0 o (m17b_0 o) (m17b_0 o) [] []
        let v2 : Bool := !v1
        bif v2 then
          some (.bool false, [])
        else
          gd (m17b_ok o) (
          gd (m19_ok o (m17b_0 o) (m17b_0 o) [] []) (
          bif v2 then
            some (.bool false, [])
          else
            some (.bool true, [])))))))))))
noncomputable def c3c (o : FO) (N : Nat) : Cx o :=
  { ty := tab [(4, ty4 o)]
    fn := tab [(15, .ro (e15v1 o)), (16, .ro (e16 o)), (17, .rw (e17v2 o)), (18, .ro (e18 o)), (19, .ro (e19 o))]
    rounds := 4096, nt := 45, base := 0
    loops := [] }
theorem is3c (N : Nat) : FnIs Try.prog (c3c ieee N) 3 Try.f3 b3 := ⟨by kernel_rfl, by kernel_rfl, by kernel_rfl, by kernel_rfl⟩
theorem eq3c (o : FO) (N : Nat) : afun (c3c o N) Try.f3.results.toList b3 [.nilslice, .nilslice] [] = f3c o := by kernel_rfl
theorem cok3c (N : Nat) (hN : 4096 ≤ N) : CtxOk Try.prog (c3c ieee N) := by
  refine ctxOk ?_ ?_ mixed ?_
  · intro p hp
    simp only [List.mem_cons, List.not_mem_nil, or_false] at hp
    subst hp; exact tyOk4
  · intro p hp
    simp only [List.mem_cons, List.not_mem_nil, or_false] at hp
    rcases hp with rfl | rfl | rfl | rfl | rfl
    · exact ok15v1 N hN
    · exact ok16 N hN
    · exact ok17v2 N hN
    · exact ok18 N hN
    · exact ok19 N hN
  · intro p hp; cases hp
noncomputable def m3c_ok (o : FO)  : Bool :=
  bif decide ((m15a_0 o (1048576 : Int)) < (0 : Int)) then
    true
  else
    bif decide ((m15a_0 o (m15a_0 o (1048576 : Int))) < (0 : Int)) then
      true
    else
      bif m17b_ok o then
        bif m16_ok o (m17b_0 o) (m17b_0 o) [] [] then
          bif m18_ok o (m17b_0 o) (m17b_0 o) [] [] then
            bif !((m18_0 o (m17b_0 o) (m17b_0 o) [] []) == (m16_0 o (m17b_0 o) (m17b_0 o) [] [])) then
              true
            else
              bif m19_ok o (m17b_0 o) (m17b_0 o) [] [] then
                bif m19_0 o (m17b_0 o) (m17b_0 o) [] [] then
                  true
                else
                  true
              else
                false
          else
            false
        else
          false
      else
        false
noncomputable def m3c_0 (o : FO)  : Bool :=
  bif decide ((m15a_0 o (1048576 : Int)) < (0 : Int)) then
    true
  else
    bif decide ((m15a_0 o (m15a_0 o (1048576 : Int))) < (0 : Int)) then
      true
    else
      bif !((m18_0 o (m17b_0 o) (m17b_0 o) [] []) == (m16_0 o (m17b_0 o) (m17b_0 o) [] [])) then
        false
      else
        bif m19_0 o (m17b_0 o) (m17b_0 o) [] [] then
          true
        else
          false
theorem val3c (o : FO)  (h : m3c_ok o = true) : f3c o = some (.bool (m3c_0 o), []) := by
  revert h
  unfold m3c_ok f3c m3c_0
  try dsimp only
  cases (decide ((m15a_0 o (1048576 : Int)) < (0 : Int)))
  · cases (decide ((m15a_0 o (m15a_0 o (1048576 : Int))) < (0 : Int)))
    · cases (m17b_ok o)
      · intro h; exact absurd h Bool.false_ne_true
      · cases (m16_ok o (m17b_0 o) (m17b_0 o) [] [])
        · intro h; exact absurd h Bool.false_ne_true
        · cases (m18_ok o (m17b_0 o) (m17b_0 o) [] [])
          · intro h; exact absurd h Bool.false_ne_true
          · cases (!((m18_0 o (m17b_0 o) (m17b_0 o) [] []) == (m16_0 o (m17b_0 o) (m17b_0 o) [] [])))
            · cases (m19_ok o (m17b_0 o) (m17b_0 o) [] [])
              · intro h; exact absurd h Bool.false_ne_true
              · cases (m19_0 o (m17b_0 o) (m17b_0 o) [] [])
                · intro _; rfl
                · intro _; rfl
            · intro _; rfl
    · intro _; rfl
  · intro _; rfl

noncomputable def e3cs (o : FO) : List (AV o) → Heap o → Tr (AV o)
  | [.nilslice, .nilslice], [] => .br (m3c_ok o) (.leaf (.bool (m3c_0 o))) .fail
  | _, _ => .fail
theorem ok3cs (N : Nat) (hN : 4096 ≤ N) : CalOk Try.prog 3 (.ro (e3cs ieee)) := by
  refine calOk_ro (cok3c 2000000 (by decide)) (is3c 2000000) ?_
  intro args h av hg
  unfold e3cs at hg
  split at hg
  · obtain ⟨h0, hg⟩ := br_get hg
    cases hg
    exact ⟨rfl, _, (eq3c ieee 2000000).trans (val3c ieee h0)⟩
  · cases hg
noncomputable def e3v3 (o : FO) : List (AV o) → Heap o → Tr (AV o)
  | [.slice 0 0 p0 3, .slice 1 0 p1 3], [.live _ true p2, .live _ true p3] => .br (m3_ok o p0 p1 p2 p3) (.leaf (.bool (m3_0 o p0 p1 p2 p3))) .fail
  | [.slice 0 0 p0 3, .nilslice], [.live _ true p1] => .br (m3a_ok o p0 p1) (.leaf (.bool (m3a_0 o p0 p1))) .fail
  | [.nilslice, .slice 0 0 p0 3], [.live _ true p1] => .br (m3b_ok o p0 p1) (.leaf (.bool (m3b_0 o p0 p1))) .fail
  | [.nilslice, .nilslice], [] => .br (m3c_ok o) (.leaf (.bool (m3c_0 o))) .fail
  | _, _ => .fail
theorem ok3v3 (N : Nat) (hN : 4096 ≤ N) : CalOk Try.prog 3 (.ro (e3v3 ieee)) := by
  intro args h av hg
  unfold e3v3 at hg
  split at hg
  · exact ok3s N hN _ _ av hg
  · exact ok3as N hN _ _ av hg
  · exact ok3bs N hN _ _ av hg
  · exact ok3cs N hN _ _ av hg
  · cases hg

end Go.Proofs.Ytihmppdnglfjnaa
