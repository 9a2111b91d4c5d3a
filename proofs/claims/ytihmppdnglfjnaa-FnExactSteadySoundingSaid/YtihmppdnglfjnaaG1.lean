import Derived.Test.YtihmppdnglfjnaaG0
set_option linter.unusedVariables false
set_option maxRecDepth 100000
namespace Go.Proofs.Ytihmppdnglfjnaa
open Go.Ab Go.RowKit

/-! loop.example/g01224/laws.szLevelS -/
noncomputable def f15 (o : FO) (p0 : Nat) (p1 : Int) (p2 : List (AV o)) : R o :=
  let v1 : Int := IntKind.wrap .i64 (p1 - ((p0 : Nat) : Int))
  bif decide (v1 < (0 : Int)) then
    some (.int .i64 (-1 : Int), [.live false true p2])
  else
    some (.int .i64 v1, [.live false true p2])
noncomputable def c15 (o : FO) (N : Nat) : Cx o :=
  { ty := tab [(22, ty22 o)]
    fn := tab []
    rounds := 4096, nt := 12, base := 1
    loops := [] }
noncomputable def b15 : Code := match Try.f15.body with | some b => b | none => .skip
theorem is15 (N : Nat) : FnIs Try.prog (c15 ieee N) 15 Try.f15 b15 := ⟨by kernel_rfl, by kernel_rfl, by kernel_rfl, by kernel_rfl⟩
theorem eq15 (o : FO) (N : Nat) (p0 : Nat) (p1 : Int) (p2 : List (AV o)) : afun (c15 o N) Try.f15.results.toList b15 [.slice 0 0 p0 3, .int .i64 p1] [.live false true p2] = f15 o p0 p1 p2 := by kernel_rfl
theorem cok15 (N : Nat) (hN : 4096 ≤ N) : CtxOk Try.prog (c15 ieee N) := by
  refine ctxOk ?_ ?_ mixed ?_
  · intro p hp
    simp only [List.mem_cons, List.not_mem_nil, or_false] at hp
    subst hp; exact tyOk22
  · intro p hp; cases hp
  · intro p hp; cases hp
noncomputable def m15_0 (o : FO) (p0 : Nat) (p1 : Int) (p2 : List (AV o)) : Int :=
  let v1 : Int := IntKind.wrap .i64 (p1 - ((p0 : Nat) : Int))
  bif decide (v1 < (0 : Int)) then
    (-1 : Int)
  else
    v1
theorem val15 (o : FO) (p0 : Nat) (p1 : Int) (p2 : List (AV o)) : f15 o p0 p1 p2 = some (.int .i64 (m15_0 o p0 p1 p2), [.live false true p2]) := by
  unfold f15 m15_0
  try dsimp only
  cases (decide ((IntKind.wrap .i64 (p1 - ((p0 : Nat) : Int))) < (0 : Int)))
  · rfl
  · rfl

noncomputable def e15 (o : FO) : List (AV o) → Heap o → Tr (AV o)
  | [.slice 0 0 p0 3, .int .i64 p1], [.live _ true p2] => .leaf (.int .i64 (m15_0 o p0 p1 p2))
  | _, _ => .fail
theorem ok15 (N : Nat) (hN : 4096 ≤ N) : CalOk Try.prog 15 (.ro (e15 ieee)) := by
  refine calOk_ro (cok15 2000000 (by decide)) (is15 2000000) ?_
  intro args h av hg
  unfold e15 at hg
  split at hg
  · cases hg
    exact ⟨rfl, _, (eq15 ieee 2000000 _ _ _).trans (val15 ieee _ _ _)⟩
  · cases hg

/-! loop.example/g01224/laws.toAir -/
noncomputable def f72 (o : FO) (p0 : o.S) (p1 : o.S) : R o :=
  some (.agg [.f32 p0, .f32 p1], [])
noncomputable def c72 (o : FO) (N : Nat) : Cx o :=
  { ty := tab [(30, ty30 o), (43, ty43 o), (48, ty48 o)]
    fn := tab []
    rounds := 4096, nt := 11, base := 0
    loops := [] }
noncomputable def b72 : Code := match Try.f72.body with | some b => b | none => .skip
theorem is72 (N : Nat) : FnIs Try.prog (c72 ieee N) 72 Try.f72 b72 := ⟨by kernel_rfl, by kernel_rfl, by kernel_rfl, by kernel_rfl⟩
theorem eq72 (o : FO) (N : Nat) (p0 : o.S) (p1 : o.S) : afun (c72 o N) Try.f72.results.toList b72 [.agg [.f32 p0, .f32 p1]] [] = f72 o p0 p1 := by kernel_rfl
theorem cok72 (N : Nat) (hN : 4096 ≤ N) : CtxOk Try.prog (c72 ieee N) := by
  refine ctxOk ?_ ?_ mixed ?_
  · intro p hp
    simp only [List.mem_cons, List.not_mem_nil, or_false] at hp
    rcases hp with rfl | rfl | rfl
    · exact tyOk30
    · exact tyOk43
    · exact tyOk48
  · intro p hp; cases hp
  · intro p hp; cases hp
theorem val72 (o : FO) (p0 : o.S) (p1 : o.S) : f72 o p0 p1 = some (.agg [.f32 p0, .f32 p1], []) := by
  unfold f72
  rfl

noncomputable def e72 (o : FO) : List (AV o) → Tr (AV o)
  | [.agg [.f32 p0, .f32 p1]] => .leaf (.agg [.f32 p0, .f32 p1])
  | _ => .fail
theorem ok72 (N : Nat) (hN : 4096 ≤ N) : CalOk Try.prog 72 (.pure (e72 ieee)) := by
  refine calOk_pure (cok72 2000000 (by decide)) (is72 2000000) ?_
  intro args av hg
  unfold e72 at hg
  split at hg
  · cases hg
    exact ⟨rfl, rfl, _, (eq72 ieee 2000000 _ _).trans (val72 ieee _ _)⟩
  · cases hg

/-! loop.example/g01224/laws.toLevel -/
noncomputable def f53 (o : FO) (p0 : o.S) (p1 : o.S) (p2 : o.S) : R o :=
  some (.agg [.f32 p0, .f32 p1, .f32 p2], [])
noncomputable def c53 (o : FO) (N : Nat) : Cx o :=
  { ty := tab [(30, ty30 o), (43, ty43 o), (48, ty48 o), (66, ty66 o), (73, ty73 o)]
    fn := tab [(72, .pure (e72 o))]
    rounds := 4096, nt := 12, base := 0
    loops := [] }
noncomputable def b53 : Code := match Try.f53.body with | some b => b | none => .skip
theorem is53 (N : Nat) : FnIs Try.prog (c53 ieee N) 53 Try.f53 b53 := ⟨by kernel_rfl, by kernel_rfl, by kernel_rfl, by kernel_rfl⟩
theorem eq53 (o : FO) (N : Nat) (p0 : o.S) (p1 : o.S) (p2 : o.S) : afun (c53 o N) Try.f53.results.toList b53 [.agg [.f32 p0, .f32 p1, .f32 p2]] [] = f53 o p0 p1 p2 := by kernel_rfl
theorem cok53 (N : Nat) (hN : 4096 ≤ N) : CtxOk Try.prog (c53 ieee N) := by
  refine ctxOk ?_ ?_ mixed ?_
  · intro p hp
    simp only [List.mem_cons, List.not_mem_nil, or_false] at hp
    rcases hp with rfl | rfl | rfl | rfl | rfl
    · exact tyOk30
    · exact tyOk43
    · exact tyOk48
    · exact tyOk66
    · exact tyOk73
  · intro p hp
    simp only [List.mem_cons, List.not_mem_nil, or_false] at hp
    subst hp; exact ok72 N hN
  · intro p hp; cases hp
theorem val53 (o : FO) (p0 : o.S) (p1 : o.S) (p2 : o.S) : f53 o p0 p1 p2 = some (.agg [.f32 p0, .f32 p1, .f32 p2], []) := by
  unfold f53
  rfl

noncomputable def e53 (o : FO) : List (AV o) → Tr (AV o)
  | [.agg [.f32 p0, .f32 p1, .f32 p2]] => .leaf (.agg [.f32 p0, .f32 p1, .f32 p2])
  | _ => .fail
theorem ok53 (N : Nat) (hN : 4096 ≤ N) : CalOk Try.prog 53 (.pure (e53 ieee)) := by
  refine calOk_pure (cok53 2000000 (by decide)) (is53 2000000) ?_
  intro args av hg
  unfold e53 at hg
  split at hg
  · cases hg
    exact ⟨rfl, rfl, _, (eq53 ieee 2000000 _ _ _).trans (val53 ieee _ _ _)⟩
  · cases hg

/-! loop.example/g01224/laws.toLevelS -/
noncomputable def f17_L0 (o : FO) (N : Nat) (s0 : Nat × Nat × Int × List (AV o) × List (AV o) → R o) (a : Nat × Nat × Int × List (AV o) × List (AV o)) : R o :=
  bif decide (a.2.2.1 < ((a.1 : Nat) : Int)) then
    gd (decide (0 ≤ a.2.2.1) && decide (a.2.2.1 < ((a.1 : Nat) : Int))) (
    rdS a.2.2.2.1 (0 + (((a.2.2.1).toNat) * 3)) fun x1 =>
    rdS a.2.2.2.1 ((0 + (((a.2.2.1).toNat) * 3)) + 1) fun x2 =>
    rdS a.2.2.2.1 (((0 + (((a.2.2.1).toNat) * 3)) + 1) + 1) fun x3 =>
    gd (decide (0 ≤ a.2.2.1) && decide (a.2.2.1 < ((a.2.1 : Nat) : Int))) (
    wrA a.2.2.2.2 (0 + (((a.2.2.1).toNat) * 3)) 3 [.f32 x1, .f32 x2, .f32 x3] fun c4 =>
    s0 (a.1, a.2.1, IntKind.wrap .i64 (a.2.2.1 + (1 : Int)), a.2.2.2.1, c4)))
  else
    some (.slice 1 0 a.2.1 3, [.live false true a.2.2.2.1, .live true true a.2.2.2.2])
noncomputable def f17_D0 (o : FO) (vs : List (AV o)) (h : Heap o) : Option (Nat × Nat × Int × List (AV o) × List (AV o)) :=
  match vs, h with
  | [.slice 0 0 a0_0 3, .slice 1 0 a0_1 3, .int .i64 a0_2], [.live false true a0_3, .live true true a0_4] => some (a0_0, a0_1, a0_2, a0_3, a0_4)
  | _, _ => none
noncomputable def f17_E0 (o : FO) (a : Nat × Nat × Int × List (AV o) × List (AV o)) : List (AV o) × Heap o := ([.slice 0 0 a.1 3, .slice 1 0 a.2.1 3, .int .i64 a.2.2.1], [.live false true a.2.2.2.1, .live true true a.2.2.2.2])
theorem f17_DE0 (o : FO) : ∀ vs h a, f17_D0 o vs h = some a → f17_E0 o a = (vs, h) := by
  intro vs h a hx
  unfold f17_D0 at hx
  split at hx
  · cases hx; rfl
  · cases hx
noncomputable def f17 (o : FO) (N : Nat) (p0 : Nat) (p1 : List (AV o)) : R o :=
  gd (decide (0 ≤ ((p0 : Nat) : Int)) && (decide (((p0 : Nat) : Int) = ((p0 : Nat) : Int)) && (decide (((p0 : Nat) : Int) * ((3 : Nat) : Int) ≤ 16777216) && (decide (((12 : Nat) : Int) * ((p0 : Nat) : Int) ≤ 281474976710656) && decide (((p0 : Nat) : Int) ≤ 9223372036854775807))))) (
  iter (f17_L0 o N) N (p0, (((p0 : Nat) : Int)).toNat, (0 : Int), p1, zeros [.f32 (o.slit 0), .f32 (o.slit 0), .f32 (o.slit 0)] ((((p0 : Nat) : Int)).toNat)))
noncomputable def c17 (o : FO) (N : Nat) : Cx o :=
  { ty := tab [(22, ty22 o), (25, ty25 o), (66, ty66 o), (73, ty73 o)]
    fn := tab [(53, .pure (e53 o))]
    rounds := N, nt := 23, base := 1
    loops := [loopD [0, 3, 4] (f17_D0 o) (f17_E0 o)] }
noncomputable def b17 : Code := match Try.f17.body with | some b => b | none => .skip
theorem is17 (N : Nat) : FnIs Try.prog (c17 ieee N) 17 Try.f17 b17 := ⟨by kernel_rfl, by kernel_rfl, by kernel_rfl, by kernel_rfl⟩
theorem eq17 (o : FO) (N : Nat) (p0 : Nat) (p1 : List (AV o)) : afun (c17 o N) Try.f17.results.toList b17 [.slice 0 0 p0 3] [.live false true p1] = f17 o N p0 p1 := by kernel_rfl
theorem cok17 (N : Nat) (hN : 4096 ≤ N) : CtxOk Try.prog (c17 ieee N) := by
  refine ctxOk ?_ ?_ mixed ?_
  · intro p hp
    simp only [List.mem_cons, List.not_mem_nil, or_false] at hp
    rcases hp with rfl | rfl | rfl | rfl
    · exact tyOk22
    · exact tyOk25
    · exact tyOk66
    · exact tyOk73
  · intro p hp
    simp only [List.mem_cons, List.not_mem_nil, or_false] at hp
    subst hp; exact ok53 N hN
  · intro p hp
    simp only [List.mem_cons, List.not_mem_nil, or_false] at hp
    subst hp; exact loopD_ok _ _ _ (f17_DE0 ieee)
noncomputable def k17 (o : FO) : R o → Bool := fun r => match r with | some (.slice 1 0 _ 3, [.live false true _, .live true true _]) => true | _ => false
theorem k17_c (o : FO) (b : Bool) (x y : R o) : k17 o (bif b then x else y) = bif b then k17 o x else k17 o y := by cases b <;> rfl
noncomputable def m17_ok (o : FO) (p0 : Nat) (p1 : List (AV o)) : Bool := k17 o (f17 o 2000000 p0 p1)
noncomputable def g17_0 (o : FO) : R o → Nat := fun r => match r with | some (.slice 1 0 r0 3, [.live false true _, .live true true _]) => r0 | _ => 0
theorem g17_0c (o : FO) (b : Bool) (x y : R o) : g17_0 o (bif b then x else y) = bif b then g17_0 o x else g17_0 o y := by cases b <;> rfl
noncomputable def m17_0 (o : FO) (p0 : Nat) (p1 : List (AV o)) : Nat := g17_0 o (f17 o 2000000 p0 p1)
noncomputable def g17_1 (o : FO) : R o → List (AV o) := fun r => match r with | some (.slice 1 0 _ 3, [.live false true r1, .live true true _]) => r1 | _ => []
theorem g17_1c (o : FO) (b : Bool) (x y : R o) : g17_1 o (bif b then x else y) = bif b then g17_1 o x else g17_1 o y := by cases b <;> rfl
noncomputable def m17_1 (o : FO) (p0 : Nat) (p1 : List (AV o)) : List (AV o) := g17_1 o (f17 o 2000000 p0 p1)
noncomputable def g17_2 (o : FO) : R o → List (AV o) := fun r => match r with | some (.slice 1 0 _ 3, [.live false true _, .live true true r2]) => r2 | _ => []
theorem g17_2c (o : FO) (b : Bool) (x y : R o) : g17_2 o (bif b then x else y) = bif b then g17_2 o x else g17_2 o y := by cases b <;> rfl
noncomputable def m17_2 (o : FO) (p0 : Nat) (p1 : List (AV o)) : List (AV o) := g17_2 o (f17 o 2000000 p0 p1)
theorem val17 (o : FO) (p0 : Nat) (p1 : List (AV o)) (h : m17_ok o p0 p1 = true) : f17 o 2000000 p0 p1 = some (.slice 1 0 (m17_0 o p0 p1) 3, [.live false true (m17_1 o p0 p1), .live true true (m17_2 o p0 p1)]) := by
  unfold m17_ok k17 at h
  unfold m17_0 g17_0 m17_1 g17_1 m17_2 g17_2
  generalize f17 o 2000000 p0 p1 = r at h ⊢
  split at h
  · rfl
  · cases h

noncomputable def e17 (o : FO) : List (AV o) → Heap o → Tr (AV o × Heap o)
  | [.slice 0 0 p0 3], [.live false true p1] => .br (m17_ok o p0 p1) (.leaf ((.slice 1 0 (m17_0 o p0 p1) 3, [.live false true (m17_1 o p0 p1), .live true true (m17_2 o p0 p1)]))) .fail
  | _, _ => .fail
theorem ok17 (N : Nat) (hN : 4096 ≤ N) : CalOk Try.prog 17 (.rw (e17 ieee)) := by
  refine calOk_rw (cok17 2000000 (by decide)) (is17 2000000) ?_
  intro args h av h2 hg
  unfold e17 at hg
  split at hg
  · obtain ⟨h0, hg⟩ := br_get hg
    cases hg
    exact (eq17 ieee 2000000 _ _).trans (val17 ieee _ _ h0)
  · cases hg

/-! loop.example/g01224/spec.l01Finite -/
noncomputable def f63 (o : FO) (p0 : o.S) : R o :=
  some (.bool (o.seq (o.ssub p0 p0) (o.slit 0)), [])
noncomputable def c63 (o : FO) (N : Nat) : Cx o :=
  { ty := tab []
    fn := tab []
    rounds := 4096, nt := 7, base := 0
    loops := [] }
noncomputable def b63 : Code := match Try.f63.body with | some b => b | none => .skip
theorem is63 (N : Nat) : FnIs Try.prog (c63 ieee N) 63 Try.f63 b63 := ⟨by kernel_rfl, by kernel_rfl, by kernel_rfl, by kernel_rfl⟩
theorem eq63 (o : FO) (N : Nat) (p0 : o.S) : afun (c63 o N) Try.f63.results.toList b63 [.f32 p0] [] = f63 o p0 := by kernel_rfl
theorem cok63 (N : Nat) (hN : 4096 ≤ N) : CtxOk Try.prog (c63 ieee N) := by
  refine ctxOk ?_ ?_ mixed ?_
  · intro p hp; cases hp
  · intro p hp; cases hp
  · intro p hp; cases hp
noncomputable def m63_0 (o : FO) (p0 : o.S) : Bool :=
  o.seq (o.ssub p0 p0) (o.slit 0)
theorem val63 (o : FO) (p0 : o.S) : f63 o p0 = some (.bool (m63_0 o p0), []) := by
  unfold f63 m63_0
  rfl

noncomputable def e63 (o : FO) : List (AV o) → Tr (AV o)
  | [.f32 p0] => .leaf (.bool (m63_0 o p0))
  | _ => .fail
theorem ok63 (N : Nat) (hN : 4096 ≤ N) : CalOk Try.prog 63 (.pure (e63 ieee)) := by
  refine calOk_pure (cok63 2000000 (by decide)) (is63 2000000) ?_
  intro args av hg
  unfold e63 at hg
  split at hg
  · cases hg
    exact ⟨rfl, rfl, _, (eq63 ieee 2000000 _).trans (val63 ieee _)⟩
  · cases hg

/-! math.Float32bits -/
noncomputable def e83 (o : FO) : List (AV o) → Tr (AV o) := eBitsS o
theorem ok83 (N : Nat) (_ : 4096 ≤ N) : CalOk Try.prog 83 (.pure (e83 ieee)) := calOk_bitsS (fn := Try.f83) (by kernel_rfl) (by kernel_rfl) (by kernel_rfl) (by kernel_rfl) (by kernel_rfl)

/-! loop.example/g01224/spec.l01Amount -/
noncomputable def f92 (o : FO) (p0 : o.S) : R o :=
  bif m63_0 o p0 then
    bif o.slt (o.slit 0) p0 then
      some (.bool true, [])
    else
      gd (o.seq p0 p0) (
      bif (o.sbits p0) == (0 : Int) then
        some (.bool true, [])
      else
        some (.bool false, []))
  else
    some (.bool false, [])
noncomputable def c92 (o : FO) (N : Nat) : Cx o :=
  { ty := tab []
    fn := tab [(63, .pure (e63 o)), (83, .pure (e83 o))]
    rounds := 4096, nt := 14, base := 0
    loops := [] }
noncomputable def b92 : Code := match Try.f92.body with | some b => b | none => .skip
theorem is92 (N : Nat) : FnIs Try.prog (c92 ieee N) 92 Try.f92 b92 := ⟨by kernel_rfl, by kernel_rfl, by kernel_rfl, by kernel_rfl⟩
theorem eq92 (o : FO) (N : Nat) (p0 : o.S) : afun (c92 o N) Try.f92.results.toList b92 [.f32 p0] [] = f92 o p0 := by kernel_rfl
theorem cok92 (N : Nat) (hN : 4096 ≤ N) : CtxOk Try.prog (c92 ieee N) := by
  refine ctxOk ?_ ?_ mixed ?_
  · intro p hp; cases hp
  · intro p hp
    simp only [List.mem_cons, List.not_mem_nil, or_false] at hp
    rcases hp with rfl | rfl
    · exact ok63 N hN
    · exact ok83 N hN
  · intro p hp; cases hp


theorem val92 (p0 : ieee.S) : f92 ieee p0 = some (.bool (amtS ieee p0), []) := by
  have e : f92 ieee p0 = (bif finS ieee p0 then (bif ieee.slt (ieee.slit 0) p0 then some (.bool true, []) else gd (ieee.seq p0 p0) (bif ieee.sbits p0 == 0 then some (.bool true, []) else some (.bool false, []))) else some (.bool false, [])) := rfl
  rw [e]
  unfold amtS
  have h := seq_of_fin p0
  revert h
  cases finS ieee p0
  · intro _; rfl
  · intro h
    rw [h rfl]
    cases ieee.slt (ieee.slit 0) p0
    · cases (ieee.sbits p0 == 0) <;> rfl
    · rfl

noncomputable def e92 (o : FO) : List (AV o) → Tr (AV o)
  | [.f32 p0] => .leaf (.bool (amtS o p0))
  | _ => .fail
theorem ok92 (N : Nat) (hN : 4096 ≤ N) : CalOk Try.prog 92 (.pure (e92 ieee)) := by
  refine calOk_pure (cok92 2000000 (by decide)) (is92 2000000) ?_
  intro args av hg
  unfold e92 at hg
  split at hg
  · cases hg
    exact ⟨rfl, rfl, _, (eq92 ieee 2000000 _).trans (val92 _)⟩
  · cases hg

/-! loop.example/g01224/spec.l04Height -/
noncomputable def f86 (o : FO) (p0 : o.S) : R o :=
  bif amtS o p0 then
    bif o.sle p0 (o.slit 1106247680) then
      some (.bool true, [])
    else
      some (.bool false, [])
  else
    some (.bool false, [])
noncomputable def c86 (o : FO) (N : Nat) : Cx o :=
  { ty := tab []
    fn := tab [(92, .pure (e92 o))]
    rounds := 4096, nt := 9, base := 0
    loops := [] }
noncomputable def b86 : Code := match Try.f86.body with | some b => b | none => .skip
theorem is86 (N : Nat) : FnIs Try.prog (c86 ieee N) 86 Try.f86 b86 := ⟨by kernel_rfl, by kernel_rfl, by kernel_rfl, by kernel_rfl⟩
theorem eq86 (o : FO) (N : Nat) (p0 : o.S) : afun (c86 o N) Try.f86.results.toList b86 [.f32 p0] [] = f86 o p0 := by kernel_rfl
theorem cok86 (N : Nat) (hN : 4096 ≤ N) : CtxOk Try.prog (c86 ieee N) := by
  refine ctxOk ?_ ?_ mixed ?_
  · intro p hp; cases hp
  · intro p hp
    simp only [List.mem_cons, List.not_mem_nil, or_false] at hp
    subst hp; exact ok92 N hN
  · intro p hp; cases hp
noncomputable def m86_0 (o : FO) (p0 : o.S) : Bool :=
  bif amtS o p0 then
    o.sle p0 (o.slit 1106247680)
  else
    false
theorem val86 (o : FO) (p0 : o.S) : f86 o p0 = some (.bool (m86_0 o p0), []) := by
  unfold f86 m86_0
  try dsimp only
  cases (amtS o p0)
  · rfl
  · cases (o.sle p0 (o.slit 1106247680))
    · rfl
    · rfl

noncomputable def e86 (o : FO) : List (AV o) → Tr (AV o)
  | [.f32 p0] => .leaf (.bool (m86_0 o p0))
  | _ => .fail
theorem ok86 (N : Nat) (hN : 4096 ≤ N) : CalOk Try.prog 86 (.pure (e86 ieee)) := by
  refine calOk_pure (cok86 2000000 (by decide)) (is86 2000000) ?_
  intro args av hg
  unfold e86 at hg
  split at hg
  · cases hg
    exact ⟨rfl, rfl, _, (eq86 ieee 2000000 _).trans (val86 ieee _)⟩
  · cases hg

/-! loop.example/g01224/spec.l02Heat -/
noncomputable def f91 (o : FO) (p0 : o.S) : R o :=
  bif o.sle (o.slit 3262119936) p0 then
    bif o.sle p0 (o.slit 1114636288) then
      some (.bool true, [])
    else
      some (.bool false, [])
  else
    some (.bool false, [])
noncomputable def c91 (o : FO) (N : Nat) : Cx o :=
  { ty := tab []
    fn := tab []
    rounds := 4096, nt := 9, base := 0
    loops := [] }
noncomputable def b91 : Code := match Try.f91.body with | some b => b | none => .skip
theorem is91 (N : Nat) : FnIs Try.prog (c91 ieee N) 91 Try.f91 b91 := ⟨by kernel_rfl, by kernel_rfl, by kernel_rfl, by kernel_rfl⟩
theorem eq91 (o : FO) (N : Nat) (p0 : o.S) : afun (c91 o N) Try.f91.results.toList b91 [.f32 p0] [] = f91 o p0 := by kernel_rfl
theorem cok91 (N : Nat) (hN : 4096 ≤ N) : CtxOk Try.prog (c91 ieee N) := by
  refine ctxOk ?_ ?_ mixed ?_
  · intro p hp; cases hp
  · intro p hp; cases hp
  · intro p hp; cases hp
noncomputable def m91_0 (o : FO) (p0 : o.S) : Bool :=
  bif o.sle (o.slit 3262119936) p0 then
    o.sle p0 (o.slit 1114636288)
  else
    false
theorem val91 (o : FO) (p0 : o.S) : f91 o p0 = some (.bool (m91_0 o p0), []) := by
  unfold f91 m91_0
  try dsimp only
  cases (o.sle (o.slit 3262119936) p0)
  · rfl
  · cases (o.sle p0 (o.slit 1114636288))
    · rfl
    · rfl

noncomputable def e91 (o : FO) : List (AV o) → Tr (AV o)
  | [.f32 p0] => .leaf (.bool (m91_0 o p0))
  | _ => .fail
theorem ok91 (N : Nat) (hN : 4096 ≤ N) : CalOk Try.prog 91 (.pure (e91 ieee)) := by
  refine calOk_pure (cok91 2000000 (by decide)) (is91 2000000) ?_
  intro args av hg
  unfold e91 at hg
  split at hg
  · cases hg
    exact ⟨rfl, rfl, _, (eq91 ieee 2000000 _).trans (val91 ieee _)⟩
  · cases hg

/-! loop.example/g01224/spec.l02Ok -/
noncomputable def f67 (o : FO) (p0 : Nat) (p1 : List (AV o)) : R o :=
  rdS p1 (p0 + 0) fun x1 =>
  bif m91_0 o x1 then
    rdS p1 (p0 + 1) fun x2 =>
    bif amtS o x2 then
      rdS p1 (p0 + 1) fun x3 =>
      bif o.sle x3 (o.slit 1148846080) then
        some (.bool true, [.live false true p1])
      else
        some (.bool false, [.live false true p1])
    else
      some (.bool false, [.live false true p1])
  else
    some (.bool false, [.live false true p1])
noncomputable def c67 (o : FO) (N : Nat) : Cx o :=
  { ty := tab [(30, ty30 o), (43, ty43 o)]
    fn := tab [(91, .pure (e91 o)), (92, .pure (e92 o))]
    rounds := 4096, nt := 22, base := 1
    loops := [] }
noncomputable def b67 : Code := match Try.f67.body with | some b => b | none => .skip
theorem is67 (N : Nat) : FnIs Try.prog (c67 ieee N) 67 Try.f67 b67 := ⟨by kernel_rfl, by kernel_rfl, by kernel_rfl, by kernel_rfl⟩
theorem eq67 (o : FO) (N : Nat) (p0 : Nat) (p1 : List (AV o)) : afun (c67 o N) Try.f67.results.toList b67 [.ptr 0 p0] [.live false true p1] = f67 o p0 p1 := by kernel_rfl
theorem cok67 (N : Nat) (hN : 4096 ≤ N) : CtxOk Try.prog (c67 ieee N) := by
  refine ctxOk ?_ ?_ mixed ?_
  · intro p hp
    simp only [List.mem_cons, List.not_mem_nil, or_false] at hp
    rcases hp with rfl | rfl
    · exact tyOk30
    · exact tyOk43
  · intro p hp
    simp only [List.mem_cons, List.not_mem_nil, or_false] at hp
    rcases hp with rfl | rfl
    · exact ok91 N hN
    · exact ok92 N hN
  · intro p hp; cases hp
noncomputable def m67_h (o : FO) (p0 : Nat) (p1 : List (AV o)) : Heap o := match f67 o p0 p1 with | some (_, h) => h | _ => []
noncomputable def k67 (o : FO) : R o → Bool := fun r => match r with | some (.bool _, _) => true | _ => false
theorem k67_c (o : FO) (b : Bool) (x y : R o) : k67 o (bif b then x else y) = bif b then k67 o x else k67 o y := by cases b <;> rfl
noncomputable def m67_ok (o : FO) (p0 : Nat) (p1 : List (AV o)) : Bool := k67 o (f67 o p0 p1)
noncomputable def g67_0 (o : FO) : R o → Bool := fun r => match r with | some (.bool r0, _) => r0 | _ => false
theorem g67_0c (o : FO) (b : Bool) (x y : R o) : g67_0 o (bif b then x else y) = bif b then g67_0 o x else g67_0 o y := by cases b <;> rfl
noncomputable def m67_0 (o : FO) (p0 : Nat) (p1 : List (AV o)) : Bool := g67_0 o (f67 o p0 p1)
theorem val67 (o : FO) (p0 : Nat) (p1 : List (AV o)) (h : m67_ok o p0 p1 = true) : f67 o p0 p1 = some (.bool (m67_0 o p0 p1), m67_h o p0 p1) := by
  unfold m67_ok k67 at h
  unfold m67_0 g67_0 m67_h
  generalize f67 o p0 p1 = r at h ⊢
  split at h
  · rfl
  · cases h

noncomputable def e67 (o : FO) : List (AV o) → Heap o → Tr (AV o)
  | [.ptr 0 p0], [.live _ true p1] => .br (m67_ok o p0 p1) (.leaf (.bool (m67_0 o p0 p1))) .fail
  | _, _ => .fail
theorem ok67 (N : Nat) (hN : 4096 ≤ N) : CalOk Try.prog 67 (.ro (e67 ieee)) := by
  refine calOk_ro (cok67 2000000 (by decide)) (is67 2000000) ?_
  intro args h av hg
  unfold e67 at hg
  split at hg
  · obtain ⟨h0, hg⟩ := br_get hg
    cases hg
    exact ⟨rfl, _, (eq67 ieee 2000000 _ _).trans (val67 ieee _ _ h0)⟩
  · cases hg

/-! loop.example/g01224/spec.l00In -/
noncomputable def f60 (o : FO) (p0 : Int) (p1 : Int) (p2 : Int) : R o :=
  bif decide (p0 ≥ p1) then
    bif decide (p0 ≤ p2) then
      some (.bool true, [])
    else
      some (.bool false, [])
  else
    some (.bool false, [])
noncomputable def c60 (o : FO) (N : Nat) : Cx o :=
  { ty := tab []
    fn := tab []
    rounds := 4096, nt := 15, base := 0
    loops := [] }
noncomputable def b60 : Code := match Try.f60.body with | some b => b | none => .skip
theorem is60 (N : Nat) : FnIs Try.prog (c60 ieee N) 60 Try.f60 b60 := ⟨by kernel_rfl, by kernel_rfl, by kernel_rfl, by kernel_rfl⟩
theorem eq60 (o : FO) (N : Nat) (p0 : Int) (p1 : Int) (p2 : Int) : afun (c60 o N) Try.f60.results.toList b60 [.int .i64 p0, .int .i64 p1, .int .i64 p2] [] = f60 o p0 p1 p2 := by kernel_rfl
theorem cok60 (N : Nat) (hN : 4096 ≤ N) : CtxOk Try.prog (c60 ieee N) := by
  refine ctxOk ?_ ?_ mixed ?_
  · intro p hp; cases hp
  · intro p hp; cases hp
  · intro p hp; cases hp
noncomputable def m60_0 (o : FO) (p0 : Int) (p1 : Int) (p2 : Int) : Bool :=
  bif decide (p0 ≥ p1) then
    decide (p0 ≤ p2)
  else
    false
theorem val60 (o : FO) (p0 : Int) (p1 : Int) (p2 : Int) : f60 o p0 p1 p2 = some (.bool (m60_0 o p0 p1 p2), []) := by
  unfold f60 m60_0
  try dsimp only
  cases (decide (p0 ≥ p1))
  · rfl
  · cases (decide (p0 ≤ p2))
    · rfl
    · rfl

noncomputable def e60 (o : FO) : List (AV o) → Tr (AV o)
  | [.int .i64 p0, .int .i64 p1, .int .i64 p2] => .leaf (.bool (m60_0 o p0 p1 p2))
  | _ => .fail
theorem ok60 (N : Nat) (hN : 4096 ≤ N) : CalOk Try.prog 60 (.pure (e60 ieee)) := by
  refine calOk_pure (cok60 2000000 (by decide)) (is60 2000000) ?_
  intro args av hg
  unfold e60 at hg
  split at hg
  · cases hg
    exact ⟨rfl, rfl, _, (eq60 ieee 2000000 _ _ _).trans (val60 ieee _ _ _)⟩
  · cases hg

/-! loop.example/g01224/spec.l04Sounding -/
noncomputable def f58_L0 (o : FO) (N : Nat) (s0 : Nat × Int × List (AV o) → R o) (a : Nat × Int × List (AV o)) : R o :=
  bif decide (a.2.1 < ((a.1 : Nat) : Int)) then
    gd (decide (0 ≤ a.2.1) && decide (a.2.1 < ((a.1 : Nat) : Int))) (
    rdS a.2.2 ((0 + (((a.2.1).toNat) * 3)) + 0) fun x1 =>
    bif m86_0 o x1 then
      gd (decide (0 ≤ a.2.1) && decide (a.2.1 < ((a.1 : Nat) : Int))) (
      gd (m67_ok o ((0 + (((a.2.1).toNat) * 3)) + 1) a.2.2) (
      bif m67_0 o ((0 + (((a.2.1).toNat) * 3)) + 1) a.2.2 then
        bif decide (a.2.1 > (0 : Int)) then
          let v1 : Int := IntKind.wrap .i64 (a.2.1 - (1 : Int))
          gd (decide (0 ≤ v1) && decide (v1 < ((a.1 : Nat) : Int))) (
          rdS a.2.2 ((0 + (((v1).toNat) * 3)) + 0) fun x2 =>
          gd (decide (0 ≤ a.2.1) && decide (a.2.1 < ((a.1 : Nat) : Int))) (
          rdS a.2.2 ((0 + (((a.2.1).toNat) * 3)) + 0) fun x3 =>
          bif o.slt x2 x3 then
            s0 (a.1, IntKind.wrap .i64 (a.2.1 + (1 : Int)), a.2.2)
          else
            some (.bool false, [.live false true a.2.2])))
        else
          s0 (a.1, IntKind.wrap .i64 (a.2.1 + (1 : Int)), a.2.2)
      else
        some (.bool false, [.live false true a.2.2])))
    else
      some (.bool false, [.live false true a.2.2]))
  else
    some (.bool (m60_0 o ((a.1 : Nat) : Int) (2 : Int) (32 : Int)), [.live false true a.2.2])
noncomputable def f58_D0 (o : FO) (vs : List (AV o)) (h : Heap o) : Option (Nat × Int × List (AV o)) :=
  match vs, h with
  | [.slice 0 0 a0_0 3, .int .i64 a0_1], [.live false true a0_2] => some (a0_0, a0_1, a0_2)
  | _, _ => none
noncomputable def f58_E0 (o : FO) (a : Nat × Int × List (AV o)) : List (AV o) × Heap o := ([.slice 0 0 a.1 3, .int .i64 a.2.1], [.live false true a.2.2])
theorem f58_DE0 (o : FO) : ∀ vs h a, f58_D0 o vs h = some a → f58_E0 o a = (vs, h) := by
  intro vs h a hx
  unfold f58_D0 at hx
  split at hx
  · cases hx; rfl
  · cases hx
noncomputable def f58 (o : FO) (N : Nat) (p0 : Nat) (p1 : List (AV o)) : R o :=
  iter (f58_L0 o N) N (p0, (0 : Int), p1)
noncomputable def c58 (o : FO) (N : Nat) : Cx o :=
  { ty := tab [(25, ty25 o), (30, ty30 o), (43, ty43 o), (66, ty66 o)]
    fn := tab [(60, .pure (e60 o)), (67, .ro (e67 o)), (86, .pure (e86 o))]
    rounds := N, nt := 47, base := 1
    loops := [loopD [0, 3] (f58_D0 o) (f58_E0 o)] }
noncomputable def b58 : Code := match Try.f58.body with | some b => b | none => .skip
theorem is58 (N : Nat) : FnIs Try.prog (c58 ieee N) 58 Try.f58 b58 := ⟨by kernel_rfl, by kernel_rfl, by kernel_rfl, by kernel_rfl⟩
theorem eq58 (o : FO) (N : Nat) (p0 : Nat) (p1 : List (AV o)) : afun (c58 o N) Try.f58.results.toList b58 [.slice 0 0 p0 3] [.live false true p1] = f58 o N p0 p1 := by kernel_rfl
theorem cok58 (N : Nat) (hN : 4096 ≤ N) : CtxOk Try.prog (c58 ieee N) := by
  refine ctxOk ?_ ?_ mixed ?_
  · intro p hp
    simp only [List.mem_cons, List.not_mem_nil, or_false] at hp
    rcases hp with rfl | rfl | rfl | rfl
    · exact tyOk25
    · exact tyOk30
    · exact tyOk43
    · exact tyOk66
  · intro p hp
    simp only [List.mem_cons, List.not_mem_nil, or_false] at hp
    rcases hp with rfl | rfl | rfl
    · exact ok60 N hN
    · exact ok67 N hN
    · exact ok86 N hN
  · intro p hp
    simp only [List.mem_cons, List.not_mem_nil, or_false] at hp
    subst hp; exact loopD_ok _ _ _ (f58_DE0 ieee)
noncomputable def m58_h (o : FO) (p0 : Nat) (p1 : List (AV o)) : Heap o := match f58 o 2000000 p0 p1 with | some (_, h) => h | _ => []
noncomputable def k58 (o : FO) : R o → Bool := fun r => match r with | some (.bool _, _) => true | _ => false
theorem k58_c (o : FO) (b : Bool) (x y : R o) : k58 o (bif b then x else y) = bif b then k58 o x else k58 o y := by cases b <;> rfl
noncomputable def m58_ok (o : FO) (p0 : Nat) (p1 : List (AV o)) : Bool := k58 o (f58 o 2000000 p0 p1)
noncomputable def g58_0 (o : FO) : R o → Bool := fun r => match r with | some (.bool r0, _) => r0 | _ => false
theorem g58_0c (o : FO) (b : Bool) (x y : R o) : g58_0 o (bif b then x else y) = bif b then g58_0 o x else g58_0 o y := by cases b <;> rfl
noncomputable def m58_0 (o : FO) (p0 : Nat) (p1 : List (AV o)) : Bool := g58_0 o (f58 o 2000000 p0 p1)
theorem val58 (o : FO) (p0 : Nat) (p1 : List (AV o)) (h : m58_ok o p0 p1 = true) : f58 o 2000000 p0 p1 = some (.bool (m58_0 o p0 p1), m58_h o p0 p1) := by
  unfold m58_ok k58 at h
  unfold m58_0 g58_0 m58_h
  generalize f58 o 2000000 p0 p1 = r at h ⊢
  split at h
  · rfl
  · cases h

noncomputable def e58 (o : FO) : List (AV o) → Heap o → Tr (AV o)
  | [.slice 0 0 p0 3], [.live _ true p1] => .br (m58_ok o p0 p1) (.leaf (.bool (m58_0 o p0 p1))) .fail
  | _, _ => .fail
theorem ok58 (N : Nat) (hN : 4096 ≤ N) : CalOk Try.prog 58 (.ro (e58 ieee)) := by
  refine calOk_ro (cok58 2000000 (by decide)) (is58 2000000) ?_
  intro args h av hg
  unfold e58 at hg
  split at hg
  · obtain ⟨h0, hg⟩ := br_get hg
    cases hg
    exact ⟨rfl, _, (eq58 ieee 2000000 _ _).trans (val58 ieee _ _ h0)⟩
  · cases hg

/-! loop.example/g01224/spec.l04Unsteady -/
noncomputable def f61_L0 (o : FO) (N : Nat) (s0 : Nat × Int × List (AV o) → R o) (a : Nat × Int × List (AV o)) : R o :=
  let v1 : Int := IntKind.wrap .i64 (a.2.1 + (1 : Int))
  bif decide (v1 < ((a.1 : Nat) : Int)) then
    gd (decide (0 ≤ a.2.1) && decide (a.2.1 < ((a.1 : Nat) : Int))) (
    rdS a.2.2 (((0 + (((a.2.1).toNat) * 3)) + 1) + 0) fun x1 =>
    gd (decide (0 ≤ v1) && decide (v1 < ((a.1 : Nat) : Int))) (
    rdS a.2.2 (((0 + (((v1).toNat) * 3)) + 1) + 0) fun x2 =>
    gd (decide (0 ≤ v1) && decide (v1 < ((a.1 : Nat) : Int))) (
    rdS a.2.2 ((0 + (((v1).toNat) * 3)) + 0) fun x3 =>
    gd (decide (0 ≤ a.2.1) && decide (a.2.1 < ((a.1 : Nat) : Int))) (
    rdS a.2.2 ((0 + (((a.2.1).toNat) * 3)) + 0) fun x4 =>
    bif o.slt (o.smul (o.slit 1092616192) (o.ssub x3 x4)) (o.ssub x1 x2) then
      some (.int .i64 a.2.1, [.live false true a.2.2])
    else
      s0 (a.1, v1, a.2.2)))))
  else
    some (.int .i64 (-1 : Int), [.live false true a.2.2])
noncomputable def f61_D0 (o : FO) (vs : List (AV o)) (h : Heap o) : Option (Nat × Int × List (AV o)) :=
  match vs, h with
  | [.slice 0 0 a0_0 3, .int .i64 a0_1], [.live false true a0_2] => some (a0_0, a0_1, a0_2)
  | _, _ => none
noncomputable def f61_E0 (o : FO) (a : Nat × Int × List (AV o)) : List (AV o) × Heap o := ([.slice 0 0 a.1 3, .int .i64 a.2.1], [.live false true a.2.2])
theorem f61_DE0 (o : FO) : ∀ vs h a, f61_D0 o vs h = some a → f61_E0 o a = (vs, h) := by
  intro vs h a hx
  unfold f61_D0 at hx
  split at hx
  · cases hx; rfl
  · cases hx
noncomputable def f61 (o : FO) (N : Nat) (p0 : Nat) (p1 : List (AV o)) : R o :=
  iter (f61_L0 o N) N (p0, (0 : Int), p1)
noncomputable def c61 (o : FO) (N : Nat) : Cx o :=
  { ty := tab [(25, ty25 o), (30, ty30 o), (43, ty43 o), (66, ty66 o)]
    fn := tab []
    rounds := N, nt := 40, base := 1
    loops := [loopD [0, 3] (f61_D0 o) (f61_E0 o)] }
noncomputable def b61 : Code := match Try.f61.body with | some b => b | none => .skip
theorem is61 (N : Nat) : FnIs Try.prog (c61 ieee N) 61 Try.f61 b61 := ⟨by kernel_rfl, by kernel_rfl, by kernel_rfl, by kernel_rfl⟩
theorem eq61 (o : FO) (N : Nat) (p0 : Nat) (p1 : List (AV o)) : afun (c61 o N) Try.f61.results.toList b61 [.slice 0 0 p0 3] [.live false true p1] = f61 o N p0 p1 := by kernel_rfl
theorem cok61 (N : Nat) (hN : 4096 ≤ N) : CtxOk Try.prog (c61 ieee N) := by
  refine ctxOk ?_ ?_ mixed ?_
  · intro p hp
    simp only [List.mem_cons, List.not_mem_nil, or_false] at hp
    rcases hp with rfl | rfl | rfl | rfl
    · exact tyOk25
    · exact tyOk30
    · exact tyOk43
    · exact tyOk66
  · intro p hp; cases hp
  · intro p hp
    simp only [List.mem_cons, List.not_mem_nil, or_false] at hp
    subst hp; exact loopD_ok _ _ _ (f61_DE0 ieee)
noncomputable def m61_h (o : FO) (p0 : Nat) (p1 : List (AV o)) : Heap o := match f61 o 2000000 p0 p1 with | some (_, h) => h | _ => []
noncomputable def k61 (o : FO) : R o → Bool := fun r => match r with | some (.int .i64 _, _) => true | _ => false
theorem k61_c (o : FO) (b : Bool) (x y : R o) : k61 o (bif b then x else y) = bif b then k61 o x else k61 o y := by cases b <;> rfl
noncomputable def m61_ok (o : FO) (p0 : Nat) (p1 : List (AV o)) : Bool := k61 o (f61 o 2000000 p0 p1)
noncomputable def g61_0 (o : FO) : R o → Int := fun r => match r with | some (.int .i64 r0, _) => r0 | _ => 0
theorem g61_0c (o : FO) (b : Bool) (x y : R o) : g61_0 o (bif b then x else y) = bif b then g61_0 o x else g61_0 o y := by cases b <;> rfl
noncomputable def m61_0 (o : FO) (p0 : Nat) (p1 : List (AV o)) : Int := g61_0 o (f61 o 2000000 p0 p1)
theorem val61 (o : FO) (p0 : Nat) (p1 : List (AV o)) (h : m61_ok o p0 p1 = true) : f61 o 2000000 p0 p1 = some (.int .i64 (m61_0 o p0 p1), m61_h o p0 p1) := by
  unfold m61_ok k61 at h
  unfold m61_0 g61_0 m61_h
  generalize f61 o 2000000 p0 p1 = r at h ⊢
  split at h
  · rfl
  · cases h

noncomputable def e61 (o : FO) : List (AV o) → Heap o → Tr (AV o)
  | [.slice 0 0 p0 3], [.live _ true p1] => .br (m61_ok o p0 p1) (.leaf (.int .i64 (m61_0 o p0 p1))) .fail
  | _, _ => .fail
theorem ok61 (N : Nat) (hN : 4096 ≤ N) : CalOk Try.prog 61 (.ro (e61 ieee)) := by
  refine calOk_ro (cok61 2000000 (by decide)) (is61 2000000) ?_
  intro args h av hg
  unfold e61 at hg
  split at hg
  · obtain ⟨h0, hg⟩ := br_get hg
    cases hg
    exact ⟨rfl, _, (eq61 ieee 2000000 _ _).trans (val61 ieee _ _ h0)⟩
  · cases hg

/-! loop.example/g01224/spec.SteadySounding -/
noncomputable def f41_L0 (o : FO) (N : Nat) (s0 : Nat × Int × Int × List (AV o) × List (AV o) → R o) (a : Nat × Int × Int × List (AV o) × List (AV o)) : R o :=
  bif decide (a.2.2.1 ≥ (0 : Int)) then
    bif a.2.1 == (200 : Int) then
      some (.tup [.slice 1 0 0 3, .int .i64 (0 : Int), .int .i64 (7 : Int)], [.live true true a.2.2.2.1, .live true true []])
    else
      gd (decide (0 ≤ a.2.2.1) && decide (a.2.2.1 < ((a.1 : Nat) : Int))) (
      let v1 : Int := IntKind.wrap .i64 (a.2.2.1 + (1 : Int))
      gd (decide (0 ≤ v1) && decide (v1 < ((a.1 : Nat) : Int))) (
      rdS a.2.2.2.2 ((0 + (((v1).toNat) * 3)) + 0) fun x1 =>
      rdS a.2.2.2.2 ((0 + (((a.2.2.1).toNat) * 3)) + 0) fun x2 =>
      rdS a.2.2.2.2 (((0 + (((a.2.2.1).toNat) * 3)) + 1) + 0) fun x3 =>
      rdS a.2.2.2.2 (((0 + (((v1).toNat) * 3)) + 1) + 0) fun x4 =>
      let v2 : o.S := o.smul (o.slit 1056964608) (o.sadd x3 x4)
      rdS a.2.2.2.2 (((0 + (((a.2.2.1).toNat) * 3)) + 1) + 1) fun x5 =>
      rdS a.2.2.2.2 (((0 + (((v1).toNat) * 3)) + 1) + 1) fun x6 =>
      let v3 : o.S := o.smul (o.slit 1056964608) (o.sadd x5 x6)
      let v4 : o.S := o.smul (o.slit 1084227584) (o.ssub x1 x2)
      wrA a.2.2.2.2 ((0 + (((a.2.2.1).toNat) * 3)) + 1) 2 [.f32 (o.sadd v2 v4), .f32 v3] fun c7 =>
      wrA c7 ((0 + (((v1).toNat) * 3)) + 1) 2 [.f32 (o.ssub v2 v4), .f32 v3] fun c8 =>
      gd (m67_ok o ((0 + (((a.2.2.1).toNat) * 3)) + 1) c8) (
      bif m67_0 o ((0 + (((a.2.2.1).toNat) * 3)) + 1) c8 then
        gd (m67_ok o ((0 + (((v1).toNat) * 3)) + 1) c8) (
        bif m67_0 o ((0 + (((v1).toNat) * 3)) + 1) c8 then
          gd (m61_ok o a.1 c8) (
          s0 (a.1, IntKind.wrap .i64 (a.2.1 + (1 : Int)), m61_0 o a.1 c8, a.2.2.2.1, c8))
        else
          some (.tup [.slice 1 0 0 3, .int .i64 (0 : Int), .int .i64 (4 : Int)], [.live true true a.2.2.2.1, .live true true []]))
      else
        some (.tup [.slice 1 0 0 3, .int .i64 (0 : Int), .int .i64 (4 : Int)], [.live true true a.2.2.2.1, .live true true []]))))
  else
    some (.tup [.slice 1 0 a.1 3, .int .i64 a.2.1, .int .i64 (0 : Int)], [.live true true a.2.2.2.1, .live true true a.2.2.2.2])
noncomputable def f41_D0 (o : FO) (vs : List (AV o)) (h : Heap o) : Option (Nat × Int × Int × List (AV o) × List (AV o)) :=
  match vs, h with
  | [.slice 1 0 a0_0 3, .int .i64 a0_1, .int .i64 a0_2], [.live true true a0_3, .live true true a0_4] => some (a0_0, a0_1, a0_2, a0_3, a0_4)
  | _, _ => none
noncomputable def f41_E0 (o : FO) (a : Nat × Int × Int × List (AV o) × List (AV o)) : List (AV o) × Heap o := ([.slice 1 0 a.1 3, .int .i64 a.2.1, .int .i64 a.2.2.1], [.live true true a.2.2.2.1, .live true true a.2.2.2.2])
theorem f41_DE0 (o : FO) : ∀ vs h a, f41_D0 o vs h = some a → f41_E0 o a = (vs, h) := by
  intro vs h a hx
  unfold f41_D0 at hx
  split at hx
  · cases hx; rfl
  · cases hx
noncomputable def f41 (o : FO) (N : Nat) (p0 : Nat) (p1 : List (AV o)) : R o :=
  gd (m58_ok o p0 p1) (
  bif !(m58_0 o p0 p1) then
    some (.tup [.slice 1 0 0 3, .int .i64 (0 : Int), .int .i64 (1 : Int)], [.live true true p1, .live true true []])
  else
    gd (Nat.ble (0 + (p0 * 3)) ((p1).length)) (
    gd (Nat.ble (0 + p0) 9223372036854775807 && Nat.ble ((0 + p0) * 12) 140737488355328) (
    gd (m61_ok o (0 + p0) ([] ++ ((p1.drop 0).take (p0 * 3)))) (
    iter (f41_L0 o N) N (0 + p0, (0 : Int), m61_0 o (0 + p0) ([] ++ ((p1.drop 0).take (p0 * 3))), p1, [] ++ ((p1.drop 0).take (p0 * 3)))))))
noncomputable def c41 (o : FO) (N : Nat) : Cx o :=
  { ty := tab [(25, ty25 o), (30, ty30 o), (43, ty43 o), (66, ty66 o)]
    fn := tab [(58, .ro (e58 o)), (61, .ro (e61 o)), (67, .ro (e67 o))]
    rounds := N, nt := 104, base := 1
    loops := [loopD [5, 6, 7] (f41_D0 o) (f41_E0 o)] }
noncomputable def b41 : Code := match Try.f41.body with | some b => b | none => .skip
theorem is41 (N : Nat) : FnIs Try.prog (c41 ieee N) 41 Try.f41 b41 := ⟨by kernel_rfl, by kernel_rfl, by kernel_rfl, by kernel_rfl⟩
theorem eq41 (o : FO) (N : Nat) (p0 : Nat) (p1 : List (AV o)) : afun (c41 o N) Try.f41.results.toList b41 [.slice 0 0 p0 3] [.live true true p1] = f41 o N p0 p1 := by kernel_rfl
theorem cok41 (N : Nat) (hN : 4096 ≤ N) : CtxOk Try.prog (c41 ieee N) := by
  refine ctxOk ?_ ?_ mixed ?_
  · intro p hp
    simp only [List.mem_cons, List.not_mem_nil, or_false] at hp
    rcases hp with rfl | rfl | rfl | rfl
    · exact tyOk25
    · exact tyOk30
    · exact tyOk43
    · exact tyOk66
  · intro p hp
    simp only [List.mem_cons, List.not_mem_nil, or_false] at hp
    rcases hp with rfl | rfl | rfl
    · exact ok58 N hN
    · exact ok61 N hN
    · exact ok67 N hN
  · intro p hp
    simp only [List.mem_cons, List.not_mem_nil, or_false] at hp
    subst hp; exact loopD_ok _ _ _ (f41_DE0 ieee)
noncomputable def k41 (o : FO) : R o → Bool := fun r => match r with | some (.tup [.slice 1 0 _ 3, .int .i64 _, .int .i64 _], [.live true true _, .live true true _]) => true | _ => false
theorem k41_c (o : FO) (b : Bool) (x y : R o) : k41 o (bif b then x else y) = bif b then k41 o x else k41 o y := by cases b <;> rfl
noncomputable def m41_ok (o : FO) (p0 : Nat) (p1 : List (AV o)) : Bool := k41 o (f41 o 2000000 p0 p1)
noncomputable def g41_0 (o : FO) : R o → Nat := fun r => match r with | some (.tup [.slice 1 0 r0 3, .int .i64 _, .int .i64 _], [.live true true _, .live true true _]) => r0 | _ => 0
theorem g41_0c (o : FO) (b : Bool) (x y : R o) : g41_0 o (bif b then x else y) = bif b then g41_0 o x else g41_0 o y := by cases b <;> rfl
noncomputable def m41_0 (o : FO) (p0 : Nat) (p1 : List (AV o)) : Nat := g41_0 o (f41 o 2000000 p0 p1)
noncomputable def g41_1 (o : FO) : R o → Int := fun r => match r with | some (.tup [.slice 1 0 _ 3, .int .i64 r1, .int .i64 _], [.live true true _, .live true true _]) => r1 | _ => 0
theorem g41_1c (o : FO) (b : Bool) (x y : R o) : g41_1 o (bif b then x else y) = bif b then g41_1 o x else g41_1 o y := by cases b <;> rfl
noncomputable def m41_1 (o : FO) (p0 : Nat) (p1 : List (AV o)) : Int := g41_1 o (f41 o 2000000 p0 p1)
noncomputable def g41_2 (o : FO) : R o → Int := fun r => match r with | some (.tup [.slice 1 0 _ 3, .int .i64 _, .int .i64 r2], [.live true true _, .live true true _]) => r2 | _ => 0
theorem g41_2c (o : FO) (b : Bool) (x y : R o) : g41_2 o (bif b then x else y) = bif b then g41_2 o x else g41_2 o y := by cases b <;> rfl
noncomputable def m41_2 (o : FO) (p0 : Nat) (p1 : List (AV o)) : Int := g41_2 o (f41 o 2000000 p0 p1)
noncomputable def g41_3 (o : FO) : R o → List (AV o) := fun r => match r with | some (.tup [.slice 1 0 _ 3, .int .i64 _, .int .i64 _], [.live true true r3, .live true true _]) => r3 | _ => []
theorem g41_3c (o : FO) (b : Bool) (x y : R o) : g41_3 o (bif b then x else y) = bif b then g41_3 o x else g41_3 o y := by cases b <;> rfl
noncomputable def m41_3 (o : FO) (p0 : Nat) (p1 : List (AV o)) : List (AV o) := g41_3 o (f41 o 2000000 p0 p1)
noncomputable def g41_4 (o : FO) : R o → List (AV o) := fun r => match r with | some (.tup [.slice 1 0 _ 3, .int .i64 _, .int .i64 _], [.live true true _, .live true true r4]) => r4 | _ => []
theorem g41_4c (o : FO) (b : Bool) (x y : R o) : g41_4 o (bif b then x else y) = bif b then g41_4 o x else g41_4 o y := by cases b <;> rfl
noncomputable def m41_4 (o : FO) (p0 : Nat) (p1 : List (AV o)) : List (AV o) := g41_4 o (f41 o 2000000 p0 p1)
theorem val41 (o : FO) (p0 : Nat) (p1 : List (AV o)) (h : m41_ok o p0 p1 = true) : f41 o 2000000 p0 p1 = some (.tup [.slice 1 0 (m41_0 o p0 p1) 3, .int .i64 (m41_1 o p0 p1), .int .i64 (m41_2 o p0 p1)], [.live true true (m41_3 o p0 p1), .live true true (m41_4 o p0 p1)]) := by
  unfold m41_ok k41 at h
  unfold m41_0 g41_0 m41_1 g41_1 m41_2 g41_2 m41_3 g41_3 m41_4 g41_4
  generalize f41 o 2000000 p0 p1 = r at h ⊢
  split at h
  · rfl
  · cases h

noncomputable def e41 (o : FO) : List (AV o) → Heap o → Tr (AV o × Heap o)
  | [.slice 0 0 p0 3], [.live true true p1] => .br (m41_ok o p0 p1) (.leaf ((.tup [.slice 1 0 (m41_0 o p0 p1) 3, .int .i64 (m41_1 o p0 p1), .int .i64 (m41_2 o p0 p1)], [.live true true (m41_3 o p0 p1), .live true true (m41_4 o p0 p1)]))) .fail
  | _, _ => .fail
theorem ok41 (N : Nat) (hN : 4096 ≤ N) : CalOk Try.prog 41 (.rw (e41 ieee)) := by
  refine calOk_rw (cok41 2000000 (by decide)) (is41 2000000) ?_
  intro args h av h2 hg
  unfold e41 at hg
  split at hg
  · obtain ⟨h0, hg⟩ := br_get hg
    cases hg
    exact (eq41 ieee 2000000 _ _).trans (val41 ieee _ _ h0)
  · cases hg

/-! loop.example/g01224/impl.isFinite -/
noncomputable def f64_L0 (o : FO) (N : Nat) (s0 : Nat × Nat × Int × Int × List (AV o) → R o) (a : Nat × Nat × Int × Int × List (AV o)) : R o :=
  bif decide (a.2.2.2.1 < a.2.2.1) then
    gd (decide (0 ≤ a.2.2.2.1) && decide (a.2.2.2.1 < ((a.2.1 : Nat) : Int))) (
    rdS a.2.2.2.2 (a.1 + (((a.2.2.2.1).toNat) * 1)) fun x1 =>
    bif !(o.seq (o.ssub x1 x1) (o.slit 0)) then
      some (.bool false, [.live false true a.2.2.2.2])
    else
      s0 (a.1, a.2.1, a.2.2.1, IntKind.wrap .i64 (a.2.2.2.1 + (1 : Int)), a.2.2.2.2))
  else
    some (.bool true, [.live false true a.2.2.2.2])
noncomputable def f64_D0 (o : FO) (vs : List (AV o)) (h : Heap o) : Option (Nat × Nat × Int × Int × List (AV o)) :=
  match vs, h with
  | [.slice 0 a0_0 a0_1 1, .int .i64 a0_2, .int .i64 a0_3], [.live false true a0_4] => some (a0_0, a0_1, a0_2, a0_3, a0_4)
  | _, _ => none
noncomputable def f64_E0 (o : FO) (a : Nat × Nat × Int × Int × List (AV o)) : List (AV o) × Heap o := ([.slice 0 a.1 a.2.1 1, .int .i64 a.2.2.1, .int .i64 a.2.2.2.1], [.live false true a.2.2.2.2])
theorem f64_DE0 (o : FO) : ∀ vs h a, f64_D0 o vs h = some a → f64_E0 o a = (vs, h) := by
  intro vs h a hx
  unfold f64_D0 at hx
  split at hx
  · cases hx; rfl
  · cases hx
noncomputable def f64 (o : FO) (N : Nat) (p0 : Nat) (p1 : Nat) (p2 : List (AV o)) : R o :=
  iter (f64_L0 o N) N (p0, p1, ((p1 : Nat) : Int), (0 : Int), p2)
noncomputable def c64 (o : FO) (N : Nat) : Cx o :=
  { ty := tab [(30, ty30 o), (101, ty101 o)]
    fn := tab []
    rounds := N, nt := 16, base := 1
    loops := [loopD [5, 6, 7] (f64_D0 o) (f64_E0 o)] }
noncomputable def b64 : Code := match Try.f64.body with | some b => b | none => .skip
theorem is64 (N : Nat) : FnIs Try.prog (c64 ieee N) 64 Try.f64 b64 := ⟨by kernel_rfl, by kernel_rfl, by kernel_rfl, by kernel_rfl⟩
theorem eq64 (o : FO) (N : Nat) (p0 : Nat) (p1 : Nat) (p2 : List (AV o)) : afun (c64 o N) Try.f64.results.toList b64 [.slice 0 p0 p1 1] [.live false true p2] = f64 o N p0 p1 p2 := by kernel_rfl
theorem cok64 (N : Nat) (hN : 4096 ≤ N) : CtxOk Try.prog (c64 ieee N) := by
  refine ctxOk ?_ ?_ mixed ?_
  · intro p hp
    simp only [List.mem_cons, List.not_mem_nil, or_false] at hp
    rcases hp with rfl | rfl
    · exact tyOk30
    · exact tyOk101
  · intro p hp; cases hp
  · intro p hp
    simp only [List.mem_cons, List.not_mem_nil, or_false] at hp
    subst hp; exact loopD_ok _ _ _ (f64_DE0 ieee)


theorem step64 (o : FO) (off n i : Nat) (cs : List (AV o)) (h : segF cs off n = true) (hi : i ≤ n) (s0 : Nat × Nat × Int × Int × List (AV o) → R o) :
    (∃ x, ((cs.drop off).take n)[i]? = some (.f32 x) ∧ f64_L0 o 2000000 s0 (off, n, ((n : Nat) : Int), (i : Int), cs) = bif finS o x then s0 (off, n, ((n : Nat) : Int), ((i + 1 : Nat) : Int), cs) else some (.bool false, [.live false true cs])) ∨
    (i = n ∧ f64_L0 o 2000000 s0 (off, n, ((n : Nat) : Int), (i : Int), cs) = some (.bool true, [.live false true cs])) := by
  have hn : n ≤ 4000 := by
    unfold segF at h
    simp only [Bool.and_eq_true] at h
    exact Nat.le_of_ble_eq_true h.1
  unfold f64_L0
  dsimp only
  by_cases hlt : i < n
  · obtain ⟨x, hx1, hx2⟩ := segF_get h hlt
    refine .inl ⟨x, hx2, ?_⟩
    have e1 : decide ((i : Int) < (n : Int)) = true := by simp [hlt]
    have e2 : decide (0 ≤ (i : Int)) = true := by simp
    rw [e1, e2, cond_true, Bool.and_true, gd_true, rdS_of (x := x) (by simpa using hx1), wrap64 (by omega) (by omega)]
    show _ = bif o.seq (o.ssub x x) (o.slit 0) then _ else _
    cases o.seq (o.ssub x x) (o.slit 0) <;> rfl
  · have e1 : decide ((i : Int) < (n : Int)) = false := by simp [hlt]
    refine .inr ⟨by omega, ?_⟩
    rw [e1, cond_false]
theorem loop64 (o : FO) (off n : Nat) (cs : List (AV o)) (h : segF cs off n = true) : ∀ (M i : Nat), i ≤ n → n - i < M →
    iter (f64_L0 o 2000000) M (off, n, ((n : Nat) : Int), (i : Int), cs) = some (.bool ((((cs.drop off).take n).drop i).all finC), [.live false true cs]) := by
  intro M
  induction M with
  | zero => intro i _ h2; omega
  | succ M ih =>
    intro i h1 h2
    rw [iter_succ]
    rcases step64 o off n i cs h h1 (iter (f64_L0 o 2000000) M) with ⟨x, hx, e⟩ | ⟨hi, e⟩
    · obtain ⟨hlt, he⟩ := List.getElem?_eq_some_iff.1 hx
      have hin : i < n := by have := hlt; simp only [List.length_take] at this; omega
      rw [e, ih (i + 1) (by omega) (by omega), List.drop_eq_getElem_cons hlt, he, List.all_cons]
      show _ = some ((AV.bool (finS o x && _) : AV o), _)
      cases finS o x <;> rfl
    · subst hi
      have hnil : ((cs.drop off).take i).drop i = [] := List.drop_eq_nil_of_le (by simp; omega)
      rw [e, hnil]
      rfl
theorem val64 (o : FO) (p0 p1 : Nat) (p2 : List (AV o)) (h : segF p2 p0 p1 = true) : f64 o 2000000 p0 p1 p2 = some (.bool (finSeg p2 p0 p1), [.live false true p2]) := by
  have hn : p1 ≤ 4000 := by
    unfold segF at h
    simp only [Bool.and_eq_true] at h
    exact Nat.le_of_ble_eq_true h.1
  have := loop64 o p0 p1 p2 h 2000000 0 (by omega) (by omega)
  rw [List.drop_zero] at this
  exact this

noncomputable def e64 (o : FO) : List (AV o) → Heap o → Tr (AV o)
  | [.slice 0 p0 p1 1], [.live _ true p2] => .br (segF p2 p0 p1) (.leaf (.bool (finSeg p2 p0 p1))) .fail
  | _, _ => .fail
theorem ok64 (N : Nat) (hN : 4096 ≤ N) : CalOk Try.prog 64 (.ro (e64 ieee)) := by
  refine calOk_ro (cok64 2000000 (by decide)) (is64 2000000) ?_
  intro args h av hg
  unfold e64 at hg
  split at hg
  · obtain ⟨h0, hg⟩ := br_get hg
    cases hg
    exact ⟨rfl, _, (eq64 ieee 2000000 _ _ _).trans (val64 ieee _ _ _ h0)⟩
  · cases hg

/-! loop.example/g01224/impl.isAmount -/
noncomputable def f94 (o : FO) (p0 : o.S) : R o :=
  gd (segF [.f32 p0] 0 1) (
  bif finSeg [.f32 p0] 0 1 then
    bif o.sle (o.slit 0) p0 then
      gd (o.seq p0 p0) (
      bif (o.sbits p0) != (2147483648 : Int) then
        some (.bool true, [])
      else
        some (.bool false, []))
    else
      some (.bool false, [])
  else
    some (.bool false, []))
noncomputable def c94 (o : FO) (N : Nat) : Cx o :=
  { ty := tab [(30, ty30 o), (101, ty101 o)]
    fn := tab [(64, .ro (e64 o)), (83, .pure (e83 o))]
    rounds := 4096, nt := 15, base := 0
    loops := [] }
noncomputable def b94 : Code := match Try.f94.body with | some b => b | none => .skip
theorem is94 (N : Nat) : FnIs Try.prog (c94 ieee N) 94 Try.f94 b94 := ⟨by kernel_rfl, by kernel_rfl, by kernel_rfl, by kernel_rfl⟩
theorem eq94 (o : FO) (N : Nat) (p0 : o.S) : afun (c94 o N) Try.f94.results.toList b94 [.f32 p0] [] = f94 o p0 := by kernel_rfl
theorem cok94 (N : Nat) (hN : 4096 ≤ N) : CtxOk Try.prog (c94 ieee N) := by
  refine ctxOk ?_ ?_ mixed ?_
  · intro p hp
    simp only [List.mem_cons, List.not_mem_nil, or_false] at hp
    rcases hp with rfl | rfl
    · exact tyOk30
    · exact tyOk101
  · intro p hp
    simp only [List.mem_cons, List.not_mem_nil, or_false] at hp
    rcases hp with rfl | rfl
    · exact ok64 N hN
    · exact ok83 N hN
  · intro p hp; cases hp


theorem val94 (p0 : ieee.S) : f94 ieee p0 = some (.bool (amtS ieee p0), []) := by
  have e : f94 ieee p0 = (bif (finS ieee p0 && true) then (bif ieee.sle (ieee.slit 0) p0 then gd (ieee.seq p0 p0) (bif ieee.sbits p0 != 2147483648 then some (.bool true, []) else some (.bool false, [])) else some (.bool false, [])) else some (.bool false, [])) := rfl
  rw [e, Bool.and_true, amtS_alt]
  have h := seq_of_fin p0
  revert h
  cases finS ieee p0
  · intro _; rfl
  · intro h
    rw [h rfl]
    cases ieee.sle (ieee.slit 0) p0
    · rfl
    · cases (ieee.sbits p0 != 2147483648) <;> rfl

noncomputable def e94 (o : FO) : List (AV o) → Tr (AV o)
  | [.f32 p0] => .leaf (.bool (amtS o p0))
  | _ => .fail
theorem ok94 (N : Nat) (hN : 4096 ≤ N) : CalOk Try.prog 94 (.pure (e94 ieee)) := by
  refine calOk_pure (cok94 2000000 (by decide)) (is94 2000000) ?_
  intro args av hg
  unfold e94 at hg
  split at hg
  · cases hg
    exact ⟨rfl, rfl, _, (eq94 ieee 2000000 _).trans (val94 _)⟩
  · cases hg

/-! loop.example/g01224/impl.isHeight -/
noncomputable def f82 (o : FO) (p0 : o.S) : R o :=
  bif amtS o p0 then
    bif o.sle p0 (o.slit 1106247680) then
      some (.bool true, [])
    else
      some (.bool false, [])
  else
    some (.bool false, [])
noncomputable def c82 (o : FO) (N : Nat) : Cx o :=
  { ty := tab []
    fn := tab [(94, .pure (e94 o))]
    rounds := 4096, nt := 9, base := 0
    loops := [] }
noncomputable def b82 : Code := match Try.f82.body with | some b => b | none => .skip
theorem is82 (N : Nat) : FnIs Try.prog (c82 ieee N) 82 Try.f82 b82 := ⟨by kernel_rfl, by kernel_rfl, by kernel_rfl, by kernel_rfl⟩
theorem eq82 (o : FO) (N : Nat) (p0 : o.S) : afun (c82 o N) Try.f82.results.toList b82 [.f32 p0] [] = f82 o p0 := by kernel_rfl
theorem cok82 (N : Nat) (hN : 4096 ≤ N) : CtxOk Try.prog (c82 ieee N) := by
  refine ctxOk ?_ ?_ mixed ?_
  · intro p hp; cases hp
  · intro p hp
    simp only [List.mem_cons, List.not_mem_nil, or_false] at hp
    subst hp; exact ok94 N hN
  · intro p hp; cases hp
noncomputable def m82_0 (o : FO) (p0 : o.S) : Bool :=
  bif amtS o p0 then
    o.sle p0 (o.slit 1106247680)
  else
    false
theorem val82 (o : FO) (p0 : o.S) : f82 o p0 = some (.bool (m82_0 o p0), []) := by
  unfold f82 m82_0
  try dsimp only
  cases (amtS o p0)
  · rfl
  · cases (o.sle p0 (o.slit 1106247680))
    · rfl
    · rfl

noncomputable def e82 (o : FO) : List (AV o) → Tr (AV o)
  | [.f32 p0] => .leaf (.bool (m82_0 o p0))
  | _ => .fail
theorem ok82 (N : Nat) (hN : 4096 ≤ N) : CalOk Try.prog 82 (.pure (e82 ieee)) := by
  refine calOk_pure (cok82 2000000 (by decide)) (is82 2000000) ?_
  intro args av hg
  unfold e82 at hg
  split at hg
  · cases hg
    exact ⟨rfl, rfl, _, (eq82 ieee 2000000 _).trans (val82 ieee _)⟩
  · cases hg

/-! loop.example/g01224/impl.isHeat -/
noncomputable def f93 (o : FO) (p0 : o.S) : R o :=
  bif o.sle (o.slit 3262119936) p0 then
    bif o.sle p0 (o.slit 1114636288) then
      some (.bool true, [])
    else
      some (.bool false, [])
  else
    some (.bool false, [])
noncomputable def c93 (o : FO) (N : Nat) : Cx o :=
  { ty := tab []
    fn := tab []
    rounds := 4096, nt := 9, base := 0
    loops := [] }
noncomputable def b93 : Code := match Try.f93.body with | some b => b | none => .skip
theorem is93 (N : Nat) : FnIs Try.prog (c93 ieee N) 93 Try.f93 b93 := ⟨by kernel_rfl, by kernel_rfl, by kernel_rfl, by kernel_rfl⟩
theorem eq93 (o : FO) (N : Nat) (p0 : o.S) : afun (c93 o N) Try.f93.results.toList b93 [.f32 p0] [] = f93 o p0 := by kernel_rfl
theorem cok93 (N : Nat) (hN : 4096 ≤ N) : CtxOk Try.prog (c93 ieee N) := by
  refine ctxOk ?_ ?_ mixed ?_
  · intro p hp; cases hp
  · intro p hp; cases hp
  · intro p hp; cases hp
noncomputable def m93_0 (o : FO) (p0 : o.S) : Bool :=
  bif o.sle (o.slit 3262119936) p0 then
    o.sle p0 (o.slit 1114636288)
  else
    false
theorem val93 (o : FO) (p0 : o.S) : f93 o p0 = some (.bool (m93_0 o p0), []) := by
  unfold f93 m93_0
  try dsimp only
  cases (o.sle (o.slit 3262119936) p0)
  · rfl
  · cases (o.sle p0 (o.slit 1114636288))
    · rfl
    · rfl

noncomputable def e93 (o : FO) : List (AV o) → Tr (AV o)
  | [.f32 p0] => .leaf (.bool (m93_0 o p0))
  | _ => .fail
theorem ok93 (N : Nat) (hN : 4096 ≤ N) : CalOk Try.prog 93 (.pure (e93 ieee)) := by
  refine calOk_pure (cok93 2000000 (by decide)) (is93 2000000) ?_
  intro args av hg
  unfold e93 at hg
  split at hg
  · cases hg
    exact ⟨rfl, rfl, _, (eq93 ieee 2000000 _).trans (val93 ieee _)⟩
  · cases hg

/-! loop.example/g01224/impl.ValidAir -/
noncomputable def f69 (o : FO) (p0 : o.S) (p1 : o.S) : R o :=
  bif m93_0 o p0 then
    bif amtS o p1 then
      bif o.sle p1 (o.slit 1148846080) then
        some (.bool true, [])
      else
        some (.bool false, [])
    else
      some (.bool false, [])
  else
    some (.bool false, [])
noncomputable def c69 (o : FO) (N : Nat) : Cx o :=
  { ty := tab [(30, ty30 o), (43, ty43 o)]
    fn := tab [(93, .pure (e93 o)), (94, .pure (e94 o))]
    rounds := 4096, nt := 16, base := 0
    loops := [] }
noncomputable def b69 : Code := match Try.f69.body with | some b => b | none => .skip
theorem is69 (N : Nat) : FnIs Try.prog (c69 ieee N) 69 Try.f69 b69 := ⟨by kernel_rfl, by kernel_rfl, by kernel_rfl, by kernel_rfl⟩
theorem eq69 (o : FO) (N : Nat) (p0 : o.S) (p1 : o.S) : afun (c69 o N) Try.f69.results.toList b69 [.agg [.f32 p0, .f32 p1]] [] = f69 o p0 p1 := by kernel_rfl
theorem cok69 (N : Nat) (hN : 4096 ≤ N) : CtxOk Try.prog (c69 ieee N) := by
  refine ctxOk ?_ ?_ mixed ?_
  · intro p hp
    simp only [List.mem_cons, List.not_mem_nil, or_false] at hp
    rcases hp with rfl | rfl
    · exact tyOk30
    · exact tyOk43
  · intro p hp
    simp only [List.mem_cons, List.not_mem_nil, or_false] at hp
    rcases hp with rfl | rfl
    · exact ok93 N hN
    · exact ok94 N hN
  · intro p hp; cases hp
noncomputable def m69_0 (o : FO) (p0 : o.S) (p1 : o.S) : Bool :=
  bif m93_0 o p0 then
    bif amtS o p1 then
      o.sle p1 (o.slit 1148846080)
    else
      false
  else
    false
theorem val69 (o : FO) (p0 : o.S) (p1 : o.S) : f69 o p0 p1 = some (.bool (m69_0 o p0 p1), []) := by
  unfold f69 m69_0
  try dsimp only
  cases (m93_0 o p0)
  · rfl
  · cases (amtS o p1)
    · rfl
    · cases (o.sle p1 (o.slit 1148846080))
      · rfl
      · rfl

noncomputable def e69 (o : FO) : List (AV o) → Tr (AV o)
  | [.agg [.f32 p0, .f32 p1]] => .leaf (.bool (m69_0 o p0 p1))
  | _ => .fail
theorem ok69 (N : Nat) (hN : 4096 ≤ N) : CalOk Try.prog 69 (.pure (e69 ieee)) := by
  refine calOk_pure (cok69 2000000 (by decide)) (is69 2000000) ?_
  intro args av hg
  unfold e69 at hg
  split at hg
  · cases hg
    exact ⟨rfl, rfl, _, (eq69 ieee 2000000 _ _).trans (val69 ieee _ _)⟩
  · cases hg

/-! loop.example/g01224/impl.ValidParcel -/
noncomputable def f49 (o : FO) (p0 : o.S) (p1 : o.S) (p2 : o.S) : R o :=
  bif m82_0 o p0 then
    bif m69_0 o p1 p2 then
      some (.bool true, [])
    else
      some (.bool false, [])
  else
    some (.bool false, [])
noncomputable def c49 (o : FO) (N : Nat) : Cx o :=
  { ty := tab [(30, ty30 o), (43, ty43 o), (53, ty53 o)]
    fn := tab [(69, .pure (e69 o)), (82, .pure (e82 o))]
    rounds := 4096, nt := 11, base := 0
    loops := [] }
noncomputable def b49 : Code := match Try.f49.body with | some b => b | none => .skip
theorem is49 (N : Nat) : FnIs Try.prog (c49 ieee N) 49 Try.f49 b49 := ⟨by kernel_rfl, by kernel_rfl, by kernel_rfl, by kernel_rfl⟩
theorem eq49 (o : FO) (N : Nat) (p0 : o.S) (p1 : o.S) (p2 : o.S) : afun (c49 o N) Try.f49.results.toList b49 [.agg [.f32 p0, .f32 p1, .f32 p2]] [] = f49 o p0 p1 p2 := by kernel_rfl
theorem cok49 (N : Nat) (hN : 4096 ≤ N) : CtxOk Try.prog (c49 ieee N) := by
  refine ctxOk ?_ ?_ mixed ?_
  · intro p hp
    simp only [List.mem_cons, List.not_mem_nil, or_false] at hp
    rcases hp with rfl | rfl | rfl
    · exact tyOk30
    · exact tyOk43
    · exact tyOk53
  · intro p hp
    simp only [List.mem_cons, List.not_mem_nil, or_false] at hp
    rcases hp with rfl | rfl
    · exact ok69 N hN
    · exact ok82 N hN
  · intro p hp; cases hp
noncomputable def m49_0 (o : FO) (p0 : o.S) (p1 : o.S) (p2 : o.S) : Bool :=
  bif m82_0 o p0 then
    m69_0 o p1 p2
  else
    false
theorem val49 (o : FO) (p0 : o.S) (p1 : o.S) (p2 : o.S) : f49 o p0 p1 p2 = some (.bool (m49_0 o p0 p1 p2), []) := by
  unfold f49 m49_0
  try dsimp only
  cases (m82_0 o p0)
  · rfl
  · cases (m69_0 o p1 p2)
    · rfl
    · rfl

noncomputable def e49 (o : FO) : List (AV o) → Tr (AV o)
  | [.agg [.f32 p0, .f32 p1, .f32 p2]] => .leaf (.bool (m49_0 o p0 p1 p2))
  | _ => .fail
theorem ok49 (N : Nat) (hN : 4096 ≤ N) : CalOk Try.prog 49 (.pure (e49 ieee)) := by
  refine calOk_pure (cok49 2000000 (by decide)) (is49 2000000) ?_
  intro args av hg
  unfold e49 at hg
  split at hg
  · cases hg
    exact ⟨rfl, rfl, _, (eq49 ieee 2000000 _ _ _).trans (val49 ieee _ _ _)⟩
  · cases hg

/-! loop.example/g01224/impl.within -/
noncomputable def f59 (o : FO) (p0 : Int) (p1 : Int) (p2 : Int) : R o :=
  bif decide (p0 ≥ p1) then
    bif decide (p0 ≤ p2) then
      some (.bool true, [])
    else
      some (.bool false, [])
  else
    some (.bool false, [])
noncomputable def c59 (o : FO) (N : Nat) : Cx o :=
  { ty := tab []
    fn := tab []
    rounds := 4096, nt := 15, base := 0
    loops := [] }
noncomputable def b59 : Code := match Try.f59.body with | some b => b | none => .skip
theorem is59 (N : Nat) : FnIs Try.prog (c59 ieee N) 59 Try.f59 b59 := ⟨by kernel_rfl, by kernel_rfl, by kernel_rfl, by kernel_rfl⟩
theorem eq59 (o : FO) (N : Nat) (p0 : Int) (p1 : Int) (p2 : Int) : afun (c59 o N) Try.f59.results.toList b59 [.int .i64 p0, .int .i64 p1, .int .i64 p2] [] = f59 o p0 p1 p2 := by kernel_rfl
theorem cok59 (N : Nat) (hN : 4096 ≤ N) : CtxOk Try.prog (c59 ieee N) := by
  refine ctxOk ?_ ?_ mixed ?_
  · intro p hp; cases hp
  · intro p hp; cases hp
  · intro p hp; cases hp
noncomputable def m59_0 (o : FO) (p0 : Int) (p1 : Int) (p2 : Int) : Bool :=
  bif decide (p0 ≥ p1) then
    decide (p0 ≤ p2)
  else
    false
theorem val59 (o : FO) (p0 : Int) (p1 : Int) (p2 : Int) : f59 o p0 p1 p2 = some (.bool (m59_0 o p0 p1 p2), []) := by
  unfold f59 m59_0
  try dsimp only
  cases (decide (p0 ≥ p1))
  · rfl
  · cases (decide (p0 ≤ p2))
    · rfl
    · rfl

noncomputable def e59 (o : FO) : List (AV o) → Tr (AV o)
  | [.int .i64 p0, .int .i64 p1, .int .i64 p2] => .leaf (.bool (m59_0 o p0 p1 p2))
  | _ => .fail
theorem ok59 (N : Nat) (hN : 4096 ≤ N) : CalOk Try.prog 59 (.pure (e59 ieee)) := by
  refine calOk_pure (cok59 2000000 (by decide)) (is59 2000000) ?_
  intro args av hg
  unfold e59 at hg
  split at hg
  · cases hg
    exact ⟨rfl, rfl, _, (eq59 ieee 2000000 _ _ _).trans (val59 ieee _ _ _)⟩
  · cases hg

/-! loop.example/g01224/impl.ValidSounding -/
noncomputable def f21_L0 (o : FO) (N : Nat) (s0 : Nat × Nat × Int × Int × List (AV o) → R o) (a : Nat × Nat × Int × Int × List (AV o)) : R o :=
  bif decide (a.2.2.2.1 < a.2.2.1) then
    gd (decide (0 ≤ a.2.2.2.1) && decide (a.2.2.2.1 < ((a.2.1 : Nat) : Int))) (
    rdS a.2.2.2.2 (0 + (((a.2.2.2.1).toNat) * 3)) fun x1 =>
    rdS a.2.2.2.2 ((0 + (((a.2.2.2.1).toNat) * 3)) + 1) fun x2 =>
    rdS a.2.2.2.2 (((0 + (((a.2.2.2.1).toNat) * 3)) + 1) + 1) fun x3 =>
    bif m49_0 o x1 x2 x3 then
      bif decide (a.2.2.2.1 > (0 : Int)) then
        let v1 : Int := IntKind.wrap .i64 (a.2.2.2.1 - (1 : Int))
        gd (decide (0 ≤ v1) && decide (v1 < ((a.1 : Nat) : Int))) (
        rdS a.2.2.2.2 ((0 + (((v1).toNat) * 3)) + 0) fun x4 =>
        bif o.slt x4 x1 then
          s0 (a.1, a.2.1, a.2.2.1, IntKind.wrap .i64 (a.2.2.2.1 + (1 : Int)), a.2.2.2.2)
        else
          some (.bool false, [.live false true a.2.2.2.2]))
      else
        s0 (a.1, a.2.1, a.2.2.1, IntKind.wrap .i64 (a.2.2.2.1 + (1 : Int)), a.2.2.2.2)
    else
      some (.bool false, [.live false true a.2.2.2.2]))
  else
    some (.bool (m59_0 o ((a.1 : Nat) : Int) (2 : Int) (32 : Int)), [.live false true a.2.2.2.2])
noncomputable def f21_D0 (o : FO) (vs : List (AV o)) (h : Heap o) : Option (Nat × Nat × Int × Int × List (AV o)) :=
  match vs, h with
  | [.slice 0 0 a0_0 3, .slice 0 0 a0_1 3, .int .i64 a0_2, .int .i64 a0_3], [.live false true a0_4] => some (a0_0, a0_1, a0_2, a0_3, a0_4)
  | _, _ => none
noncomputable def f21_E0 (o : FO) (a : Nat × Nat × Int × Int × List (AV o)) : List (AV o) × Heap o := ([.slice 0 0 a.1 3, .slice 0 0 a.2.1 3, .int .i64 a.2.2.1, .int .i64 a.2.2.2.1], [.live false true a.2.2.2.2])
theorem f21_DE0 (o : FO) : ∀ vs h a, f21_D0 o vs h = some a → f21_E0 o a = (vs, h) := by
  intro vs h a hx
  unfold f21_D0 at hx
  split at hx
  · cases hx; rfl
  · cases hx
noncomputable def f21 (o : FO) (N : Nat) (p0 : Nat) (p1 : List (AV o)) : R o :=
  iter (f21_L0 o N) N (p0, p0, ((p0 : Nat) : Int), (0 : Int), p1)
noncomputable def c21 (o : FO) (N : Nat) : Cx o :=
  { ty := tab [(25, ty25 o), (30, ty30 o), (66, ty66 o)]
    fn := tab [(49, .pure (e49 o)), (59, .pure (e59 o))]
    rounds := N, nt := 35, base := 1
    loops := [loopD [0, 5, 6, 7] (f21_D0 o) (f21_E0 o)] }
noncomputable def b21 : Code := match Try.f21.body with | some b => b | none => .skip
theorem is21 (N : Nat) : FnIs Try.prog (c21 ieee N) 21 Try.f21 b21 := ⟨by kernel_rfl, by kernel_rfl, by kernel_rfl, by kernel_rfl⟩
theorem eq21 (o : FO) (N : Nat) (p0 : Nat) (p1 : List (AV o)) : afun (c21 o N) Try.f21.results.toList b21 [.slice 0 0 p0 3] [.live false true p1] = f21 o N p0 p1 := by kernel_rfl
theorem cok21 (N : Nat) (hN : 4096 ≤ N) : CtxOk Try.prog (c21 ieee N) := by
  refine ctxOk ?_ ?_ mixed ?_
  · intro p hp
    simp only [List.mem_cons, List.not_mem_nil, or_false] at hp
    rcases hp with rfl | rfl | rfl
    · exact tyOk25
    · exact tyOk30
    · exact tyOk66
  · intro p hp
    simp only [List.mem_cons, List.not_mem_nil, or_false] at hp
    rcases hp with rfl | rfl
    · exact ok49 N hN
    · exact ok59 N hN
  · intro p hp
    simp only [List.mem_cons, List.not_mem_nil, or_false] at hp
    subst hp; exact loopD_ok _ _ _ (f21_DE0 ieee)
noncomputable def m21_h (o : FO) (p0 : Nat) (p1 : List (AV o)) : Heap o := match f21 o 2000000 p0 p1 with | some (_, h) => h | _ => []
noncomputable def k21 (o : FO) : R o → Bool := fun r => match r with | some (.bool _, _) => true | _ => false
theorem k21_c (o : FO) (b : Bool) (x y : R o) : k21 o (bif b then x else y) = bif b then k21 o x else k21 o y := by cases b <;> rfl
noncomputable def m21_ok (o : FO) (p0 : Nat) (p1 : List (AV o)) : Bool := k21 o (f21 o 2000000 p0 p1)
noncomputable def g21_0 (o : FO) : R o → Bool := fun r => match r with | some (.bool r0, _) => r0 | _ => false
theorem g21_0c (o : FO) (b : Bool) (x y : R o) : g21_0 o (bif b then x else y) = bif b then g21_0 o x else g21_0 o y := by cases b <;> rfl
noncomputable def m21_0 (o : FO) (p0 : Nat) (p1 : List (AV o)) : Bool := g21_0 o (f21 o 2000000 p0 p1)
theorem val21 (o : FO) (p0 : Nat) (p1 : List (AV o)) (h : m21_ok o p0 p1 = true) : f21 o 2000000 p0 p1 = some (.bool (m21_0 o p0 p1), m21_h o p0 p1) := by
  unfold m21_ok k21 at h
  unfold m21_0 g21_0 m21_h
  generalize f21 o 2000000 p0 p1 = r at h ⊢
  split at h
  · rfl
  · cases h

noncomputable def e21 (o : FO) : List (AV o) → Heap o → Tr (AV o)
  | [.slice 0 0 p0 3], [.live _ true p1] => .br (m21_ok o p0 p1) (.leaf (.bool (m21_0 o p0 p1))) .fail
  | _, _ => .fail
theorem ok21 (N : Nat) (hN : 4096 ≤ N) : CalOk Try.prog 21 (.ro (e21 ieee)) := by
  refine calOk_ro (cok21 2000000 (by decide)) (is21 2000000) ?_
  intro args h av hg
  unfold e21 at hg
  split at hg
  · obtain ⟨h0, hg⟩ := br_get hg
    cases hg
    exact ⟨rfl, _, (eq21 ieee 2000000 _ _).trans (val21 ieee _ _ h0)⟩
  · cases hg

/-! slices.Clone[[]loop.example/g01224/impl.Level,loop.example/g01224/impl.Level] -/
noncomputable def f68 (o : FO) (p0 : Nat) (p1 : List (AV o)) : R o :=
  gd (Nat.ble (0 + (p0 * 3)) ((p1).length)) (
  gd (Nat.ble (0 + p0) 9223372036854775807 && Nat.ble ((0 + p0) * 12) 140737488355328) (
  some (.slice 1 0 (0 + p0) 3, [.live false true p1, .live true true ([] ++ ((p1.drop 0).take (p0 * 3)))])))
noncomputable def c68 (o : FO) (N : Nat) : Cx o :=
  { ty := tab [(25, ty25 o), (66, ty66 o)]
    fn := tab []
    rounds := 4096, nt := 8, base := 1
    loops := [] }
noncomputable def b68 : Code := match Try.f68.body with | some b => b | none => .skip
theorem is68 (N : Nat) : FnIs Try.prog (c68 ieee N) 68 Try.f68 b68 := ⟨by kernel_rfl, by kernel_rfl, by kernel_rfl, by kernel_rfl⟩
theorem eq68 (o : FO) (N : Nat) (p0 : Nat) (p1 : List (AV o)) : afun (c68 o N) Try.f68.results.toList b68 [.slice 0 0 p0 3] [.live false true p1] = f68 o p0 p1 := by kernel_rfl
theorem cok68 (N : Nat) (hN : 4096 ≤ N) : CtxOk Try.prog (c68 ieee N) := by
  refine ctxOk ?_ ?_ mixed ?_
  · intro p hp
    simp only [List.mem_cons, List.not_mem_nil, or_false] at hp
    rcases hp with rfl | rfl
    · exact tyOk25
    · exact tyOk66
  · intro p hp; cases hp
  · intro p hp; cases hp
noncomputable def m68_ok (o : FO) (p0 : Nat) (p1 : List (AV o)) : Bool :=
  bif Nat.ble (0 + (p0 * 3)) ((p1).length) then
    Nat.ble (0 + p0) 9223372036854775807 && Nat.ble ((0 + p0) * 12) 140737488355328
  else
    false
noncomputable def m68_0 (o : FO) (p0 : Nat) (p1 : List (AV o)) : Nat :=
  0 + p0
noncomputable def m68_1 (o : FO) (p0 : Nat) (p1 : List (AV o)) : List (AV o) :=
  [] ++ ((p1.drop 0).take (p0 * 3))
theorem val68 (o : FO) (p0 : Nat) (p1 : List (AV o)) (h : m68_ok o p0 p1 = true) : f68 o p0 p1 = some (.slice 1 0 (m68_0 o p0 p1) 3, [.live false true p1, .live true true (m68_1 o p0 p1)]) := by
  revert h
  unfold m68_ok f68 m68_0 m68_1
  cases (Nat.ble (0 + (p0 * 3)) ((p1).length))
  · intro h; exact absurd h Bool.false_ne_true
  · cases (Nat.ble (0 + p0) 9223372036854775807 && Nat.ble ((0 + p0) * 12) 140737488355328)
    · intro h; exact absurd h Bool.false_ne_true
    · intro _; rfl

noncomputable def e68 (o : FO) : List (AV o) → Heap o → Tr (AV o × Heap o)
  | [.slice 0 0 p0 3], [.live false true p1] => .br (m68_ok o p0 p1) (.leaf ((.slice 1 0 (m68_0 o p0 p1) 3, [.live false true p1, .live true true (m68_1 o p0 p1)]))) .fail
  | _, _ => .fail
theorem ok68 (N : Nat) (hN : 4096 ≤ N) : CalOk Try.prog 68 (.rw (e68 ieee)) := by
  refine calOk_rw (cok68 2000000 (by decide)) (is68 2000000) ?_
  intro args h av h2 hg
  unfold e68 at hg
  split at hg
  · obtain ⟨h0, hg⟩ := br_get hg
    cases hg
    exact (eq68 ieee 2000000 _ _).trans (val68 ieee _ _ h0)
  · cases hg

/-! loop.example/g01224/impl.unsteady -/
noncomputable def f62_L0 (o : FO) (N : Nat) (s0 : Nat × Int × List (AV o) → R o) (a : Nat × Int × List (AV o)) : R o :=
  bif decide (a.2.1 < ((a.1 : Nat) : Int)) then
    let v1 : Int := IntKind.wrap .i64 (a.2.1 - (1 : Int))
    gd (decide (0 ≤ v1) && decide (v1 < ((a.1 : Nat) : Int))) (
    rdS a.2.2 (((0 + (((v1).toNat) * 3)) + 1) + 0) fun x1 =>
    gd (decide (0 ≤ a.2.1) && decide (a.2.1 < ((a.1 : Nat) : Int))) (
    rdS a.2.2 (((0 + (((a.2.1).toNat) * 3)) + 1) + 0) fun x2 =>
    gd (decide (0 ≤ a.2.1) && decide (a.2.1 < ((a.1 : Nat) : Int))) (
    rdS a.2.2 ((0 + (((a.2.1).toNat) * 3)) + 0) fun x3 =>
    gd (decide (0 ≤ v1) && decide (v1 < ((a.1 : Nat) : Int))) (
    rdS a.2.2 ((0 + (((v1).toNat) * 3)) + 0) fun x4 =>
    bif o.slt (o.smul (o.slit 1092616192) (o.ssub x3 x4)) (o.ssub x1 x2) then
      some (.int .i64 v1, [.live false true a.2.2])
    else
      s0 (a.1, IntKind.wrap .i64 (a.2.1 + (1 : Int)), a.2.2)))))
  else
    some (.int .i64 (-1 : Int), [.live false true a.2.2])
noncomputable def f62_D0 (o : FO) (vs : List (AV o)) (h : Heap o) : Option (Nat × Int × List (AV o)) :=
  match vs, h with
  | [.slice 0 0 a0_0 3, .int .i64 a0_1], [.live false true a0_2] => some (a0_0, a0_1, a0_2)
  | _, _ => none
noncomputable def f62_E0 (o : FO) (a : Nat × Int × List (AV o)) : List (AV o) × Heap o := ([.slice 0 0 a.1 3, .int .i64 a.2.1], [.live false true a.2.2])
theorem f62_DE0 (o : FO) : ∀ vs h a, f62_D0 o vs h = some a → f62_E0 o a = (vs, h) := by
  intro vs h a hx
  unfold f62_D0 at hx
  split at hx
  · cases hx; rfl
  · cases hx
noncomputable def f62 (o : FO) (N : Nat) (p0 : Nat) (p1 : List (AV o)) : R o :=
  iter (f62_L0 o N) N (p0, (1 : Int), p1)
noncomputable def c62 (o : FO) (N : Nat) : Cx o :=
  { ty := tab [(25, ty25 o), (30, ty30 o), (43, ty43 o), (66, ty66 o)]
    fn := tab []
    rounds := N, nt := 40, base := 1
    loops := [loopD [0, 3] (f62_D0 o) (f62_E0 o)] }
noncomputable def b62 : Code := match Try.f62.body with | some b => b | none => .skip
theorem is62 (N : Nat) : FnIs Try.prog (c62 ieee N) 62 Try.f62 b62 := ⟨by kernel_rfl, by kernel_rfl, by kernel_rfl, by kernel_rfl⟩
theorem eq62 (o : FO) (N : Nat) (p0 : Nat) (p1 : List (AV o)) : afun (c62 o N) Try.f62.results.toList b62 [.slice 0 0 p0 3] [.live false true p1] = f62 o N p0 p1 := by kernel_rfl
theorem cok62 (N : Nat) (hN : 4096 ≤ N) : CtxOk Try.prog (c62 ieee N) := by
  refine ctxOk ?_ ?_ mixed ?_
  · intro p hp
    simp only [List.mem_cons, List.not_mem_nil, or_false] at hp
    rcases hp with rfl | rfl | rfl | rfl
    · exact tyOk25
    · exact tyOk30
    · exact tyOk43
    · exact tyOk66
  · intro p hp; cases hp
  · intro p hp
    simp only [List.mem_cons, List.not_mem_nil, or_false] at hp
    subst hp; exact loopD_ok _ _ _ (f62_DE0 ieee)
noncomputable def m62_h (o : FO) (p0 : Nat) (p1 : List (AV o)) : Heap o := match f62 o 2000000 p0 p1 with | some (_, h) => h | _ => []
noncomputable def k62 (o : FO) : R o → Bool := fun r => match r with | some (.int .i64 _, _) => true | _ => false
theorem k62_c (o : FO) (b : Bool) (x y : R o) : k62 o (bif b then x else y) = bif b then k62 o x else k62 o y := by cases b <;> rfl
noncomputable def m62_ok (o : FO) (p0 : Nat) (p1 : List (AV o)) : Bool := k62 o (f62 o 2000000 p0 p1)
noncomputable def g62_0 (o : FO) : R o → Int := fun r => match r with | some (.int .i64 r0, _) => r0 | _ => 0
theorem g62_0c (o : FO) (b : Bool) (x y : R o) : g62_0 o (bif b then x else y) = bif b then g62_0 o x else g62_0 o y := by cases b <;> rfl
noncomputable def m62_0 (o : FO) (p0 : Nat) (p1 : List (AV o)) : Int := g62_0 o (f62 o 2000000 p0 p1)
theorem val62 (o : FO) (p0 : Nat) (p1 : List (AV o)) (h : m62_ok o p0 p1 = true) : f62 o 2000000 p0 p1 = some (.int .i64 (m62_0 o p0 p1), m62_h o p0 p1) := by
  unfold m62_ok k62 at h
  unfold m62_0 g62_0 m62_h
  generalize f62 o 2000000 p0 p1 = r at h ⊢
  split at h
  · rfl
  · cases h

noncomputable def e62 (o : FO) : List (AV o) → Heap o → Tr (AV o)
  | [.slice 0 0 p0 3], [.live _ true p1] => .br (m62_ok o p0 p1) (.leaf (.int .i64 (m62_0 o p0 p1))) .fail
  | _, _ => .fail
theorem ok62 (N : Nat) (hN : 4096 ≤ N) : CalOk Try.prog 62 (.ro (e62 ieee)) := by
  refine calOk_ro (cok62 2000000 (by decide)) (is62 2000000) ?_
  intro args h av hg
  unfold e62 at hg
  split at hg
  · obtain ⟨h0, hg⟩ := br_get hg
    cases hg
    exact ⟨rfl, _, (eq62 ieee 2000000 _ _).trans (val62 ieee _ _ h0)⟩
  · cases hg

/-! slices.Clone[[]loop.example/g01224/impl.Level,loop.example/g01224/impl.Level] -/
noncomputable def f68a (o : FO) (p0 : Nat) (p1 : List (AV o)) : R o :=
  gd (Nat.ble (0 + (p0 * 3)) ((p1).length)) (
  gd (Nat.ble (0 + p0) 9223372036854775807 && Nat.ble ((0 + p0) * 12) 140737488355328) (
  some (.slice 1 0 (0 + p0) 3, [.live true true p1, .live true true ([] ++ ((p1.drop 0).take (p0 * 3)))])))
noncomputable def c68a (o : FO) (N : Nat) : Cx o :=
  { ty := tab [(25, ty25 o), (66, ty66 o)]
    fn := tab []
    rounds := 4096, nt := 8, base := 1
    loops := [] }
theorem is68a (N : Nat) : FnIs Try.prog (c68a ieee N) 68 Try.f68 b68 := ⟨by kernel_rfl, by kernel_rfl, by kernel_rfl, by kernel_rfl⟩
theorem eq68a (o : FO) (N : Nat) (p0 : Nat) (p1 : List (AV o)) : afun (c68a o N) Try.f68.results.toList b68 [.slice 0 0 p0 3] [.live true true p1] = f68a o p0 p1 := by kernel_rfl
theorem cok68a (N : Nat) (hN : 4096 ≤ N) : CtxOk Try.prog (c68a ieee N) := by
  refine ctxOk ?_ ?_ mixed ?_
  · intro p hp
    simp only [List.mem_cons, List.not_mem_nil, or_false] at hp
    rcases hp with rfl | rfl
    · exact tyOk25
    · exact tyOk66
  · intro p hp; cases hp
  · intro p hp; cases hp
noncomputable def m68a_ok (o : FO) (p0 : Nat) (p1 : List (AV o)) : Bool :=
  bif Nat.ble (0 + (p0 * 3)) ((p1).length) then
    Nat.ble (0 + p0) 9223372036854775807 && Nat.ble ((0 + p0) * 12) 140737488355328
  else
    false
noncomputable def m68a_0 (o : FO) (p0 : Nat) (p1 : List (AV o)) : Nat :=
  0 + p0
noncomputable def m68a_1 (o : FO) (p0 : Nat) (p1 : List (AV o)) : List (AV o) :=
  [] ++ ((p1.drop 0).take (p0 * 3))
theorem val68a (o : FO) (p0 : Nat) (p1 : List (AV o)) (h : m68a_ok o p0 p1 = true) : f68a o p0 p1 = some (.slice 1 0 (m68a_0 o p0 p1) 3, [.live true true p1, .live true true (m68a_1 o p0 p1)]) := by
  revert h
  unfold m68a_ok f68a m68a_0 m68a_1
  cases (Nat.ble (0 + (p0 * 3)) ((p1).length))
  · intro h; exact absurd h Bool.false_ne_true
  · cases (Nat.ble (0 + p0) 9223372036854775807 && Nat.ble ((0 + p0) * 12) 140737488355328)
    · intro h; exact absurd h Bool.false_ne_true
    · intro _; rfl

noncomputable def e68as (o : FO) : List (AV o) → Heap o → Tr (AV o × Heap o)
  | [.slice 0 0 p0 3], [.live true true p1] => .br (m68a_ok o p0 p1) (.leaf ((.slice 1 0 (m68a_0 o p0 p1) 3, [.live true true p1, .live true true (m68a_1 o p0 p1)]))) .fail
  | _, _ => .fail
theorem ok68as (N : Nat) (hN : 4096 ≤ N) : CalOk Try.prog 68 (.rw (e68as ieee)) := by
  refine calOk_rw (cok68a 2000000 (by decide)) (is68a 2000000) ?_
  intro args h av h2 hg
  unfold e68as at hg
  split at hg
  · obtain ⟨h0, hg⟩ := br_get hg
    cases hg
    exact (eq68a ieee 2000000 _ _).trans (val68a ieee _ _ h0)
  · cases hg
noncomputable def e68s (o : FO) : List (AV o) → Heap o → Tr (AV o × Heap o)
  | [.slice 0 0 p0 3], [.live false true p1] => .br (m68_ok o p0 p1) (.leaf ((.slice 1 0 (m68_0 o p0 p1) 3, [.live false true p1, .live true true (m68_1 o p0 p1)]))) .fail
  | _, _ => .fail
theorem ok68s (N : Nat) (hN : 4096 ≤ N) : CalOk Try.prog 68 (.rw (e68s ieee)) := by
  refine calOk_rw (cok68 2000000 (by decide)) (is68 2000000) ?_
  intro args h av h2 hg
  unfold e68s at hg
  split at hg
  · obtain ⟨h0, hg⟩ := br_get hg
    cases hg
    exact (eq68 ieee 2000000 _ _).trans (val68 ieee _ _ h0)
  · cases hg
noncomputable def e68v1 (o : FO) : List (AV o) → Heap o → Tr (AV o × Heap o)
  | [.slice 0 0 p0 3], [.live false true p1] => .br (m68_ok o p0 p1) (.leaf ((.slice 1 0 (m68_0 o p0 p1) 3, [.live false true p1, .live true true (m68_1 o p0 p1)]))) .fail
  | [.slice 0 0 p0 3], [.live true true p1] => .br (m68a_ok o p0 p1) (.leaf ((.slice 1 0 (m68a_0 o p0 p1) 3, [.live true true p1, .live true true (m68a_1 o p0 p1)]))) .fail
  | _, _ => .fail
theorem ok68v1 (N : Nat) (hN : 4096 ≤ N) : CalOk Try.prog 68 (.rw (e68v1 ieee)) := by
  intro args h av h2 hg
  unfold e68v1 at hg
  split at hg
  · exact ok68s N hN _ _ av h2 hg
  · exact ok68as N hN _ _ av h2 hg
  · cases hg

/-! loop.example/g01224/impl.SteadySounding -/
noncomputable def f42_L0 (o : FO) (N : Nat) (s0 : Nat × Int × List (AV o) × List (AV o) → R o) (a : Nat × Int × List (AV o) × List (AV o)) : R o :=
  gd (m62_ok o a.1 a.2.2.2) (
  bif decide ((m62_0 o a.1 a.2.2.2) < (0 : Int)) then
    some (.tup [.slice 1 0 a.1 3, .int .i64 a.2.1, .int .i64 (0 : Int)], [.live true true a.2.2.1, .live true true a.2.2.2])
  else
    bif a.2.1 == (200 : Int) then
      some (.tup [.nilslice, .int .i64 (0 : Int), .int .i64 (7 : Int)], [.live true true a.2.2.1])
    else
      gd (decide (0 ≤ (m62_0 o a.1 a.2.2.2)) && decide ((m62_0 o a.1 a.2.2.2) < ((a.1 : Nat) : Int))) (
      let v1 : Int := IntKind.wrap .i64 ((m62_0 o a.1 a.2.2.2) + (1 : Int))
      gd (decide (0 ≤ v1) && decide (v1 < ((a.1 : Nat) : Int))) (
      rdS a.2.2.2 ((0 + (((v1).toNat) * 3)) + 0) fun x1 =>
      rdS a.2.2.2 ((0 + ((((m62_0 o a.1 a.2.2.2)).toNat) * 3)) + 0) fun x2 =>
      rdS a.2.2.2 (((0 + ((((m62_0 o a.1 a.2.2.2)).toNat) * 3)) + 1) + 0) fun x3 =>
      rdS a.2.2.2 (((0 + (((v1).toNat) * 3)) + 1) + 0) fun x4 =>
      let v2 : o.S := o.smul (o.slit 1056964608) (o.sadd x3 x4)
      rdS a.2.2.2 (((0 + ((((m62_0 o a.1 a.2.2.2)).toNat) * 3)) + 1) + 1) fun x5 =>
      rdS a.2.2.2 (((0 + (((v1).toNat) * 3)) + 1) + 1) fun x6 =>
      let v3 : o.S := o.smul (o.slit 1056964608) (o.sadd x5 x6)
      let v4 : o.S := o.smul (o.slit 1084227584) (o.ssub x1 x2)
      wrA a.2.2.2 ((0 + ((((m62_0 o a.1 a.2.2.2)).toNat) * 3)) + 1) 2 [.f32 (o.sadd v2 v4), .f32 v3] fun c7 =>
      wrA c7 ((0 + (((v1).toNat) * 3)) + 1) 2 [.f32 (o.ssub v2 v4), .f32 v3] fun c8 =>
      rdS c8 ((0 + ((((m62_0 o a.1 a.2.2.2)).toNat) * 3)) + 1) fun x9 =>
      rdS c8 (((0 + ((((m62_0 o a.1 a.2.2.2)).toNat) * 3)) + 1) + 1) fun x10 =>
      bif m69_0 o x9 x10 then
        rdS c8 ((0 + (((v1).toNat) * 3)) + 1) fun x11 =>
        rdS c8 (((0 + (((v1).toNat) * 3)) + 1) + 1) fun x12 =>
        bif m69_0 o x11 x12 then
          s0 (a.1, IntKind.wrap .i64 (a.2.1 + (1 : Int)), a.2.2.1, c8)
        else
          some (.tup [.nilslice, .int .i64 (0 : Int), .int .i64 (4 : Int)], [.live true true a.2.2.1])
      else
        some (.tup [.nilslice, .int .i64 (0 : Int), .int .i64 (4 : Int)], [.live true true a.2.2.1]))))
noncomputable def f42_D0 (o : FO) (vs : List (AV o)) (h : Heap o) : Option (Nat × Int × List (AV o) × List (AV o)) :=
  match vs, h with
  | [.slice 1 0 a0_0 3, .int .i64 a0_1], [.live true true a0_2, .live true true a0_3] => some (a0_0, a0_1, a0_2, a0_3)
  | _, _ => none
noncomputable def f42_E0 (o : FO) (a : Nat × Int × List (AV o) × List (AV o)) : List (AV o) × Heap o := ([.slice 1 0 a.1 3, .int .i64 a.2.1], [.live true true a.2.2.1, .live true true a.2.2.2])
theorem f42_DE0 (o : FO) : ∀ vs h a, f42_D0 o vs h = some a → f42_E0 o a = (vs, h) := by
  intro vs h a hx
  unfold f42_D0 at hx
  split at hx
  · cases hx; rfl
  · cases hx
noncomputable def f42 (o : FO) (N : Nat) (p0 : Nat) (p1 : List (AV o)) : R o :=
  gd (m21_ok o p0 p1) (
  bif !(m21_0 o p0 p1) then
    some (.tup [.nilslice, .int .i64 (0 : Int), .int .i64 (1 : Int)], [.live true true p1])
  else
    gd (m68a_ok o p0 p1) (
    iter (f42_L0 o N) N (m68a_0 o p0 p1, (0 : Int), p1, m68a_1 o p0 p1)))
noncomputable def c42 (o : FO) (N : Nat) : Cx o :=
  { ty := tab [(25, ty25 o), (30, ty30 o), (43, ty43 o), (66, ty66 o)]
    fn := tab [(21, .ro (e21 o)), (62, .ro (e62 o)), (68, .rw (e68v1 o)), (69, .pure (e69 o))]
    rounds := N, nt := 100, base := 1
    loops := [loopD [5, 6] (f42_D0 o) (f42_E0 o)] }
noncomputable def b42 : Code := match Try.f42.body with | some b => b | none => .skip
theorem is42 (N : Nat) : FnIs Try.prog (c42 ieee N) 42 Try.f42 b42 := ⟨by kernel_rfl, by kernel_rfl, by kernel_rfl, by kernel_rfl⟩
theorem eq42 (o : FO) (N : Nat) (p0 : Nat) (p1 : List (AV o)) : afun (c42 o N) Try.f42.results.toList b42 [.slice 0 0 p0 3] [.live true true p1] = f42 o N p0 p1 := by kernel_rfl
theorem cok42 (N : Nat) (hN : 4096 ≤ N) : CtxOk Try.prog (c42 ieee N) := by
  refine ctxOk ?_ ?_ mixed ?_
  · intro p hp
    simp only [List.mem_cons, List.not_mem_nil, or_false] at hp
    rcases hp with rfl | rfl | rfl | rfl
    · exact tyOk25
    · exact tyOk30
    · exact tyOk43
    · exact tyOk66
  · intro p hp
    simp only [List.mem_cons, List.not_mem_nil, or_false] at hp
    rcases hp with rfl | rfl | rfl | rfl
    · exact ok21 N hN
    · exact ok62 N hN
    · exact ok68v1 N hN
    · exact ok69 N hN
  · intro p hp
    simp only [List.mem_cons, List.not_mem_nil, or_false] at hp
    subst hp; exact loopD_ok _ _ _ (f42_DE0 ieee)
noncomputable def k42 (o : FO) : R o → Bool := fun r => match r with | some (.tup [.nilslice, .int .i64 _, .int .i64 _], [.live true true _]) => true | _ => false
theorem k42_c (o : FO) (b : Bool) (x y : R o) : k42 o (bif b then x else y) = bif b then k42 o x else k42 o y := by cases b <;> rfl
noncomputable def m42_ok (o : FO) (p0 : Nat) (p1 : List (AV o)) : Bool := k42 o (f42 o 2000000 p0 p1)
noncomputable def g42_0 (o : FO) : R o → Int := fun r => match r with | some (.tup [.nilslice, .int .i64 r0, .int .i64 _], [.live true true _]) => r0 | _ => 0
theorem g42_0c (o : FO) (b : Bool) (x y : R o) : g42_0 o (bif b then x else y) = bif b then g42_0 o x else g42_0 o y := by cases b <;> rfl
noncomputable def m42_0 (o : FO) (p0 : Nat) (p1 : List (AV o)) : Int := g42_0 o (f42 o 2000000 p0 p1)
noncomputable def g42_1 (o : FO) : R o → Int := fun r => match r with | some (.tup [.nilslice, .int .i64 _, .int .i64 r1], [.live true true _]) => r1 | _ => 0
theorem g42_1c (o : FO) (b : Bool) (x y : R o) : g42_1 o (bif b then x else y) = bif b then g42_1 o x else g42_1 o y := by cases b <;> rfl
noncomputable def m42_1 (o : FO) (p0 : Nat) (p1 : List (AV o)) : Int := g42_1 o (f42 o 2000000 p0 p1)
noncomputable def g42_2 (o : FO) : R o → List (AV o) := fun r => match r with | some (.tup [.nilslice, .int .i64 _, .int .i64 _], [.live true true r2]) => r2 | _ => []
theorem g42_2c (o : FO) (b : Bool) (x y : R o) : g42_2 o (bif b then x else y) = bif b then g42_2 o x else g42_2 o y := by cases b <;> rfl
noncomputable def m42_2 (o : FO) (p0 : Nat) (p1 : List (AV o)) : List (AV o) := g42_2 o (f42 o 2000000 p0 p1)
theorem val42 (o : FO) (p0 : Nat) (p1 : List (AV o)) (h : m42_ok o p0 p1 = true) : f42 o 2000000 p0 p1 = some (.tup [.nilslice, .int .i64 (m42_0 o p0 p1), .int .i64 (m42_1 o p0 p1)], [.live true true (m42_2 o p0 p1)]) := by
  unfold m42_ok k42 at h
  unfold m42_0 g42_0 m42_1 g42_1 m42_2 g42_2
  generalize f42 o 2000000 p0 p1 = r at h ⊢
  split at h
  · rfl
  · cases h
noncomputable def k42x1 (o : FO) : R o → Bool := fun r => match r with | some (.tup [.slice 1 0 _ 3, .int .i64 _, .int .i64 _], [.live true true _, .live true true _]) => true | _ => false
theorem k42x1_c (o : FO) (b : Bool) (x y : R o) : k42x1 o (bif b then x else y) = bif b then k42x1 o x else k42x1 o y := by cases b <;> rfl
noncomputable def m42_ok1 (o : FO) (p0 : Nat) (p1 : List (AV o)) : Bool := k42x1 o (f42 o 2000000 p0 p1)
noncomputable def g42_3 (o : FO) : R o → Nat := fun r => match r with | some (.tup [.slice 1 0 r0 3, .int .i64 _, .int .i64 _], [.live true true _, .live true true _]) => r0 | _ => 0
theorem g42_3c (o : FO) (b : Bool) (x y : R o) : g42_3 o (bif b then x else y) = bif b then g42_3 o x else g42_3 o y := by cases b <;> rfl
noncomputable def m42_3 (o : FO) (p0 : Nat) (p1 : List (AV o)) : Nat := g42_3 o (f42 o 2000000 p0 p1)
noncomputable def g42_4 (o : FO) : R o → Int := fun r => match r with | some (.tup [.slice 1 0 _ 3, .int .i64 r1, .int .i64 _], [.live true true _, .live true true _]) => r1 | _ => 0
theorem g42_4c (o : FO) (b : Bool) (x y : R o) : g42_4 o (bif b then x else y) = bif b then g42_4 o x else g42_4 o y := by cases b <;> rfl
noncomputable def m42_4 (o : FO) (p0 : Nat) (p1 : List (AV o)) : Int := g42_4 o (f42 o 2000000 p0 p1)
noncomputable def g42_5 (o : FO) : R o → Int := fun r => match r with | some (.tup [.slice 1 0 _ 3, .int .i64 _, .int .i64 r2], [.live true true _, .live true true _]) => r2 | _ => 0
theorem g42_5c (o : FO) (b : Bool) (x y : R o) : g42_5 o (bif b then x else y) = bif b then g42_5 o x else g42_5 o y := by cases b <;> rfl
noncomputable def m42_5 (o : FO) (p0 : Nat) (p1 : List (AV o)) : Int := g42_5 o (f42 o 2000000 p0 p1)
noncomputable def g42_6 (o : FO) : R o → List (AV o) := fun r => match r with | some (.tup [.slice 1 0 _ 3, .int .i64 _, .int .i64 _], [.live true true r3, .live true true _]) => r3 | _ => []
theorem g42_6c (o : FO) (b : Bool) (x y : R o) : g42_6 o (bif b then x else y) = bif b then g42_6 o x else g42_6 o y := by cases b <;> rfl
noncomputable def m42_6 (o : FO) (p0 : Nat) (p1 : List (AV o)) : List (AV o) := g42_6 o (f42 o 2000000 p0 p1)
noncomputable def g42_7 (o : FO) : R o → List (AV o) := fun r => match r with | some (.tup [.slice 1 0 _ 3, .int .i64 _, .int .i64 _], [.live true true _, .live true true r4]) => r4 | _ => []
theorem g42_7c (o : FO) (b : Bool) (x y : R o) : g42_7 o (bif b then x else y) = bif b then g42_7 o x else g42_7 o y := by cases b <;> rfl
noncomputable def m42_7 (o : FO) (p0 : Nat) (p1 : List (AV o)) : List (AV o) := g42_7 o (f42 o 2000000 p0 p1)
theorem val42_1 (o : FO) (p0 : Nat) (p1 : List (AV o)) (h : m42_ok1 o p0 p1 = true) : f42 o 2000000 p0 p1 = some (.tup [.slice 1 0 (m42_3 o p0 p1) 3, .int .i64 (m42_4 o p0 p1), .int .i64 (m42_5 o p0 p1)], [.live true true (m42_6 o p0 p1), .live true true (m42_7 o p0 p1)]) := by
  unfold m42_ok1 k42x1 at h
  unfold m42_3 g42_3 m42_4 g42_4 m42_5 g42_5 m42_6 g42_6 m42_7 g42_7
  generalize f42 o 2000000 p0 p1 = r at h ⊢
  split at h
  · rfl
  · cases h

noncomputable def e42 (o : FO) : List (AV o) → Heap o → Tr (AV o × Heap o)
  | [.slice 0 0 p0 3], [.live true true p1] => .br (m42_ok o p0 p1) (.leaf ((.tup [.nilslice, .int .i64 (m42_0 o p0 p1), .int .i64 (m42_1 o p0 p1)], [.live true true (m42_2 o p0 p1)]))) (.br (m42_ok1 o p0 p1) (.leaf ((.tup [.slice 1 0 (m42_3 o p0 p1) 3, .int .i64 (m42_4 o p0 p1), .int .i64 (m42_5 o p0 p1)], [.live true true (m42_6 o p0 p1), .live true true (m42_7 o p0 p1)]))) .fail)
  | _, _ => .fail
theorem ok42 (N : Nat) (hN : 4096 ≤ N) : CalOk Try.prog 42 (.rw (e42 ieee)) := by
  refine calOk_rw (cok42 2000000 (by decide)) (is42 2000000) ?_
  intro args h av h2 hg
  unfold e42 at hg
  split at hg
  · rcases br_get2 hg with ⟨h0, hg⟩ | ⟨_, hg⟩
    · cases hg
      exact (eq42 ieee 2000000 _ _).trans (val42 ieee _ _ h0)
    · skip
      obtain ⟨h1, hg⟩ := br_get hg
      cases hg
      exact (eq42 ieee 2000000 _ _).trans (val42_1 ieee _ _ h1)
  · cases hg

/-! loop.example/g01224/laws.eqLevelS -/
noncomputable def f19_L0 (o : FO) (N : Nat) (s0 : Nat × Int × List (AV o) → R o) (a : Nat × Int × List (AV o)) : R o :=
  bif decide (a.2.1 < (0 : Int)) then
    none
  else
    some (.bool true, [.live false true a.2.2])
noncomputable def f19_D0 (o : FO) (vs : List (AV o)) (h : Heap o) : Option (Nat × Int × List (AV o)) :=
  match vs, h with
  | [.nilslice, .slice 0 0 a0_0 3, .int .i64 a0_1], [.live false true a0_2] => some (a0_0, a0_1, a0_2)
  | _, _ => none
noncomputable def f19_E0 (o : FO) (a : Nat × Int × List (AV o)) : List (AV o) × Heap o := ([.nilslice, .slice 0 0 a.1 3, .int .i64 a.2.1], [.live false true a.2.2])
theorem f19_DE0 (o : FO) : ∀ vs h a, f19_D0 o vs h = some a → f19_E0 o a = (vs, h) := by
  intro vs h a hx
  unfold f19_D0 at hx
  split at hx
  · cases hx; rfl
  · cases hx
noncomputable def f19 (o : FO) (N : Nat) (p0 : Nat) (p1 : List (AV o)) : R o :=
  bif (0 : Int) != ((p0 : Nat) : Int) then
    some (.bool false, [.live false true p1])
  else
    iter (f19_L0 o N) N (p0, (0 : Int), p1)
noncomputable def c19 (o : FO) (N : Nat) : Cx o :=
  { ty := tab [(25, ty25 o)]
    fn := tab []
    rounds := N, nt := 27, base := 1
    loops := [loopD [0, 1, 5] (f19_D0 o) (f19_E0 o)] }
noncomputable def b19 : Code := match Try.f19.body with | some b => b | none => .skip
theorem is19 (N : Nat) : FnIs Try.prog (c19 ieee N) 19 Try.f19 b19 := ⟨by kernel_rfl, by kernel_rfl, by kernel_rfl, by kernel_rfl⟩
theorem eq19 (o : FO) (N : Nat) (p0 : Nat) (p1 : List (AV o)) : afun (c19 o N) Try.f19.results.toList b19 [.nilslice, .slice 0 0 p0 3] [.live false true p1] = f19 o N p0 p1 := by kernel_rfl
theorem cok19 (N : Nat) (hN : 4096 ≤ N) : CtxOk Try.prog (c19 ieee N) := by
  refine ctxOk ?_ ?_ mixed ?_
  · intro p hp
    simp only [List.mem_cons, List.not_mem_nil, or_false] at hp
    subst hp; exact tyOk25
  · intro p hp; cases hp
  · intro p hp
    simp only [List.mem_cons, List.not_mem_nil, or_false] at hp
    subst hp; exact loopD_ok _ _ _ (f19_DE0 ieee)
noncomputable def m19_h (o : FO) (p0 : Nat) (p1 : List (AV o)) : Heap o := match f19 o 2000000 p0 p1 with | some (_, h) => h | _ => []
noncomputable def k19 (o : FO) : R o → Bool := fun r => match r with | some (.bool _, _) => true | _ => false
theorem k19_c (o : FO) (b : Bool) (x y : R o) : k19 o (bif b then x else y) = bif b then k19 o x else k19 o y := by cases b <;> rfl
noncomputable def m19_ok (o : FO) (p0 : Nat) (p1 : List (AV o)) : Bool := k19 o (f19 o 2000000 p0 p1)
noncomputable def g19_0 (o : FO) : R o → Bool := fun r => match r with | some (.bool r0, _) => r0 | _ => false
theorem g19_0c (o : FO) (b : Bool) (x y : R o) : g19_0 o (bif b then x else y) = bif b then g19_0 o x else g19_0 o y := by cases b <;> rfl
noncomputable def m19_0 (o : FO) (p0 : Nat) (p1 : List (AV o)) : Bool := g19_0 o (f19 o 2000000 p0 p1)
theorem val19 (o : FO) (p0 : Nat) (p1 : List (AV o)) (h : m19_ok o p0 p1 = true) : f19 o 2000000 p0 p1 = some (.bool (m19_0 o p0 p1), m19_h o p0 p1) := by
  unfold m19_ok k19 at h
  unfold m19_0 g19_0 m19_h
  generalize f19 o 2000000 p0 p1 = r at h ⊢
  split at h
  · rfl
  · cases h

noncomputable def e19 (o : FO) : List (AV o) → Heap o → Tr (AV o)
  | [.nilslice, .slice 0 0 p0 3], [.live _ true p1] => .br (m19_ok o p0 p1) (.leaf (.bool (m19_0 o p0 p1))) .fail
  | _, _ => .fail
theorem ok19 (N : Nat) (hN : 4096 ≤ N) : CalOk Try.prog 19 (.ro (e19 ieee)) := by
  refine calOk_ro (cok19 2000000 (by decide)) (is19 2000000) ?_
  intro args h av hg
  unfold e19 at hg
  split at hg
  · obtain ⟨h0, hg⟩ := br_get hg
    cases hg
    exact ⟨rfl, _, (eq19 ieee 2000000 _ _).trans (val19 ieee _ _ h0)⟩
  · cases hg

/-! loop.example/g01224/laws.sameFloat -/
noncomputable def f30 (o : FO) (p0 : o.D) (p1 : o.D) : R o :=
  let v1 : Bool := !(o.deq p0 p0)
  bif v1 then
    bif v1 then
      bif !(o.deq p1 p1) then
        some (.bool true, [])
      else
        some (.bool false, [])
    else
      some (.bool false, [])
  else
    let v2 : Bool := !(o.deq p1 p1)
    bif v2 then
      bif v1 then
        bif v2 then
          some (.bool true, [])
        else
          some (.bool false, [])
      else
        some (.bool false, [])
    else
      bif o.deq p0 (o.dlit 0) then
        bif o.deq p1 (o.dlit 0) then
          some (.bool ((o.dlt (o.dlit 0) (o.ddiv (o.dlit 4607182418800017408) p0)) == (o.dlt (o.dlit 0) (o.ddiv (o.dlit 4607182418800017408) p1))), [])
        else
          some (.bool (o.deq p0 p1), [])
      else
        some (.bool (o.deq p0 p1), [])
noncomputable def c30 (o : FO) (N : Nat) : Cx o :=
  { ty := tab [(4, ty4 o)]
    fn := tab []
    rounds := 4096, nt := 37, base := 0
    loops := [] }
noncomputable def b30 : Code := match Try.f30.body with | some b => b | none => .skip
theorem is30 (N : Nat) : FnIs Try.prog (c30 ieee N) 30 Try.f30 b30 := ⟨by kernel_rfl, by kernel_rfl, by kernel_rfl, by kernel_rfl⟩
theorem eq30 (o : FO) (N : Nat) (p0 : o.D) (p1 : o.D) : afun (c30 o N) Try.f30.results.toList b30 [.f64 p0, .f64 p1] [] = f30 o p0 p1 := by kernel_rfl
theorem cok30 (N : Nat) (hN : 4096 ≤ N) : CtxOk Try.prog (c30 ieee N) := by
  refine ctxOk ?_ ?_ mixed ?_
  · intro p hp
    simp only [List.mem_cons, List.not_mem_nil, or_false] at hp
    subst hp; exact tyOk4
  · intro p hp; cases hp
  · intro p hp; cases hp
noncomputable def m30_0 (o : FO) (p0 : o.D) (p1 : o.D) : Bool :=
  bif o.deq p0 p0 then
    bif o.deq p1 p1 then
      bif o.deq p0 (o.dlit 0) then
        bif o.deq p1 (o.dlit 0) then
          (o.dlt (o.dlit 0) (o.ddiv (o.dlit 4607182418800017408) p0)) == (o.dlt (o.dlit 0) (o.ddiv (o.dlit 4607182418800017408) p1))
        else
          o.deq p0 p1
      else
        o.deq p0 p1
    else
      false
  else
    bif o.deq p1 p1 then
      false
    else
      true
theorem val30 (o : FO) (p0 : o.D) (p1 : o.D) : f30 o p0 p1 = some (.bool (m30_0 o p0 p1), []) := by
  unfold f30 m30_0
  try dsimp only
  cases (o.deq p0 p0)
  · cases (o.deq p1 p1)
    · rfl
    · rfl
  · cases (o.deq p1 p1)
    · rfl
    · cases (o.deq p0 (o.dlit 0))
      · rfl
      · cases (o.deq p1 (o.dlit 0))
        · rfl
        · rfl

noncomputable def e30 (o : FO) : List (AV o) → Tr (AV o)
  | [.f64 p0, .f64 p1] => .leaf (.bool (m30_0 o p0 p1))
  | _ => .fail
theorem ok30 (N : Nat) (hN : 4096 ≤ N) : CalOk Try.prog 30 (.pure (e30 ieee)) := by
  refine calOk_pure (cok30 2000000 (by decide)) (is30 2000000) ?_
  intro args av hg
  unfold e30 at hg
  split at hg
  · cases hg
    exact ⟨rfl, rfl, _, (eq30 ieee 2000000 _ _).trans (val30 ieee _ _)⟩
  · cases hg

/-! loop.example/g01224/laws.eqAir -/
noncomputable def f33 (o : FO) (p0 : o.S) (p1 : o.S) (p2 : o.S) (p3 : o.S) : R o :=
  bif !(m30_0 o (o.s2d p0) (o.s2d p2)) then
    some (.bool false, [])
  else
    bif !(m30_0 o (o.s2d p1) (o.s2d p3)) then
      some (.bool false, [])
    else
      some (.bool true, [])
noncomputable def c33 (o : FO) (N : Nat) : Cx o :=
  { ty := tab [(30, ty30 o), (40, ty40 o), (43, ty43 o)]
    fn := tab [(30, .pure (e30 o))]
    rounds := 4096, nt := 21, base := 0
    loops := [] }
noncomputable def b33 : Code := match Try.f33.body with | some b => b | none => .skip
theorem is33 (N : Nat) : FnIs Try.prog (c33 ieee N) 33 Try.f33 b33 := ⟨by kernel_rfl, by kernel_rfl, by kernel_rfl, by kernel_rfl⟩
theorem eq33 (o : FO) (N : Nat) (p0 : o.S) (p1 : o.S) (p2 : o.S) (p3 : o.S) : afun (c33 o N) Try.f33.results.toList b33 [.agg [.f32 p0, .f32 p1], .agg [.f32 p2, .f32 p3]] [] = f33 o p0 p1 p2 p3 := by kernel_rfl
theorem cok33 (N : Nat) (hN : 4096 ≤ N) : CtxOk Try.prog (c33 ieee N) := by
  refine ctxOk ?_ ?_ mixed ?_
  · intro p hp
    simp only [List.mem_cons, List.not_mem_nil, or_false] at hp
    rcases hp with rfl | rfl | rfl
    · exact tyOk30
    · exact tyOk40
    · exact tyOk43
  · intro p hp
    simp only [List.mem_cons, List.not_mem_nil, or_false] at hp
    subst hp; exact ok30 N hN
  · intro p hp; cases hp
noncomputable def m33_0 (o : FO) (p0 : o.S) (p1 : o.S) (p2 : o.S) (p3 : o.S) : Bool :=
  bif m30_0 o (o.s2d p0) (o.s2d p2) then
    m30_0 o (o.s2d p1) (o.s2d p3)
  else
    false
theorem val33 (o : FO) (p0 : o.S) (p1 : o.S) (p2 : o.S) (p3 : o.S) : f33 o p0 p1 p2 p3 = some (.bool (m33_0 o p0 p1 p2 p3), []) := by
  unfold f33 m33_0
  try dsimp only
  cases (m30_0 o (o.s2d p0) (o.s2d p2))
  · rfl
  · cases (m30_0 o (o.s2d p1) (o.s2d p3))
    · rfl
    · rfl

noncomputable def e33 (o : FO) : List (AV o) → Tr (AV o)
  | [.agg [.f32 p0, .f32 p1], .agg [.f32 p2, .f32 p3]] => .leaf (.bool (m33_0 o p0 p1 p2 p3))
  | _ => .fail
theorem ok33 (N : Nat) (hN : 4096 ≤ N) : CalOk Try.prog 33 (.pure (e33 ieee)) := by
  refine calOk_pure (cok33 2000000 (by decide)) (is33 2000000) ?_
  intro args av hg
  unfold e33 at hg
  split at hg
  · cases hg
    exact ⟨rfl, rfl, _, (eq33 ieee 2000000 _ _ _ _).trans (val33 ieee _ _ _ _)⟩
  · cases hg

/-! loop.example/g01224/laws.eqLevel -/
noncomputable def f57 (o : FO) (p0 : o.S) (p1 : o.S) (p2 : o.S) (p3 : o.S) (p4 : o.S) (p5 : o.S) : R o :=
  bif !(m30_0 o (o.s2d p0) (o.s2d p3)) then
    some (.bool false, [])
  else
    bif !(m33_0 o p1 p2 p4 p5) then
      some (.bool false, [])
    else
      some (.bool true, [])
noncomputable def c57 (o : FO) (N : Nat) : Cx o :=
  { ty := tab [(30, ty30 o), (40, ty40 o), (43, ty43 o), (66, ty66 o)]
    fn := tab [(30, .pure (e30 o)), (33, .pure (e33 o))]
    rounds := 4096, nt := 19, base := 0
    loops := [] }
noncomputable def b57 : Code := match Try.f57.body with | some b => b | none => .skip
theorem is57 (N : Nat) : FnIs Try.prog (c57 ieee N) 57 Try.f57 b57 := ⟨by kernel_rfl, by kernel_rfl, by kernel_rfl, by kernel_rfl⟩
theorem eq57 (o : FO) (N : Nat) (p0 : o.S) (p1 : o.S) (p2 : o.S) (p3 : o.S) (p4 : o.S) (p5 : o.S) : afun (c57 o N) Try.f57.results.toList b57 [.agg [.f32 p0, .f32 p1, .f32 p2], .agg [.f32 p3, .f32 p4, .f32 p5]] [] = f57 o p0 p1 p2 p3 p4 p5 := by kernel_rfl
theorem cok57 (N : Nat) (hN : 4096 ≤ N) : CtxOk Try.prog (c57 ieee N) := by
  refine ctxOk ?_ ?_ mixed ?_
  · intro p hp
    simp only [List.mem_cons, List.not_mem_nil, or_false] at hp
    rcases hp with rfl | rfl | rfl | rfl
    · exact tyOk30
    · exact tyOk40
    · exact tyOk43
    · exact tyOk66
  · intro p hp
    simp only [List.mem_cons, List.not_mem_nil, or_false] at hp
    rcases hp with rfl | rfl
    · exact ok30 N hN
    · exact ok33 N hN
  · intro p hp; cases hp
noncomputable def m57_0 (o : FO) (p0 : o.S) (p1 : o.S) (p2 : o.S) (p3 : o.S) (p4 : o.S) (p5 : o.S) : Bool :=
  bif m30_0 o (o.s2d p0) (o.s2d p3) then
    m33_0 o p1 p2 p4 p5
  else
    false
theorem val57 (o : FO) (p0 : o.S) (p1 : o.S) (p2 : o.S) (p3 : o.S) (p4 : o.S) (p5 : o.S) : f57 o p0 p1 p2 p3 p4 p5 = some (.bool (m57_0 o p0 p1 p2 p3 p4 p5), []) := by
  unfold f57 m57_0
  try dsimp only
  cases (m30_0 o (o.s2d p0) (o.s2d p3))
  · rfl
  · cases (m33_0 o p1 p2 p4 p5)
    · rfl
    · rfl

noncomputable def e57 (o : FO) : List (AV o) → Tr (AV o)
  | [.agg [.f32 p0, .f32 p1, .f32 p2], .agg [.f32 p3, .f32 p4, .f32 p5]] => .leaf (.bool (m57_0 o p0 p1 p2 p3 p4 p5))
  | _ => .fail
theorem ok57 (N : Nat) (hN : 4096 ≤ N) : CalOk Try.prog 57 (.pure (e57 ieee)) := by
  refine calOk_pure (cok57 2000000 (by decide)) (is57 2000000) ?_
  intro args av hg
  unfold e57 at hg
  split at hg
  · cases hg
    exact ⟨rfl, rfl, _, (eq57 ieee 2000000 _ _ _ _ _ _).trans (val57 ieee _ _ _ _ _ _)⟩
  · cases hg

/-! loop.example/g01224/laws.eqLevelS -/
noncomputable def f19a_L0 (o : FO) (N : Nat) (s0 : Nat × Nat × Int × List (AV o) × List (AV o) → R o) (a : Nat × Nat × Int × List (AV o) × List (AV o)) : R o :=
  bif decide (a.2.2.1 < ((a.1 : Nat) : Int)) then
    gd (decide (0 ≤ a.2.2.1) && decide (a.2.2.1 < ((a.1 : Nat) : Int))) (
    rdS a.2.2.2.1 (0 + (((a.2.2.1).toNat) * 3)) fun x1 =>
    rdS a.2.2.2.1 ((0 + (((a.2.2.1).toNat) * 3)) + 1) fun x2 =>
    rdS a.2.2.2.1 (((0 + (((a.2.2.1).toNat) * 3)) + 1) + 1) fun x3 =>
    gd (decide (0 ≤ a.2.2.1) && decide (a.2.2.1 < ((a.2.1 : Nat) : Int))) (
    rdS a.2.2.2.2 (0 + (((a.2.2.1).toNat) * 3)) fun x4 =>
    rdS a.2.2.2.2 ((0 + (((a.2.2.1).toNat) * 3)) + 1) fun x5 =>
    rdS a.2.2.2.2 (((0 + (((a.2.2.1).toNat) * 3)) + 1) + 1) fun x6 =>
    bif !(m57_0 o x1 x2 x3 x4 x5 x6) then
      some (.bool false, [.live false true a.2.2.2.1, .live false true a.2.2.2.2])
    else
      s0 (a.1, a.2.1, IntKind.wrap .i64 (a.2.2.1 + (1 : Int)), a.2.2.2.1, a.2.2.2.2)))
  else
    some (.bool true, [.live false true a.2.2.2.1, .live false true a.2.2.2.2])
noncomputable def f19a_D0 (o : FO) (vs : List (AV o)) (h : Heap o) : Option (Nat × Nat × Int × List (AV o) × List (AV o)) :=
  match vs, h with
  | [.slice 0 0 a0_0 3, .slice 1 0 a0_1 3, .int .i64 a0_2], [.live false true a0_3, .live false true a0_4] => some (a0_0, a0_1, a0_2, a0_3, a0_4)
  | _, _ => none
noncomputable def f19a_E0 (o : FO) (a : Nat × Nat × Int × List (AV o) × List (AV o)) : List (AV o) × Heap o := ([.slice 0 0 a.1 3, .slice 1 0 a.2.1 3, .int .i64 a.2.2.1], [.live false true a.2.2.2.1, .live false true a.2.2.2.2])
theorem f19a_DE0 (o : FO) : ∀ vs h a, f19a_D0 o vs h = some a → f19a_E0 o a = (vs, h) := by
  intro vs h a hx
  unfold f19a_D0 at hx
  split at hx
  · cases hx; rfl
  · cases hx
noncomputable def f19a (o : FO) (N : Nat) (p0 : Nat) (p1 : Nat) (p2 : List (AV o)) (p3 : List (AV o)) : R o :=
  bif ((p0 : Nat) : Int) != ((p1 : Nat) : Int) then
    some (.bool false, [.live false true p2, .live false true p3])
  else
    iter (f19a_L0 o N) N (p0, p1, (0 : Int), p2, p3)
noncomputable def c19a (o : FO) (N : Nat) : Cx o :=
  { ty := tab [(25, ty25 o), (66, ty66 o)]
    fn := tab [(57, .pure (e57 o))]
    rounds := N, nt := 27, base := 2
    loops := [loopD [0, 1, 5] (f19a_D0 o) (f19a_E0 o)] }
theorem is19a (N : Nat) : FnIs Try.prog (c19a ieee N) 19 Try.f19 b19 := ⟨by kernel_rfl, by kernel_rfl, by kernel_rfl, by kernel_rfl⟩
theorem eq19a (o : FO) (N : Nat) (p0 : Nat) (p1 : Nat) (p2 : List (AV o)) (p3 : List (AV o)) : afun (c19a o N) Try.f19.results.toList b19 [.slice 0 0 p0 3, .slice 1 0 p1 3] [.live false true p2, .live false true p3] = f19a o N p0 p1 p2 p3 := by kernel_rfl
theorem cok19a (N : Nat) (hN : 4096 ≤ N) : CtxOk Try.prog (c19a ieee N) := by
  refine ctxOk ?_ ?_ mixed ?_
  · intro p hp
    simp only [List.mem_cons, List.not_mem_nil, or_false] at hp
    rcases hp with rfl | rfl
    · exact tyOk25
    · exact tyOk66
  · intro p hp
    simp only [List.mem_cons, List.not_mem_nil, or_false] at hp
    subst hp; exact ok57 N hN
  · intro p hp
    simp only [List.mem_cons, List.not_mem_nil, or_false] at hp
    subst hp; exact loopD_ok _ _ _ (f19a_DE0 ieee)
noncomputable def m19a_h (o : FO) (p0 : Nat) (p1 : Nat) (p2 : List (AV o)) (p3 : List (AV o)) : Heap o := match f19a o 2000000 p0 p1 p2 p3 with | some (_, h) => h | _ => []
noncomputable def k19a (o : FO) : R o → Bool := fun r => match r with | some (.bool _, _) => true | _ => false
theorem k19a_c (o : FO) (b : Bool) (x y : R o) : k19a o (bif b then x else y) = bif b then k19a o x else k19a o y := by cases b <;> rfl
noncomputable def m19a_ok (o : FO) (p0 : Nat) (p1 : Nat) (p2 : List (AV o)) (p3 : List (AV o)) : Bool := k19a o (f19a o 2000000 p0 p1 p2 p3)
noncomputable def g19a_0 (o : FO) : R o → Bool := fun r => match r with | some (.bool r0, _) => r0 | _ => false
theorem g19a_0c (o : FO) (b : Bool) (x y : R o) : g19a_0 o (bif b then x else y) = bif b then g19a_0 o x else g19a_0 o y := by cases b <;> rfl
noncomputable def m19a_0 (o : FO) (p0 : Nat) (p1 : Nat) (p2 : List (AV o)) (p3 : List (AV o)) : Bool := g19a_0 o (f19a o 2000000 p0 p1 p2 p3)
theorem val19a (o : FO) (p0 : Nat) (p1 : Nat) (p2 : List (AV o)) (p3 : List (AV o)) (h : m19a_ok o p0 p1 p2 p3 = true) : f19a o 2000000 p0 p1 p2 p3 = some (.bool (m19a_0 o p0 p1 p2 p3), m19a_h o p0 p1 p2 p3) := by
  unfold m19a_ok k19a at h
  unfold m19a_0 g19a_0 m19a_h
  generalize f19a o 2000000 p0 p1 p2 p3 = r at h ⊢
  split at h
  · rfl
  · cases h

noncomputable def e19as (o : FO) : List (AV o) → Heap o → Tr (AV o)
  | [.slice 0 0 p0 3, .slice 1 0 p1 3], [.live _ true p2, .live _ true p3] => .br (m19a_ok o p0 p1 p2 p3) (.leaf (.bool (m19a_0 o p0 p1 p2 p3))) .fail
  | _, _ => .fail
theorem ok19as (N : Nat) (hN : 4096 ≤ N) : CalOk Try.prog 19 (.ro (e19as ieee)) := by
  refine calOk_ro (cok19a 2000000 (by decide)) (is19a 2000000) ?_
  intro args h av hg
  unfold e19as at hg
  split at hg
  · obtain ⟨h0, hg⟩ := br_get hg
    cases hg
    exact ⟨rfl, _, (eq19a ieee 2000000 _ _ _ _).trans (val19a ieee _ _ _ _ h0)⟩
  · cases hg
noncomputable def e19s (o : FO) : List (AV o) → Heap o → Tr (AV o)
  | [.nilslice, .slice 0 0 p0 3], [.live _ true p1] => .br (m19_ok o p0 p1) (.leaf (.bool (m19_0 o p0 p1))) .fail
  | _, _ => .fail
theorem ok19s (N : Nat) (hN : 4096 ≤ N) : CalOk Try.prog 19 (.ro (e19s ieee)) := by
  refine calOk_ro (cok19 2000000 (by decide)) (is19 2000000) ?_
  intro args h av hg
  unfold e19s at hg
  split at hg
  · obtain ⟨h0, hg⟩ := br_get hg
    cases hg
    exact ⟨rfl, _, (eq19 ieee 2000000 _ _).trans (val19 ieee _ _ h0)⟩
  · cases hg
noncomputable def e19v1 (o : FO) : List (AV o) → Heap o → Tr (AV o)
  | [.nilslice, .slice 0 0 p0 3], [.live _ true p1] => .br (m19_ok o p0 p1) (.leaf (.bool (m19_0 o p0 p1))) .fail
  | [.slice 0 0 p0 3, .slice 1 0 p1 3], [.live _ true p2, .live _ true p3] => .br (m19a_ok o p0 p1 p2 p3) (.leaf (.bool (m19a_0 o p0 p1 p2 p3))) .fail
  | _, _ => .fail
theorem ok19v1 (N : Nat) (hN : 4096 ≤ N) : CalOk Try.prog 19 (.ro (e19v1 ieee)) := by
  intro args h av hg
  unfold e19v1 at hg
  split at hg
  · exact ok19s N hN _ _ av hg
  · exact ok19as N hN _ _ av hg
  · cases hg

/-! loop.example/g01224/laws.markLevelS -/
noncomputable def f24_L0 (o : FO) (N : Nat) (s0 : Nat × Int × Int × List (AV o) → R o) (a : Nat × Int × Int × List (AV o)) : R o :=
  bif decide (a.2.2.1 < ((a.1 : Nat) : Int)) then
    gd (decide (0 ≤ a.2.2.1) && decide (a.2.2.1 < ((a.1 : Nat) : Int))) (
    wr1 a.2.2.2 ((0 + (((a.2.2.1).toNat) * 3)) + 0) (.f32 (o.sofi a.2.1)) fun c1 =>
    let v1 : Int := IntKind.wrap .i64 (a.2.1 + (1 : Int))
    gd (decide (0 ≤ a.2.2.1) && decide (a.2.2.1 < ((a.1 : Nat) : Int))) (
    wr1 c1 (((0 + (((a.2.2.1).toNat) * 3)) + 1) + 0) (.f32 (o.sofi v1)) fun c2 =>
    let v2 : Int := IntKind.wrap .i64 (v1 + (1 : Int))
    gd (decide (0 ≤ a.2.2.1) && decide (a.2.2.1 < ((a.1 : Nat) : Int))) (
    wr1 c2 (((0 + (((a.2.2.1).toNat) * 3)) + 1) + 1) (.f32 (o.sofi v2)) fun c3 =>
    s0 (a.1, IntKind.wrap .i64 (v2 + (1 : Int)), IntKind.wrap .i64 (a.2.2.1 + (1 : Int)), c3))))
  else
    some (.int .i64 a.2.1, [.live true true a.2.2.2])
noncomputable def f24_D0 (o : FO) (vs : List (AV o)) (h : Heap o) : Option (Nat × Int × Int × List (AV o)) :=
  match vs, h with
  | [.slice 0 0 a0_0 3, .int .i64 a0_1, .int .i64 a0_2], [.live true true a0_3] => some (a0_0, a0_1, a0_2, a0_3)
  | _, _ => none
noncomputable def f24_E0 (o : FO) (a : Nat × Int × Int × List (AV o)) : List (AV o) × Heap o := ([.slice 0 0 a.1 3, .int .i64 a.2.1, .int .i64 a.2.2.1], [.live true true a.2.2.2])
theorem f24_DE0 (o : FO) : ∀ vs h a, f24_D0 o vs h = some a → f24_E0 o a = (vs, h) := by
  intro vs h a hx
  unfold f24_D0 at hx
  split at hx
  · cases hx; rfl
  · cases hx
noncomputable def f24 (o : FO) (N : Nat) (p0 : Nat) (p1 : Int) (p2 : List (AV o)) : R o :=
  iter (f24_L0 o N) N (p0, p1, (0 : Int), p2)
noncomputable def c24 (o : FO) (N : Nat) : Cx o :=
  { ty := tab [(3, ty3 o), (25, ty25 o), (30, ty30 o), (43, ty43 o), (66, ty66 o)]
    fn := tab []
    rounds := N, nt := 39, base := 1
    loops := [loopD [0, 1, 5] (f24_D0 o) (f24_E0 o)] }
noncomputable def b24 : Code := match Try.f24.body with | some b => b | none => .skip
theorem is24 (N : Nat) : FnIs Try.prog (c24 ieee N) 24 Try.f24 b24 := ⟨by kernel_rfl, by kernel_rfl, by kernel_rfl, by kernel_rfl⟩
theorem eq24 (o : FO) (N : Nat) (p0 : Nat) (p1 : Int) (p2 : List (AV o)) : afun (c24 o N) Try.f24.results.toList b24 [.slice 0 0 p0 3, .int .i64 p1] [.live true true p2] = f24 o N p0 p1 p2 := by kernel_rfl
theorem cok24 (N : Nat) (hN : 4096 ≤ N) : CtxOk Try.prog (c24 ieee N) := by
  refine ctxOk ?_ ?_ mixed ?_
  · intro p hp
    simp only [List.mem_cons, List.not_mem_nil, or_false] at hp
    rcases hp with rfl | rfl | rfl | rfl | rfl
    · exact tyOk3
    · exact tyOk25
    · exact tyOk30
    · exact tyOk43
    · exact tyOk66
  · intro p hp; cases hp
  · intro p hp
    simp only [List.mem_cons, List.not_mem_nil, or_false] at hp
    subst hp; exact loopD_ok _ _ _ (f24_DE0 ieee)
noncomputable def k24 (o : FO) : R o → Bool := fun r => match r with | some (.int .i64 _, [.live true true _]) => true | _ => false
theorem k24_c (o : FO) (b : Bool) (x y : R o) : k24 o (bif b then x else y) = bif b then k24 o x else k24 o y := by cases b <;> rfl
noncomputable def m24_ok (o : FO) (p0 : Nat) (p1 : Int) (p2 : List (AV o)) : Bool := k24 o (f24 o 2000000 p0 p1 p2)
noncomputable def g24_0 (o : FO) : R o → Int := fun r => match r with | some (.int .i64 r0, [.live true true _]) => r0 | _ => 0
theorem g24_0c (o : FO) (b : Bool) (x y : R o) : g24_0 o (bif b then x else y) = bif b then g24_0 o x else g24_0 o y := by cases b <;> rfl
noncomputable def m24_0 (o : FO) (p0 : Nat) (p1 : Int) (p2 : List (AV o)) : Int := g24_0 o (f24 o 2000000 p0 p1 p2)
noncomputable def g24_1 (o : FO) : R o → List (AV o) := fun r => match r with | some (.int .i64 _, [.live true true r1]) => r1 | _ => []
theorem g24_1c (o : FO) (b : Bool) (x y : R o) : g24_1 o (bif b then x else y) = bif b then g24_1 o x else g24_1 o y := by cases b <;> rfl
noncomputable def m24_1 (o : FO) (p0 : Nat) (p1 : Int) (p2 : List (AV o)) : List (AV o) := g24_1 o (f24 o 2000000 p0 p1 p2)
theorem val24 (o : FO) (p0 : Nat) (p1 : Int) (p2 : List (AV o)) (h : m24_ok o p0 p1 p2 = true) : f24 o 2000000 p0 p1 p2 = some (.int .i64 (m24_0 o p0 p1 p2), [.live true true (m24_1 o p0 p1 p2)]) := by
  unfold m24_ok k24 at h
  unfold m24_0 g24_0 m24_1 g24_1
  generalize f24 o 2000000 p0 p1 p2 = r at h ⊢
  split at h
  · rfl
  · cases h

noncomputable def e24 (o : FO) : List (AV o) → Heap o → Tr (AV o × Heap o)
  | [.slice 0 0 p0 3, .int .i64 p1], [.live true true p2] => .br (m24_ok o p0 p1 p2) (.leaf ((.int .i64 (m24_0 o p0 p1 p2), [.live true true (m24_1 o p0 p1 p2)]))) .fail
  | _, _ => .fail
theorem ok24 (N : Nat) (hN : 4096 ≤ N) : CalOk Try.prog 24 (.rw (e24 ieee)) := by
  refine calOk_rw (cok24 2000000 (by decide)) (is24 2000000) ?_
  intro args h av h2 hg
  unfold e24 at hg
  split at hg
  · obtain ⟨h0, hg⟩ := br_get hg
    cases hg
    exact (eq24 ieee 2000000 _ _ _).trans (val24 ieee _ _ _ h0)
  · cases hg

/-! loop.example/g01224/laws.markLevelS -/
noncomputable def f24a_L0 (o : FO) (N : Nat) (s0 : Int × Int → R o) (a : Int × Int) : R o :=
  bif decide (a.2 < (0 : Int)) then
    none
  else
    some (.int .i64 a.1, [])
noncomputable def f24a_D0 (o : FO) (vs : List (AV o)) (h : Heap o) : Option (Int × Int) :=
  match vs, h with
  | [.nilslice, .int .i64 a0_0, .int .i64 a0_1], [] => some (a0_0, a0_1)
  | _, _ => none
noncomputable def f24a_E0 (o : FO) (a : Int × Int) : List (AV o) × Heap o := ([.nilslice, .int .i64 a.1, .int .i64 a.2], [])
theorem f24a_DE0 (o : FO) : ∀ vs h a, f24a_D0 o vs h = some a → f24a_E0 o a = (vs, h) := by
  intro vs h a hx
  unfold f24a_D0 at hx
  split at hx
  · cases hx; rfl
  · cases hx
noncomputable def f24a (o : FO) (N : Nat) (p0 : Int) : R o :=
  iter (f24a_L0 o N) N (p0, (0 : Int))
noncomputable def c24a (o : FO) (N : Nat) : Cx o :=
  { ty := tab [(3, ty3 o), (25, ty25 o), (30, ty30 o)]
    fn := tab []
    rounds := N, nt := 39, base := 0
    loops := [loopD [0, 1, 5] (f24a_D0 o) (f24a_E0 o)] }
theorem is24a (N : Nat) : FnIs Try.prog (c24a ieee N) 24 Try.f24 b24 := ⟨by kernel_rfl, by kernel_rfl, by kernel_rfl, by kernel_rfl⟩
theorem eq24a (o : FO) (N : Nat) (p0 : Int) : afun (c24a o N) Try.f24.results.toList b24 [.nilslice, .int .i64 p0] [] = f24a o N p0 := by kernel_rfl
theorem cok24a (N : Nat) (hN : 4096 ≤ N) : CtxOk Try.prog (c24a ieee N) := by
  refine ctxOk ?_ ?_ mixed ?_
  · intro p hp
    simp only [List.mem_cons, List.not_mem_nil, or_false] at hp
    rcases hp with rfl | rfl | rfl
    · exact tyOk3
    · exact tyOk25
    · exact tyOk30
  · intro p hp; cases hp
  · intro p hp
    simp only [List.mem_cons, List.not_mem_nil, or_false] at hp
    subst hp; exact loopD_ok _ _ _ (f24a_DE0 ieee)
noncomputable def k24a (o : FO) : R o → Bool := fun r => match r with | some (.int .i64 _, []) => true | _ => false
theorem k24a_c (o : FO) (b : Bool) (x y : R o) : k24a o (bif b then x else y) = bif b then k24a o x else k24a o y := by cases b <;> rfl
noncomputable def m24a_ok (o : FO) (p0 : Int) : Bool := k24a o (f24a o 2000000 p0)
noncomputable def g24a_0 (o : FO) : R o → Int := fun r => match r with | some (.int .i64 r0, []) => r0 | _ => 0
theorem g24a_0c (o : FO) (b : Bool) (x y : R o) : g24a_0 o (bif b then x else y) = bif b then g24a_0 o x else g24a_0 o y := by cases b <;> rfl
noncomputable def m24a_0 (o : FO) (p0 : Int) : Int := g24a_0 o (f24a o 2000000 p0)
theorem val24a (o : FO) (p0 : Int) (h : m24a_ok o p0 = true) : f24a o 2000000 p0 = some (.int .i64 (m24a_0 o p0), []) := by
  unfold m24a_ok k24a at h
  unfold m24a_0 g24a_0
  generalize f24a o 2000000 p0 = r at h ⊢
  split at h
  · rfl
  · cases h

noncomputable def e24as (o : FO) : List (AV o) → Heap o → Tr (AV o × Heap o)
  | [.nilslice, .int .i64 p0], [] => .br (m24a_ok o p0) (.leaf ((.int .i64 (m24a_0 o p0), []))) .fail
  | _, _ => .fail
theorem ok24as (N : Nat) (hN : 4096 ≤ N) : CalOk Try.prog 24 (.rw (e24as ieee)) := by
  refine calOk_rw (cok24a 2000000 (by decide)) (is24a 2000000) ?_
  intro args h av h2 hg
  unfold e24as at hg
  split at hg
  · obtain ⟨h0, hg⟩ := br_get hg
    cases hg
    exact (eq24a ieee 2000000 _).trans (val24a ieee _ h0)
  · cases hg
noncomputable def e24s (o : FO) : List (AV o) → Heap o → Tr (AV o × Heap o)
  | [.slice 0 0 p0 3, .int .i64 p1], [.live true true p2] => .br (m24_ok o p0 p1 p2) (.leaf ((.int .i64 (m24_0 o p0 p1 p2), [.live true true (m24_1 o p0 p1 p2)]))) .fail
  | _, _ => .fail
theorem ok24s (N : Nat) (hN : 4096 ≤ N) : CalOk Try.prog 24 (.rw (e24s ieee)) := by
  refine calOk_rw (cok24 2000000 (by decide)) (is24 2000000) ?_
  intro args h av h2 hg
  unfold e24s at hg
  split at hg
  · obtain ⟨h0, hg⟩ := br_get hg
    cases hg
    exact (eq24 ieee 2000000 _ _ _).trans (val24 ieee _ _ _ h0)
  · cases hg
noncomputable def e24v1 (o : FO) : List (AV o) → Heap o → Tr (AV o × Heap o)
  | [.slice 0 0 p0 3, .int .i64 p1], [.live true true p2] => .br (m24_ok o p0 p1 p2) (.leaf ((.int .i64 (m24_0 o p0 p1 p2), [.live true true (m24_1 o p0 p1 p2)]))) .fail
  | [.nilslice, .int .i64 p0], [] => .br (m24a_ok o p0) (.leaf ((.int .i64 (m24a_0 o p0), []))) .fail
  | _, _ => .fail
theorem ok24v1 (N : Nat) (hN : 4096 ≤ N) : CalOk Try.prog 24 (.rw (e24v1 ieee)) := by
  intro args h av h2 hg
  unfold e24v1 at hg
  split at hg
  · exact ok24s N hN _ _ av h2 hg
  · exact ok24as N hN _ _ av h2 hg
  · cases hg

/-! loop.example/g01224/laws.heldLevelS -/
noncomputable def f25_L0 (o : FO) (N : Nat) (s0 : Int × Int → R o) (a : Int × Int) : R o :=
  bif decide (a.2 < (0 : Int)) then
    none
  else
    some (.int .i64 a.1, [])
noncomputable def f25_D0 (o : FO) (vs : List (AV o)) (h : Heap o) : Option (Int × Int) :=
  match vs, h with
  | [.nilslice, .int .i64 a0_0, .int .i64 a0_1], [] => some (a0_0, a0_1)
  | _, _ => none
noncomputable def f25_E0 (o : FO) (a : Int × Int) : List (AV o) × Heap o := ([.nilslice, .int .i64 a.1, .int .i64 a.2], [])
theorem f25_DE0 (o : FO) : ∀ vs h a, f25_D0 o vs h = some a → f25_E0 o a = (vs, h) := by
  intro vs h a hx
  unfold f25_D0 at hx
  split at hx
  · cases hx; rfl
  · cases hx
noncomputable def f25 (o : FO) (N : Nat) (p0 : Int) : R o :=
  iter (f25_L0 o N) N (p0, (0 : Int))
noncomputable def c25 (o : FO) (N : Nat) : Cx o :=
  { ty := tab [(25, ty25 o)]
    fn := tab []
    rounds := N, nt := 45, base := 0
    loops := [loopD [0, 1, 5] (f25_D0 o) (f25_E0 o)] }
noncomputable def b25 : Code := match Try.f25.body with | some b => b | none => .skip
theorem is25 (N : Nat) : FnIs Try.prog (c25 ieee N) 25 Try.f25 b25 := ⟨by kernel_rfl, by kernel_rfl, by kernel_rfl, by kernel_rfl⟩
theorem eq25 (o : FO) (N : Nat) (p0 : Int) : afun (c25 o N) Try.f25.results.toList b25 [.nilslice, .int .i64 p0] [] = f25 o N p0 := by kernel_rfl
theorem cok25 (N : Nat) (hN : 4096 ≤ N) : CtxOk Try.prog (c25 ieee N) := by
  refine ctxOk ?_ ?_ mixed ?_
  · intro p hp
    simp only [List.mem_cons, List.not_mem_nil, or_false] at hp
    subst hp; exact tyOk25
  · intro p hp; cases hp
  · intro p hp
    simp only [List.mem_cons, List.not_mem_nil, or_false] at hp
    subst hp; exact loopD_ok _ _ _ (f25_DE0 ieee)
noncomputable def m25_h (o : FO) (p0 : Int) : Heap o := match f25 o 2000000 p0 with | some (_, h) => h | _ => []
noncomputable def k25 (o : FO) : R o → Bool := fun r => match r with | some (.int .i64 _, _) => true | _ => false
theorem k25_c (o : FO) (b : Bool) (x y : R o) : k25 o (bif b then x else y) = bif b then k25 o x else k25 o y := by cases b <;> rfl
noncomputable def m25_ok (o : FO) (p0 : Int) : Bool := k25 o (f25 o 2000000 p0)
noncomputable def g25_0 (o : FO) : R o → Int := fun r => match r with | some (.int .i64 r0, _) => r0 | _ => 0
theorem g25_0c (o : FO) (b : Bool) (x y : R o) : g25_0 o (bif b then x else y) = bif b then g25_0 o x else g25_0 o y := by cases b <;> rfl
noncomputable def m25_0 (o : FO) (p0 : Int) : Int := g25_0 o (f25 o 2000000 p0)
theorem val25 (o : FO) (p0 : Int) (h : m25_ok o p0 = true) : f25 o 2000000 p0 = some (.int .i64 (m25_0 o p0), m25_h o p0) := by
  unfold m25_ok k25 at h
  unfold m25_0 g25_0 m25_h
  generalize f25 o 2000000 p0 = r at h ⊢
  split at h
  · rfl
  · cases h

noncomputable def e25 (o : FO) : List (AV o) → Heap o → Tr (AV o)
  | [.nilslice, .int .i64 p0], [] => .br (m25_ok o p0) (.leaf (.int .i64 (m25_0 o p0))) .fail
  | _, _ => .fail
theorem ok25 (N : Nat) (hN : 4096 ≤ N) : CalOk Try.prog 25 (.ro (e25 ieee)) := by
  refine calOk_ro (cok25 2000000 (by decide)) (is25 2000000) ?_
  intro args h av hg
  unfold e25 at hg
  split at hg
  · obtain ⟨h0, hg⟩ := br_get hg
    cases hg
    exact ⟨rfl, _, (eq25 ieee 2000000 _).trans (val25 ieee _ h0)⟩
  · cases hg

/-! loop.example/g01224/laws.heldLevelS -/
noncomputable def f25a_L0 (o : FO) (N : Nat) (s0 : Nat × Int × Int × List (AV o) → R o) (a : Nat × Int × Int × List (AV o)) : R o :=
  bif decide (a.2.2.1 < ((a.1 : Nat) : Int)) then
    gd (decide (0 ≤ a.2.2.1) && decide (a.2.2.1 < ((a.1 : Nat) : Int))) (
    rdS a.2.2.2 ((0 + (((a.2.2.1).toNat) * 3)) + 0) fun x1 =>
    bif !(o.seq x1 (o.sofi a.2.1)) then
      some (.int .i64 (-1 : Int), [.live false true a.2.2.2])
    else
      let v1 : Int := IntKind.wrap .i64 (a.2.1 + (1 : Int))
      gd (decide (0 ≤ a.2.2.1) && decide (a.2.2.1 < ((a.1 : Nat) : Int))) (
      rdS a.2.2.2 (((0 + (((a.2.2.1).toNat) * 3)) + 1) + 0) fun x2 =>
      bif !(o.seq x2 (o.sofi v1)) then
        some (.int .i64 (-1 : Int), [.live false true a.2.2.2])
      else
        let v2 : Int := IntKind.wrap .i64 (v1 + (1 : Int))
        gd (decide (0 ≤ a.2.2.1) && decide (a.2.2.1 < ((a.1 : Nat) : Int))) (
        rdS a.2.2.2 (((0 + (((a.2.2.1).toNat) * 3)) + 1) + 1) fun x3 =>
        bif !(o.seq x3 (o.sofi v2)) then
          some (.int .i64 (-1 : Int), [.live false true a.2.2.2])
        else
          s0 (a.1, IntKind.wrap .i64 (v2 + (1 : Int)), IntKind.wrap .i64 (a.2.2.1 + (1 : Int)), a.2.2.2))))
  else
    some (.int .i64 a.2.1, [.live false true a.2.2.2])
noncomputable def f25a_D0 (o : FO) (vs : List (AV o)) (h : Heap o) : Option (Nat × Int × Int × List (AV o)) :=
  match vs, h with
  | [.slice 0 0 a0_0 3, .int .i64 a0_1, .int .i64 a0_2], [.live false true a0_3] => some (a0_0, a0_1, a0_2, a0_3)
  | _, _ => none
noncomputable def f25a_E0 (o : FO) (a : Nat × Int × Int × List (AV o)) : List (AV o) × Heap o := ([.slice 0 0 a.1 3, .int .i64 a.2.1, .int .i64 a.2.2.1], [.live false true a.2.2.2])
theorem f25a_DE0 (o : FO) : ∀ vs h a, f25a_D0 o vs h = some a → f25a_E0 o a = (vs, h) := by
  intro vs h a hx
  unfold f25a_D0 at hx
  split at hx
  · cases hx; rfl
  · cases hx
noncomputable def f25a (o : FO) (N : Nat) (p0 : Nat) (p1 : Int) (p2 : List (AV o)) : R o :=
  iter (f25a_L0 o N) N (p0, p1, (0 : Int), p2)
noncomputable def c25a (o : FO) (N : Nat) : Cx o :=
  { ty := tab [(3, ty3 o), (25, ty25 o), (30, ty30 o), (43, ty43 o), (66, ty66 o)]
    fn := tab []
    rounds := N, nt := 45, base := 1
    loops := [loopD [0, 1, 5] (f25a_D0 o) (f25a_E0 o)] }
theorem is25a (N : Nat) : FnIs Try.prog (c25a ieee N) 25 Try.f25 b25 := ⟨by kernel_rfl, by kernel_rfl, by kernel_rfl, by kernel_rfl⟩
theorem eq25a (o : FO) (N : Nat) (p0 : Nat) (p1 : Int) (p2 : List (AV o)) : afun (c25a o N) Try.f25.results.toList b25 [.slice 0 0 p0 3, .int .i64 p1] [.live false true p2] = f25a o N p0 p1 p2 := by kernel_rfl
theorem cok25a (N : Nat) (hN : 4096 ≤ N) : CtxOk Try.prog (c25a ieee N) := by
  refine ctxOk ?_ ?_ mixed ?_
  · intro p hp
    simp only [List.mem_cons, List.not_mem_nil, or_false] at hp
    rcases hp with rfl | rfl | rfl | rfl | rfl
    · exact tyOk3
    · exact tyOk25
    · exact tyOk30
    · exact tyOk43
    · exact tyOk66
  · intro p hp; cases hp
  · intro p hp
    simp only [List.mem_cons, List.not_mem_nil, or_false] at hp
    subst hp; exact loopD_ok _ _ _ (f25a_DE0 ieee)
noncomputable def m25a_h (o : FO) (p0 : Nat) (p1 : Int) (p2 : List (AV o)) : Heap o := match f25a o 2000000 p0 p1 p2 with | some (_, h) => h | _ => []
noncomputable def k25a (o : FO) : R o → Bool := fun r => match r with | some (.int .i64 _, _) => true | _ => false
theorem k25a_c (o : FO) (b : Bool) (x y : R o) : k25a o (bif b then x else y) = bif b then k25a o x else k25a o y := by cases b <;> rfl
noncomputable def m25a_ok (o : FO) (p0 : Nat) (p1 : Int) (p2 : List (AV o)) : Bool := k25a o (f25a o 2000000 p0 p1 p2)
noncomputable def g25a_0 (o : FO) : R o → Int := fun r => match r with | some (.int .i64 r0, _) => r0 | _ => 0
theorem g25a_0c (o : FO) (b : Bool) (x y : R o) : g25a_0 o (bif b then x else y) = bif b then g25a_0 o x else g25a_0 o y := by cases b <;> rfl
noncomputable def m25a_0 (o : FO) (p0 : Nat) (p1 : Int) (p2 : List (AV o)) : Int := g25a_0 o (f25a o 2000000 p0 p1 p2)
theorem val25a (o : FO) (p0 : Nat) (p1 : Int) (p2 : List (AV o)) (h : m25a_ok o p0 p1 p2 = true) : f25a o 2000000 p0 p1 p2 = some (.int .i64 (m25a_0 o p0 p1 p2), m25a_h o p0 p1 p2) := by
  unfold m25a_ok k25a at h
  unfold m25a_0 g25a_0 m25a_h
  generalize f25a o 2000000 p0 p1 p2 = r at h ⊢
  split at h
  · rfl
  · cases h

noncomputable def e25as (o : FO) : List (AV o) → Heap o → Tr (AV o)
  | [.slice 0 0 p0 3, .int .i64 p1], [.live _ true p2] => .br (m25a_ok o p0 p1 p2) (.leaf (.int .i64 (m25a_0 o p0 p1 p2))) .fail
  | _, _ => .fail
theorem ok25as (N : Nat) (hN : 4096 ≤ N) : CalOk Try.prog 25 (.ro (e25as ieee)) := by
  refine calOk_ro (cok25a 2000000 (by decide)) (is25a 2000000) ?_
  intro args h av hg
  unfold e25as at hg
  split at hg
  · obtain ⟨h0, hg⟩ := br_get hg
    cases hg
    exact ⟨rfl, _, (eq25a ieee 2000000 _ _ _).trans (val25a ieee _ _ _ h0)⟩
  · cases hg
noncomputable def e25s (o : FO) : List (AV o) → Heap o → Tr (AV o)
  | [.nilslice, .int .i64 p0], [] => .br (m25_ok o p0) (.leaf (.int .i64 (m25_0 o p0))) .fail
  | _, _ => .fail
theorem ok25s (N : Nat) (hN : 4096 ≤ N) : CalOk Try.prog 25 (.ro (e25s ieee)) := by
  refine calOk_ro (cok25 2000000 (by decide)) (is25 2000000) ?_
  intro args h av hg
  unfold e25s at hg
  split at hg
  · obtain ⟨h0, hg⟩ := br_get hg
    cases hg
    exact ⟨rfl, _, (eq25 ieee 2000000 _).trans (val25 ieee _ h0)⟩
  · cases hg
noncomputable def e25v1 (o : FO) : List (AV o) → Heap o → Tr (AV o)
  | [.nilslice, .int .i64 p0], [] => .br (m25_ok o p0) (.leaf (.int .i64 (m25_0 o p0))) .fail
  | [.slice 0 0 p0 3, .int .i64 p1], [.live _ true p2] => .br (m25a_ok o p0 p1 p2) (.leaf (.int .i64 (m25a_0 o p0 p1 p2))) .fail
  | _, _ => .fail
theorem ok25v1 (N : Nat) (hN : 4096 ≤ N) : CalOk Try.prog 25 (.ro (e25v1 ieee)) := by
  intro args h av hg
  unfold e25v1 at hg
  split at hg
  · exact ok25s N hN _ _ av hg
  · exact ok25as N hN _ _ av hg
  · cases hg

/-! loop.example/g01224/laws.toLevelS -/
noncomputable def f17a_L0 (o : FO) (N : Nat) (s0 : Nat × Nat × Int × List (AV o) × List (AV o) → R o) (a : Nat × Nat × Int × List (AV o) × List (AV o)) : R o :=
  bif decide (a.2.2.1 < ((a.1 : Nat) : Int)) then
    gd (decide (0 ≤ a.2.2.1) && decide (a.2.2.1 < ((a.1 : Nat) : Int))) (
    rdS a.2.2.2.1 (0 + (((a.2.2.1).toNat) * 3)) fun x1 =>
    rdS a.2.2.2.1 ((0 + (((a.2.2.1).toNat) * 3)) + 1) fun x2 =>
    rdS a.2.2.2.1 (((0 + (((a.2.2.1).toNat) * 3)) + 1) + 1) fun x3 =>
    gd (decide (0 ≤ a.2.2.1) && decide (a.2.2.1 < ((a.2.1 : Nat) : Int))) (
    wrA a.2.2.2.2 (0 + (((a.2.2.1).toNat) * 3)) 3 [.f32 x1, .f32 x2, .f32 x3] fun c4 =>
    s0 (a.1, a.2.1, IntKind.wrap .i64 (a.2.2.1 + (1 : Int)), a.2.2.2.1, c4)))
  else
    some (.slice 1 0 a.2.1 3, [.live true true a.2.2.2.1, .live true true a.2.2.2.2])
noncomputable def f17a_D0 (o : FO) (vs : List (AV o)) (h : Heap o) : Option (Nat × Nat × Int × List (AV o) × List (AV o)) :=
  match vs, h with
  | [.slice 0 0 a0_0 3, .slice 1 0 a0_1 3, .int .i64 a0_2], [.live true true a0_3, .live true true a0_4] => some (a0_0, a0_1, a0_2, a0_3, a0_4)
  | _, _ => none
noncomputable def f17a_E0 (o : FO) (a : Nat × Nat × Int × List (AV o) × List (AV o)) : List (AV o) × Heap o := ([.slice 0 0 a.1 3, .slice 1 0 a.2.1 3, .int .i64 a.2.2.1], [.live true true a.2.2.2.1, .live true true a.2.2.2.2])
theorem f17a_DE0 (o : FO) : ∀ vs h a, f17a_D0 o vs h = some a → f17a_E0 o a = (vs, h) := by
  intro vs h a hx
  unfold f17a_D0 at hx
  split at hx
  · cases hx; rfl
  · cases hx
noncomputable def f17a (o : FO) (N : Nat) (p0 : Nat) (p1 : List (AV o)) : R o :=
  gd (decide (0 ≤ ((p0 : Nat) : Int)) && (decide (((p0 : Nat) : Int) = ((p0 : Nat) : Int)) && (decide (((p0 : Nat) : Int) * ((3 : Nat) : Int) ≤ 16777216) && (decide (((12 : Nat) : Int) * ((p0 : Nat) : Int) ≤ 281474976710656) && decide (((p0 : Nat) : Int) ≤ 9223372036854775807))))) (
  iter (f17a_L0 o N) N (p0, (((p0 : Nat) : Int)).toNat, (0 : Int), p1, zeros [.f32 (o.slit 0), .f32 (o.slit 0), .f32 (o.slit 0)] ((((p0 : Nat) : Int)).toNat)))
noncomputable def c17a (o : FO) (N : Nat) : Cx o :=
  { ty := tab [(22, ty22 o), (25, ty25 o), (66, ty66 o), (73, ty73 o)]
    fn := tab [(53, .pure (e53 o))]
    rounds := N, nt := 23, base := 1
    loops := [loopD [0, 3, 4] (f17a_D0 o) (f17a_E0 o)] }
theorem is17a (N : Nat) : FnIs Try.prog (c17a ieee N) 17 Try.f17 b17 := ⟨by kernel_rfl, by kernel_rfl, by kernel_rfl, by kernel_rfl⟩
theorem eq17a (o : FO) (N : Nat) (p0 : Nat) (p1 : List (AV o)) : afun (c17a o N) Try.f17.results.toList b17 [.slice 0 0 p0 3] [.live true true p1] = f17a o N p0 p1 := by kernel_rfl
theorem cok17a (N : Nat) (hN : 4096 ≤ N) : CtxOk Try.prog (c17a ieee N) := by
  refine ctxOk ?_ ?_ mixed ?_
  · intro p hp
    simp only [List.mem_cons, List.not_mem_nil, or_false] at hp
    rcases hp with rfl | rfl | rfl | rfl
    · exact tyOk22
    · exact tyOk25
    · exact tyOk66
    · exact tyOk73
  · intro p hp
    simp only [List.mem_cons, List.not_mem_nil, or_false] at hp
    subst hp; exact ok53 N hN
  · intro p hp
    simp only [List.mem_cons, List.not_mem_nil, or_false] at hp
    subst hp; exact loopD_ok _ _ _ (f17a_DE0 ieee)
noncomputable def k17a (o : FO) : R o → Bool := fun r => match r with | some (.slice 1 0 _ 3, [.live true true _, .live true true _]) => true | _ => false
theorem k17a_c (o : FO) (b : Bool) (x y : R o) : k17a o (bif b then x else y) = bif b then k17a o x else k17a o y := by cases b <;> rfl
noncomputable def m17a_ok (o : FO) (p0 : Nat) (p1 : List (AV o)) : Bool := k17a o (f17a o 2000000 p0 p1)
noncomputable def g17a_0 (o : FO) : R o → Nat := fun r => match r with | some (.slice 1 0 r0 3, [.live true true _, .live true true _]) => r0 | _ => 0
theorem g17a_0c (o : FO) (b : Bool) (x y : R o) : g17a_0 o (bif b then x else y) = bif b then g17a_0 o x else g17a_0 o y := by cases b <;> rfl
noncomputable def m17a_0 (o : FO) (p0 : Nat) (p1 : List (AV o)) : Nat := g17a_0 o (f17a o 2000000 p0 p1)
noncomputable def g17a_1 (o : FO) : R o → List (AV o) := fun r => match r with | some (.slice 1 0 _ 3, [.live true true r1, .live true true _]) => r1 | _ => []
theorem g17a_1c (o : FO) (b : Bool) (x y : R o) : g17a_1 o (bif b then x else y) = bif b then g17a_1 o x else g17a_1 o y := by cases b <;> rfl
noncomputable def m17a_1 (o : FO) (p0 : Nat) (p1 : List (AV o)) : List (AV o) := g17a_1 o (f17a o 2000000 p0 p1)
noncomputable def g17a_2 (o : FO) : R o → List (AV o) := fun r => match r with | some (.slice 1 0 _ 3, [.live true true _, .live true true r2]) => r2 | _ => []
theorem g17a_2c (o : FO) (b : Bool) (x y : R o) : g17a_2 o (bif b then x else y) = bif b then g17a_2 o x else g17a_2 o y := by cases b <;> rfl
noncomputable def m17a_2 (o : FO) (p0 : Nat) (p1 : List (AV o)) : List (AV o) := g17a_2 o (f17a o 2000000 p0 p1)
theorem val17a (o : FO) (p0 : Nat) (p1 : List (AV o)) (h : m17a_ok o p0 p1 = true) : f17a o 2000000 p0 p1 = some (.slice 1 0 (m17a_0 o p0 p1) 3, [.live true true (m17a_1 o p0 p1), .live true true (m17a_2 o p0 p1)]) := by
  unfold m17a_ok k17a at h
  unfold m17a_0 g17a_0 m17a_1 g17a_1 m17a_2 g17a_2
  generalize f17a o 2000000 p0 p1 = r at h ⊢
  split at h
  · rfl
  · cases h

noncomputable def e17as (o : FO) : List (AV o) → Heap o → Tr (AV o × Heap o)
  | [.slice 0 0 p0 3], [.live true true p1] => .br (m17a_ok o p0 p1) (.leaf ((.slice 1 0 (m17a_0 o p0 p1) 3, [.live true true (m17a_1 o p0 p1), .live true true (m17a_2 o p0 p1)]))) .fail
  | _, _ => .fail
theorem ok17as (N : Nat) (hN : 4096 ≤ N) : CalOk Try.prog 17 (.rw (e17as ieee)) := by
  refine calOk_rw (cok17a 2000000 (by decide)) (is17a 2000000) ?_
  intro args h av h2 hg
  unfold e17as at hg
  split at hg
  · obtain ⟨h0, hg⟩ := br_get hg
    cases hg
    exact (eq17a ieee 2000000 _ _).trans (val17a ieee _ _ h0)
  · cases hg
noncomputable def e17s (o : FO) : List (AV o) → Heap o → Tr (AV o × Heap o)
  | [.slice 0 0 p0 3], [.live false true p1] => .br (m17_ok o p0 p1) (.leaf ((.slice 1 0 (m17_0 o p0 p1) 3, [.live false true (m17_1 o p0 p1), .live true true (m17_2 o p0 p1)]))) .fail
  | _, _ => .fail
theorem ok17s (N : Nat) (hN : 4096 ≤ N) : CalOk Try.prog 17 (.rw (e17s ieee)) := by
  refine calOk_rw (cok17 2000000 (by decide)) (is17 2000000) ?_
  intro args h av h2 hg
  unfold e17s at hg
  split at hg
  · obtain ⟨h0, hg⟩ := br_get hg
    cases hg
    exact (eq17 ieee 2000000 _ _).trans (val17 ieee _ _ h0)
  · cases hg
noncomputable def e17v1 (o : FO) : List (AV o) → Heap o → Tr (AV o × Heap o)
  | [.slice 0 0 p0 3], [.live false true p1] => .br (m17_ok o p0 p1) (.leaf ((.slice 1 0 (m17_0 o p0 p1) 3, [.live false true (m17_1 o p0 p1), .live true true (m17_2 o p0 p1)]))) .fail
  | [.slice 0 0 p0 3], [.live true true p1] => .br (m17a_ok o p0 p1) (.leaf ((.slice 1 0 (m17a_0 o p0 p1) 3, [.live true true (m17a_1 o p0 p1), .live true true (m17a_2 o p0 p1)]))) .fail
  | _, _ => .fail
theorem ok17v1 (N : Nat) (hN : 4096 ≤ N) : CalOk Try.prog 17 (.rw (e17v1 ieee)) := by
  intro args h av h2 hg
  unfold e17v1 at hg
  split at hg
  · exact ok17s N hN _ _ av h2 hg
  · exact ok17as N hN _ _ av h2 hg
  · cases hg

/-! loop.example/g01224/laws.FnExactSteadySounding -/
noncomputable def f12 (o : FO) (p0 : Nat) (p1 : List (AV o)) : R o :=
  bif decide ((m15_0 o p0 (1048576 : Int) p1) < (0 : Int)) then
    some (.bool true, [.live false true p1])
  else
    gd (m17_ok o p0 p1) (
    gd (m41_ok o (m17_0 o p0 p1) (m17_2 o p0 p1)) (
    let v1 : List (AV o) := m41_4 o (m17_0 o p0 p1) (m17_2 o p0 p1)
    let v2 : Int := m41_2 o (m17_0 o p0 p1) (m17_2 o p0 p1)
    let v3 : Int := m41_1 o (m17_0 o p0 p1) (m17_2 o p0 p1)
    let v4 : Nat := m41_0 o (m17_0 o p0 p1) (m17_2 o p0 p1)
    gd (m17_ok o p0 (m17_1 o p0 p1)) (
    let v5 : List (AV o) := m17_2 o p0 (m17_1 o p0 p1)
    let v6 : List (AV o) := m17_1 o p0 (m17_1 o p0 p1)
    let v7 : Nat := m17_0 o p0 (m17_1 o p0 p1)
    bif m42_ok o v7 v5 then
      let v8 : List (AV o) := m42_2 o v7 v5
      let v9 : Int := m42_1 o v7 v5
      let v10 : Int := m42_0 o v7 v5
      gd (m19_ok o v4 v1) (
      let v11 : Bool := m19_0 o v4 v1
      bif v11 then
        let v12 : Bool := v10 != v3
        bif v12 then
          some (.bool false, [.live false true v6])
        else
          let v13 : Bool := v9 != v2
          bif v13 then
            some (.bool false, [.live false true v6])
          else
            gd (m17_ok o p0 v6) (
            let v14 : List (AV o) := m17_2 o p0 v6
            let v15 : List (AV o) := m17_1 o p0 v6
            let v16 : Nat := m17_0 o p0 v6
            gd (m19a_ok o v7 v16 v8 v14) (
            bif !(m19a_0 o v7 v16 v8 v14) then
              some (.bool false, [.live false true v15])
            else
              gd (m24_ok o v7 (1 : Int) v8) (
              bif decide ((m24_0 o v7 (1 : Int) v8) < (0 : Int)) then
                some (.bool false, [.live false true v15])
              else
                gd (m19_ok o v4 v1) (
                bif v11 then
                  bif v12 then
                    some (.bool false, [.live false true v15])
                  else
                    bif v13 then
                      some (.bool false, [.live false true v15])
                    else
                      gd (m24a_ok o (1 : Int)) (
                      gd (m25_ok o (1 : Int)) (
                      let v17 : Bool := decide ((m25_0 o (1 : Int)) < (0 : Int))
                      bif v17 then
                        some (.bool false, [.live false true v15])
                      else
                        let v18 : Bool := (m25_0 o (1 : Int)) != (m24a_0 o (1 : Int))
                        bif v18 then
                          some (.bool false, [.live false true v15])
                        else
                          gd (m17_ok o p0 v15) (
                          let v19 : List (AV o) := m17_2 o p0 v15
                          let v20 : List (AV o) := m17_1 o p0 v15
                          let v21 : Nat := m17_0 o p0 v15
                          bif m42_ok o v21 v19 then
                            gd (m19_ok o v4 v1) (
                            bif v11 then
                              bif (m42_0 o v21 v19) != v3 then
                                some (.bool false, [.live false true v20])
                              else
                                bif (m42_1 o v21 v19) != v2 then
                                  some (.bool false, [.live false true v20])
                                else
                                  gd (m25_ok o (1 : Int)) (
                                  bif v17 then
                                    some (.bool false, [.live false true v20])
                                  else
                                    bif v18 then
                                      some (.bool false, [.live false true v20])
                                    else
                                      some (.bool true, [.live false true v20]))
                            else
                              some (.bool false, [.live false true v20]))
                          else
                            gd (m42_ok1 o v21 v19) (
                            let v22 : List (AV o) := m42_7 o v21 v19
                            let v23 : Nat := m42_3 o v21 v19
                            gd (m19a_ok o v23 v4 v22 v1) (
                            bif m19a_0 o v23 v4 v22 v1 then
                              bif (m42_4 o v21 v19) != v3 then
                                some (.bool false, [.live false true v20])
                              else
                                bif (m42_5 o v21 v19) != v2 then
                                  some (.bool false, [.live false true v20])
                                else
                                  gd (m25_ok o (1 : Int)) (
                                  bif v17 then
                                    some (.bool false, [.live false true v20])
                                  else
                                    bif v18 then
                                      some (.bool false, [.live false true v20])
                                    else
                                      some (.bool true, [.live false true v20]))
                            else
                              some (.bool false, [.live false true v20]))))))
                else
                  some (.bool false, [.live false true v15])))))
      else
        some (.bool false, [.live false true v6]))
    else
      gd (m42_ok1 o v7 v5) (
      let v24 : List (AV o) := m42_7 o v7 v5
      let v25 : List (AV o) := m42_6 o v7 v5
      let v26 : Int := m42_5 o v7 v5
      let v27 : Int := m42_4 o v7 v5
      let v28 : Nat := m42_3 o v7 v5
      gd (m19a_ok o v28 v4 v24 v1) (
      let v29 : Bool := m19a_0 o v28 v4 v24 v1
      bif v29 then
        let v30 : Bool := v27 != v3
        bif v30 then
          some (.bool false, [.live false true v6])
        else
          let v31 : Bool := v26 != v2
          bif v31 then
            some (.bool false, [.live false true v6])
          else
            gd (m17_ok o p0 v6) (
            let v32 : List (AV o) := m17_2 o p0 v6
            let v33 : List (AV o) := m17_1 o p0 v6
            let v34 : Nat := m17_0 o p0 v6
            gd (m19a_ok o v7 v34 v25 v32) (
            bif !(m19a_0 o v7 v34 v25 v32) then
              some (.bool false, [.live false true v33])
            else
              gd (m24_ok o v7 (1 : Int) v25) (
              bif decide ((m24_0 o v7 (1 : Int) v25) < (0 : Int)) then
                some (.bool false, [.live false true v33])
              else
                gd (m19a_ok o v28 v4 v24 v1) (
                bif v29 then
                  bif v30 then
                    some (.bool false, [.live false true v33])
                  else
                    bif v31 then
                      some (.bool false, [.live false true v33])
                    else
                      gd (m24_ok o v28 (1 : Int) v24) (
                      let v35 : List (AV o) := m24_1 o v28 (1 : Int) v24
                      let v36 : Int := m24_0 o v28 (1 : Int) v24
                      gd (m25a_ok o v28 (1 : Int) v35) (
                      let v37 : Int := m25a_0 o v28 (1 : Int) v35
                      let v38 : Bool := decide (v37 < (0 : Int))
                      bif v38 then
                        some (.bool false, [.live false true v33])
                      else
                        let v39 : Bool := v37 != v36
                        bif v39 then
                          some (.bool false, [.live false true v33])
                        else
                          gd (m17_ok o p0 v33) (
                          let v40 : List (AV o) := m17_2 o p0 v33
                          let v41 : List (AV o) := m17_1 o p0 v33
                          let v42 : Nat := m17_0 o p0 v33
                          bif m42_ok o v42 v40 then
                            gd (m19_ok o v4 v1) (
                            bif m19_0 o v4 v1 then
                              bif (m42_0 o v42 v40) != v3 then
                                some (.bool false, [.live false true v41])
                              else
                                bif (m42_1 o v42 v40) != v2 then
                                  some (.bool false, [.live false true v41])
                                else
                                  gd (m25a_ok o v28 (1 : Int) v35) (
                                  bif v38 then
                                    some (.bool false, [.live false true v41])
                                  else
                                    bif v39 then
                                      some (.bool false, [.live false true v41])
                                    else
                                      some (.bool true, [.live false true v41]))
                            else
                              some (.bool false, [.live false true v41]))
                          else
                            gd (m42_ok1 o v42 v40) (
                            let v43 : List (AV o) := m42_7 o v42 v40
                            let v44 : Nat := m42_3 o v42 v40
                            gd (m19a_ok o v44 v4 v43 v1) (
                            bif m19a_0 o v44 v4 v43 v1 then
                              bif (m42_4 o v42 v40) != v3 then
                                some (.bool false, [.live false true v41])
                              else
                                bif (m42_5 o v42 v40) != v2 then
                                  some (.bool false, [.live false true v41])
                                else
                                  gd (m25a_ok o v28 (1 : Int) v35) (
                                  bif v38 then
                                    some (.bool false, [.live false true v41])
                                  else
                                    bif v39 then
                                      some (.bool false, [.live false true v41])
                                    else
                                      some (.bool true, [.live false true v41]))
                            else
                              some (.bool false, [.live false true v41]))))))
                else
                  some (.bool false, [.live false true v33])))))
      else
        some (.bool false, [.live false true v6]))))))
noncomputable def c12 (o : FO) (N : Nat) : Cx o :=
  { ty := tab []
    fn := tab [(15, .ro (e15 o)), (17, .rw (e17v1 o)), (19, .ro (e19v1 o)), (24, .rw (e24v1 o)), (25, .ro (e25v1 o)), (41, .rw (e41 o)), (42, .rw (e42 o))]
    rounds := 4096, nt := 117, base := 1
    loops := [] }
noncomputable def b12 : Code := match Try.f12.body with | some b => b | none => .skip
theorem is12 (N : Nat) : FnIs Try.prog (c12 ieee N) 12 Try.f12 b12 := ⟨by kernel_rfl, by kernel_rfl, by kernel_rfl, by kernel_rfl⟩
theorem eq12 (o : FO) (N : Nat) (p0 : Nat) (p1 : List (AV o)) : afun (c12 o N) Try.f12.results.toList b12 [.slice 0 0 p0 3] [.live false true p1] = f12 o p0 p1 := by kernel_rfl
theorem cok12 (N : Nat) (hN : 4096 ≤ N) : CtxOk Try.prog (c12 ieee N) := by
  refine ctxOk ?_ ?_ mixed ?_
  · intro p hp; cases hp
  · intro p hp
    simp only [List.mem_cons, List.not_mem_nil, or_false] at hp
    rcases hp with rfl | rfl | rfl | rfl | rfl | rfl | rfl
    · exact ok15 N hN
    · exact ok17v1 N hN
    · exact ok19v1 N hN
    · exact ok24v1 N hN
    · exact ok25v1 N hN
    · exact ok41 N hN
    · exact ok42 N hN
  · intro p hp; cases hp
noncomputable def m12_ok (o : FO) (p0 : Nat) (p1 : List (AV o)) : Bool :=
  bif decide ((m15_0 o p0 (1048576 : Int) p1) < (0 : Int)) then
    true
  else
    bif m17_ok o p0 p1 then
      bif m41_ok o (m17_0 o p0 p1) (m17_2 o p0 p1) then
        let v1 : List (AV o) := m41_4 o (m17_0 o p0 p1) (m17_2 o p0 p1)
        let v2 : Int := m41_2 o (m17_0 o p0 p1) (m17_2 o p0 p1)
        let v3 : Int := m41_1 o (m17_0 o p0 p1) (m17_2 o p0 p1)
        let v4 : Nat := m41_0 o (m17_0 o p0 p1) (m17_2 o p0 p1)
        bif m17_ok o p0 (m17_1 o p0 p1) then
          let v5 : List (AV o) := m17_2 o p0 (m17_1 o p0 p1)
          let v6 : List (AV o) := m17_1 o p0 (m17_1 o p0 p1)
          let v7 : Nat := m17_0 o p0 (m17_1 o p0 p1)
          bif m42_ok o v7 v5 then
            let v8 : List (AV o) := m42_2 o v7 v5
            bif m19_ok o v4 v1 then
              bif m19_0 o v4 v1 then
                bif (m42_0 o v7 v5) != v3 then
                  true
                else
                  bif (m42_1 o v7 v5) != v2 then
                    true
                  else
                    bif m17_ok o p0 v6 then
                      let v9 : List (AV o) := m17_2 o p0 v6
                      let v10 : List (AV o) := m17_1 o p0 v6
                      let v11 : Nat := m17_0 o p0 v6
                      bif m19a_ok o v7 v11 v8 v9 then
                        bif m19a_0 o v7 v11 v8 v9 then
                          bif m24_ok o v7 (1 : Int) v8 then
                            bif decide ((m24_0 o v7 (1 : Int) v8) < (0 : Int)) then
                              true
                            else
                              bif m24a_ok o (1 : Int) then
                                bif m25_ok o (1 : Int) then
                                  bif decide ((m25_0 o (1 : Int)) < (0 : Int)) then
                                    true
                                  else
                                    bif (m25_0 o (1 : Int)) != (m24a_0 o (1 : Int)) then
                                      true
                                    else
                                      bif m17_ok o p0 v10 then
                                        let v12 : List (AV o) := m17_2 o p0 v10
                                        let v13 : Nat := m17_0 o p0 v10
                                        bif m42_ok o v13 v12 then
                                          bif (m42_0 o v13 v12) != v3 then
                                            true
                                          else
                                            bif (m42_1 o v13 v12) != v2 then
                                              true
                                            else
                                              true
                                        else
                                          bif m42_ok1 o v13 v12 then
                                            let v14 : List (AV o) := m42_7 o v13 v12
                                            let v15 : Nat := m42_3 o v13 v12
                                            bif m19a_ok o v15 v4 v14 v1 then
                                              bif m19a_0 o v15 v4 v14 v1 then
                                                bif (m42_4 o v13 v12) != v3 then
                                                  true
                                                else
                                                  bif (m42_5 o v13 v12) != v2 then
                                                    true
                                                  else
                                                    true
                                              else
                                                true
                                            else
                                              false
                                          else
                                            false
                                      else
                                        false
                                else
                                  false
                              else
                                false
                          else
                            false
                        else
                          true
                      else
                        false
                    else
                      false
              else
                true
            else
              false
          else
            bif m42_ok1 o v7 v5 then
              let v16 : List (AV o) := m42_7 o v7 v5
              let v17 : List (AV o) := m42_6 o v7 v5
              let v18 : Nat := m42_3 o v7 v5
              bif m19a_ok o v18 v4 v16 v1 then
                bif m19a_0 o v18 v4 v16 v1 then
                  bif (m42_4 o v7 v5) != v3 then
                    true
                  else
                    bif (m42_5 o v7 v5) != v2 then
                      true
                    else
                      bif m17_ok o p0 v6 then
                        let v19 : List (AV o) := m17_2 o p0 v6
                        let v20 : List (AV o) := m17_1 o p0 v6
                        let v21 : Nat := m17_0 o p0 v6
                        bif m19a_ok o v7 v21 v17 v19 then
                          bif m19a_0 o v7 v21 v17 v19 then
                            bif m24_ok o v7 (1 : Int) v17 then
                              bif decide ((m24_0 o v7 (1 : Int) v17) < (0 : Int)) then
                                true
                              else
                                bif m24_ok o v18 (1 : Int) v16 then
                                  let v22 : List (AV o) := m24_1 o v18 (1 : Int) v16
                                  bif m25a_ok o v18 (1 : Int) v22 then
                                    let v23 : Int := m25a_0 o v18 (1 : Int) v22
                                    bif decide (v23 < (0 : Int)) then
                                      true
                                    else
                                      bif v23 != (m24_0 o v18 (1 : Int) v16) then
                                        true
                                      else
                                        bif m17_ok o p0 v20 then
                                          let v24 : List (AV o) := m17_2 o p0 v20
                                          let v25 : Nat := m17_0 o p0 v20
                                          bif m42_ok o v25 v24 then
                                            bif m19_ok o v4 v1 then
                                              bif m19_0 o v4 v1 then
                                                bif (m42_0 o v25 v24) != v3 then
                                                  true
                                                else
                                                  bif (m42_1 o v25 v24) != v2 then
                                                    true
                                                  else
                                                    true
                                              else
                                                true
                                            else
                                              false
                                          else
                                            bif m42_ok1 o v25 v24 then
                                              let v26 : List (AV o) := m42_7 o v25 v24
                                              let v27 : Nat := m42_3 o v25 v24
                                              bif m19a_ok o v27 v4 v26 v1 then
                                                bif m19a_0 o v27 v4 v26 v1 then
                                                  bif (m42_4 o v25 v24) != v3 then
                                                    true
                                                  else
                                                    bif (m42_5 o v25 v24) != v2 then
                                                      true
                                                    else
                                                      true
                                                else
                                                  true
                                              else
                                                false
                                            else
                                              false
                                        else
                                          false
                                  else
                                    false
                                else
                                  false
                            else
                              false
                          else
                            true
                        else
                          false
                      else
                        false
                else
                  true
              else
                false
            else
              false
        else
          false
      else
        false
    else
      false
noncomputable def m12_0 (o : FO) (p0 : Nat) (p1 : List (AV o)) : Bool :=
  bif decide ((m15_0 o p0 (1048576 : Int) p1) < (0 : Int)) then
    true
  else
    let v1 : List (AV o) := m41_4 o (m17_0 o p0 p1) (m17_2 o p0 p1)
    let v2 : Int := m41_2 o (m17_0 o p0 p1) (m17_2 o p0 p1)
    let v3 : Int := m41_1 o (m17_0 o p0 p1) (m17_2 o p0 p1)
    let v4 : Nat := m41_0 o (m17_0 o p0 p1) (m17_2 o p0 p1)
    let v5 : List (AV o) := m17_2 o p0 (m17_1 o p0 p1)
    let v6 : List (AV o) := m17_1 o p0 (m17_1 o p0 p1)
    let v7 : Nat := m17_0 o p0 (m17_1 o p0 p1)
    bif m42_ok o v7 v5 then
      let v8 : List (AV o) := m42_2 o v7 v5
      bif m19_0 o v4 v1 then
        bif (m42_0 o v7 v5) != v3 then
          false
        else
          bif (m42_1 o v7 v5) != v2 then
            false
          else
            let v9 : List (AV o) := m17_1 o p0 v6
            bif m19a_0 o v7 (m17_0 o p0 v6) v8 (m17_2 o p0 v6) then
              bif decide ((m24_0 o v7 (1 : Int) v8) < (0 : Int)) then
                false
              else
                bif decide ((m25_0 o (1 : Int)) < (0 : Int)) then
                  false
                else
                  bif (m25_0 o (1 : Int)) != (m24a_0 o (1 : Int)) then
                    false
                  else
                    let v10 : List (AV o) := m17_2 o p0 v9
                    let v11 : Nat := m17_0 o p0 v9
                    bif m42_ok o v11 v10 then
                      bif (m42_0 o v11 v10) != v3 then
                        false
                      else
                        bif (m42_1 o v11 v10) != v2 then
                          false
                        else
                          true
                    else
                      bif m19a_0 o (m42_3 o v11 v10) v4 (m42_7 o v11 v10) v1 then
                        bif (m42_4 o v11 v10) != v3 then
                          false
                        else
                          bif (m42_5 o v11 v10) != v2 then
                            false
                          else
                            true
                      else
                        false
            else
              false
      else
        false
    else
      let v12 : List (AV o) := m42_7 o v7 v5
      let v13 : List (AV o) := m42_6 o v7 v5
      let v14 : Nat := m42_3 o v7 v5
      bif m19a_0 o v14 v4 v12 v1 then
        bif (m42_4 o v7 v5) != v3 then
          false
        else
          bif (m42_5 o v7 v5) != v2 then
            false
          else
            let v15 : List (AV o) := m17_1 o p0 v6
            bif m19a_0 o v7 (m17_0 o p0 v6) v13 (m17_2 o p0 v6) then
              bif decide ((m24_0 o v7 (1 : Int) v13) < (0 : Int)) then
                false
              else
                let v16 : List (AV o) := m24_1 o v14 (1 : Int) v12
                let v17 : Int := m25a_0 o v14 (1 : Int) v16
                bif decide (v17 < (0 : Int)) then
                  false
                else
                  bif v17 != (m24_0 o v14 (1 : Int) v12) then
                    false
                  else
                    let v18 : List (AV o) := m17_2 o p0 v15
                    let v19 : Nat := m17_0 o p0 v15
                    bif m42_ok o v19 v18 then
                      bif m19_0 o v4 v1 then
                        bif (m42_0 o v19 v18) != v3 then
                          false
                        else
                          bif (m42_1 o v19 v18) != v2 then
                            false
                          else
                            true
                      else
                        false
                    else
                      bif m19a_0 o (m42_3 o v19 v18) v4 (m42_7 o v19 v18) v1 then
                        bif (m42_4 o v19 v18) != v3 then
                          false
                        else
                          bif (m42_5 o v19 v18) != v2 then
                            false
                          else
                            true
                      else
                        false
            else
              false
      else
        false
noncomputable def m12_1 (o : FO) (p0 : Nat) (p1 : List (AV o)) : List (AV o) :=
  bif decide ((m15_0 o p0 (1048576 : Int) p1) < (0 : Int)) then
    p1
  else
    let v1 : List (AV o) := m41_4 o (m17_0 o p0 p1) (m17_2 o p0 p1)
    let v2 : Int := m41_2 o (m17_0 o p0 p1) (m17_2 o p0 p1)
    let v3 : Int := m41_1 o (m17_0 o p0 p1) (m17_2 o p0 p1)
    let v4 : Nat := m41_0 o (m17_0 o p0 p1) (m17_2 o p0 p1)
    let v5 : List (AV o) := m17_2 o p0 (m17_1 o p0 p1)
    let v6 : List (AV o) := m17_1 o p0 (m17_1 o p0 p1)
    let v7 : Nat := m17_0 o p0 (m17_1 o p0 p1)
    bif m42_ok o v7 v5 then
      let v8 : List (AV o) := m42_2 o v7 v5
      bif m19_0 o v4 v1 then
        bif (m42_0 o v7 v5) != v3 then
          v6
        else
          bif (m42_1 o v7 v5) != v2 then
            v6
          else
            let v9 : List (AV o) := m17_1 o p0 v6
            bif m19a_0 o v7 (m17_0 o p0 v6) v8 (m17_2 o p0 v6) then
              bif decide ((m24_0 o v7 (1 : Int) v8) < (0 : Int)) then
                v9
              else
                bif decide ((m25_0 o (1 : Int)) < (0 : Int)) then
                  v9
                else
                  bif (m25_0 o (1 : Int)) != (m24a_0 o (1 : Int)) then
                    v9
                  else
                    let v10 : List (AV o) := m17_2 o p0 v9
                    let v11 : List (AV o) := m17_1 o p0 v9
                    let v12 : Nat := m17_0 o p0 v9
                    bif m42_ok o v12 v10 then
                      bif (m42_0 o v12 v10) != v3 then
                        v11
                      else
                        bif (m42_1 o v12 v10) != v2 then
                          v11
                        else
                          v11
                    else
                      bif m19a_0 o (m42_3 o v12 v10) v4 (m42_7 o v12 v10) v1 then
                        bif (m42_4 o v12 v10) != v3 then
                          v11
                        else
                          bif (m42_5 o v12 v10) != v2 then
                            v11
                          else
                            v11
                      else
                        v11
            else
              v9
      else
        v6
    else
      let v13 : List (AV o) := m42_7 o v7 v5
      let v14 : List (AV o) := m42_6 o v7 v5
      let v15 : Nat := m42_3 o v7 v5
      bif m19a_0 o v15 v4 v13 v1 then
        bif (m42_4 o v7 v5) != v3 then
          v6
        else
          bif (m42_5 o v7 v5) != v2 then
            v6
          else
            let v16 : List (AV o) := m17_1 o p0 v6
            bif m19a_0 o v7 (m17_0 o p0 v6) v14 (m17_2 o p0 v6) then
              bif decide ((m24_0 o v7 (1 : Int) v14) < (0 : Int)) then
                v16
              else
                let v17 : List (AV o) := m24_1 o v15 (1 : Int) v13
                let v18 : Int := m25a_0 o v15 (1 : Int) v17
                bif decide (v18 < (0 : Int)) then
                  v16
                else
                  bif v18 != (m24_0 o v15 (1 : Int) v13) then
                    v16
                  else
                    let v19 : List (AV o) := m17_2 o p0 v16
                    let v20 : List (AV o) := m17_1 o p0 v16
                    let v21 : Nat := m17_0 o p0 v16
                    bif m42_ok o v21 v19 then
                      bif m19_0 o v4 v1 then
                        bif (m42_0 o v21 v19) != v3 then
                          v20
                        else
                          bif (m42_1 o v21 v19) != v2 then
                            v20
                          else
                            v20
                      else
                        v20
                    else
                      bif m19a_0 o (m42_3 o v21 v19) v4 (m42_7 o v21 v19) v1 then
                        bif (m42_4 o v21 v19) != v3 then
                          v20
                        else
                          bif (m42_5 o v21 v19) != v2 then
                            v20
                          else
                            v20
                      else
                        v20
            else
              v16
      else
        v6
theorem val12 (o : FO) (p0 : Nat) (p1 : List (AV o)) (h : m12_ok o p0 p1 = true) : f12 o p0 p1 = some (.bool (m12_0 o p0 p1), [.live false true (m12_1 o p0 p1)]) := by
  revert h
  unfold m12_ok f12 m12_0 m12_1
  try dsimp only
  cases (decide ((m15_0 o p0 (1048576 : Int) p1) < (0 : Int)))
  · cases (m17_ok o p0 p1)
    · intro h; exact absurd h Bool.false_ne_true
    · cases (m41_ok o (m17_0 o p0 p1) (m17_2 o p0 p1))
      · intro h; exact absurd h Bool.false_ne_true
      · cases (m17_ok o p0 (m17_1 o p0 p1))
        · intro h; exact absurd h Bool.false_ne_true
        · cases (m42_ok o (m17_0 o p0 (m17_1 o p0 p1)) (m17_2 o p0 (m17_1 o p0 p1)))
          · cases (m42_ok1 o (m17_0 o p0 (m17_1 o p0 p1)) (m17_2 o p0 (m17_1 o p0 p1)))
            · intro h; exact absurd h Bool.false_ne_true
            · cases (m19a_ok o (m42_3 o (m17_0 o p0 (m17_1 o p0 p1)) (m17_2 o p0 (m17_1 o p0 p1))) (m41_0 o (m17_0 o p0 p1) (m17_2 o p0 p1)) (m42_7 o (m17_0 o p0 (m17_1 o p0 p1)) (m17_2 o p0 (m17_1 o p0 p1))) (m41_4 o (m17_0 o p0 p1) (m17_2 o p0 p1)))
              · intro h; exact absurd h Bool.false_ne_true
              · cases (m19a_0 o (m42_3 o (m17_0 o p0 (m17_1 o p0 p1)) (m17_2 o p0 (m17_1 o p0 p1))) (m41_0 o (m17_0 o p0 p1) (m17_2 o p0 p1)) (m42_7 o (m17_0 o p0 (m17_1 o p0 p1)) (m17_2 o p0 (m17_1 o p0 p1))) (m41_4 o (m17_0 o p0 p1) (m17_2 o p0 p1)))
                · intro _; rfl
                · cases ((m42_4 o (m17_0 o p0 (m17_1 o p0 p1)) (m17_2 o p0 (m17_1 o p0 p1))) != (m41_1 o (m17_0 o p0 p1) (m17_2 o p0 p1)))
                  · cases ((m42_5 o (m17_0 o p0 (m17_1 o p0 p1)) (m17_2 o p0 (m17_1 o p0 p1))) != (m41_2 o (m17_0 o p0 p1) (m17_2 o p0 p1)))
                    · cases (m17_ok o p0 (m17_1 o p0 (m17_1 o p0 p1)))
                      · intro h; exact absurd h Bool.false_ne_true
                      · cases (m19a_ok o (m17_0 o p0 (m17_1 o p0 p1)) (m17_0 o p0 (m17_1 o p0 (m17_1 o p0 p1))) (m42_6 o (m17_0 o p0 (m17_1 o p0 p1)) (m17_2 o p0 (m17_1 o p0 p1))) (m17_2 o p0 (m17_1 o p0 (m17_1 o p0 p1))))
                        · intro h; exact absurd h Bool.false_ne_true
                        · cases (m19a_0 o (m17_0 o p0 (m17_1 o p0 p1)) (m17_0 o p0 (m17_1 o p0 (m17_1 o p0 p1))) (m42_6 o (m17_0 o p0 (m17_1 o p0 p1)) (m17_2 o p0 (m17_1 o p0 p1))) (m17_2 o p0 (m17_1 o p0 (m17_1 o p0 p1))))
                          · intro _; rfl
                          · cases (m24_ok o (m17_0 o p0 (m17_1 o p0 p1)) (1 : Int) (m42_6 o (m17_0 o p0 (m17_1 o p0 p1)) (m17_2 o p0 (m17_1 o p0 p1))))
                            · intro h; exact absurd h Bool.false_ne_true
                            · cases (decide ((m24_0 o (m17_0 o p0 (m17_1 o p0 p1)) (1 : Int) (m42_6 o (m17_0 o p0 (m17_1 o p0 p1)) (m17_2 o p0 (m17_1 o p0 p1)))) < (0 : Int)))
                              · cases (m24_ok o (m42_3 o (m17_0 o p0 (m17_1 o p0 p1)) (m17_2 o p0 (m17_1 o p0 p1))) (1 : Int) (m42_7 o (m17_0 o p0 (m17_1 o p0 p1)) (m17_2 o p0 (m17_1 o p0 p1))))
                                · intro h; exact absurd h Bool.false_ne_true
                                · cases (m25a_ok o (m42_3 o (m17_0 o p0 (m17_1 o p0 p1)) (m17_2 o p0 (m17_1 o p0 p1))) (1 : Int) (m24_1 o (m42_3 o (m17_0 o p0 (m17_1 o p0 p1)) (m17_2 o p0 (m17_1 o p0 p1))) (1 : Int) (m42_7 o (m17_0 o p0 (m17_1 o p0 p1)) (m17_2 o p0 (m17_1 o p0 p1)))))
                                  · intro h; exact absurd h Bool.false_ne_true
                                  · cases (decide ((m25a_0 o (m42_3 o (m17_0 o p0 (m17_1 o p0 p1)) (m17_2 o p0 (m17_1 o p0 p1))) (1 : Int) (m24_1 o (m42_3 o (m17_0 o p0 (m17_1 o p0 p1)) (m17_2 o p0 (m17_1 o p0 p1))) (1 : Int) (m42_7 o (m17_0 o p0 (m17_1 o p0 p1)) (m17_2 o p0 (m17_1 o p0 p1))))) < (0 : Int)))
                                    · cases ((m25a_0 o (m42_3 o (m17_0 o p0 (m17_1 o p0 p1)) (m17_2 o p0 (m17_1 o p0 p1))) (1 : Int) (m24_1 o (m42_3 o (m17_0 o p0 (m17_1 o p0 p1)) (m17_2 o p0 (m17_1 o p0 p1))) (1 : Int) (m42_7 o (m17_0 o p0 (m17_1 o p0 p1)) (m17_2 o p0 (m17_1 o p0 p1))))) != (m24_0 o (m42_3 o (m17_0 o p0 (m17_1 o p0 p1)) (m17_2 o p0 (m17_1 o p0 p1))) (1 : Int) (m42_7 o (m17_0 o p0 (m17_1 o p0 p1)) (m17_2 o p0 (m17_1 o p0 p1)))))
                                      · cases (m17_ok o p0 (m17_1 o p0 (m17_1 o p0 (m17_1 o p0 p1))))
                                        · intro h; exact absurd h Bool.false_ne_true
                                        · cases (m42_ok o (m17_0 o p0 (m17_1 o p0 (m17_1 o p0 (m17_1 o p0 p1)))) (m17_2 o p0 (m17_1 o p0 (m17_1 o p0 (m17_1 o p0 p1)))))
                                          · cases (m42_ok1 o (m17_0 o p0 (m17_1 o p0 (m17_1 o p0 (m17_1 o p0 p1)))) (m17_2 o p0 (m17_1 o p0 (m17_1 o p0 (m17_1 o p0 p1)))))
                                            · intro h; exact absurd h Bool.false_ne_true
                                            · cases (m19a_ok o (m42_3 o (m17_0 o p0 (m17_1 o p0 (m17_1 o p0 (m17_1 o p0 p1)))) (m17_2 o p0 (m17_1 o p0 (m17_1 o p0 (m17_1 o p0 p1))))) (m41_0 o (m17_0 o p0 p1) (m17_2 o p0 p1)) (m42_7 o (m17_0 o p0 (m17_1 o p0 (m17_1 o p0 (m17_1 o p0 p1)))) (m17_2 o p0 (m17_1 o p0 (m17_1 o p0 (m17_1 o p0 p1))))) (m41_4 o (m17_0 o p0 p1) (m17_2 o p0 p1)))
                                              · intro h; exact absurd h Bool.false_ne_true
                                              · cases (m19a_0 o (m42_3 o (m17_0 o p0 (m17_1 o p0 (m17_1 o p0 (m17_1 o p0 p1)))) (m17_2 o p0 (m17_1 o p0 (m17_1 o p0 (m17_1 o p0 p1))))) (m41_0 o (m17_0 o p0 p1) (m17_2 o p0 p1)) (m42_7 o (m17_0 o p0 (m17_1 o p0 (m17_1 o p0 (m17_1 o p0 p1)))) (m17_2 o p0 (m17_1 o p0 (m17_1 o p0 (m17_1 o p0 p1))))) (m41_4 o (m17_0 o p0 p1) (m17_2 o p0 p1)))
                                                · intro _; rfl
                                                · cases ((m42_4 o (m17_0 o p0 (m17_1 o p0 (m17_1 o p0 (m17_1 o p0 p1)))) (m17_2 o p0 (m17_1 o p0 (m17_1 o p0 (m17_1 o p0 p1))))) != (m41_1 o (m17_0 o p0 p1) (m17_2 o p0 p1)))
                                                  · cases ((m42_5 o (m17_0 o p0 (m17_1 o p0 (m17_1 o p0 (m17_1 o p0 p1)))) (m17_2 o p0 (m17_1 o p0 (m17_1 o p0 (m17_1 o p0 p1))))) != (m41_2 o (m17_0 o p0 p1) (m17_2 o p0 p1)))
                                                    · intro _; rfl
                                                    · intro _; rfl
                                                  · intro _; rfl
                                          · cases (m19_ok o (m41_0 o (m17_0 o p0 p1) (m17_2 o p0 p1)) (m41_4 o (m17_0 o p0 p1) (m17_2 o p0 p1)))
                                            · intro h; exact absurd h Bool.false_ne_true
                                            · cases (m19_0 o (m41_0 o (m17_0 o p0 p1) (m17_2 o p0 p1)) (m41_4 o (m17_0 o p0 p1) (m17_2 o p0 p1)))
                                              · intro _; rfl
                                              · cases ((m42_0 o (m17_0 o p0 (m17_1 o p0 (m17_1 o p0 (m17_1 o p0 p1)))) (m17_2 o p0 (m17_1 o p0 (m17_1 o p0 (m17_1 o p0 p1))))) != (m41_1 o (m17_0 o p0 p1) (m17_2 o p0 p1)))
                                                · cases ((m42_1 o (m17_0 o p0 (m17_1 o p0 (m17_1 o p0 (m17_1 o p0 p1)))) (m17_2 o p0 (m17_1 o p0 (m17_1 o p0 (m17_1 o p0 p1))))) != (m41_2 o (m17_0 o p0 p1) (m17_2 o p0 p1)))
                                                  · intro _; rfl
                                                  · intro _; rfl
                                                · intro _; rfl
                                      · intro _; rfl
                                    · intro _; rfl
                              · intro _; rfl
                    · intro _; rfl
                  · intro _; rfl
          · cases (m19_ok o (m41_0 o (m17_0 o p0 p1) (m17_2 o p0 p1)) (m41_4 o (m17_0 o p0 p1) (m17_2 o p0 p1)))
            · intro h; exact absurd h Bool.false_ne_true
            · cases (m19_0 o (m41_0 o (m17_0 o p0 p1) (m17_2 o p0 p1)) (m41_4 o (m17_0 o p0 p1) (m17_2 o p0 p1)))
              · intro _; rfl
              · cases ((m42_0 o (m17_0 o p0 (m17_1 o p0 p1)) (m17_2 o p0 (m17_1 o p0 p1))) != (m41_1 o (m17_0 o p0 p1) (m17_2 o p0 p1)))
                · cases ((m42_1 o (m17_0 o p0 (m17_1 o p0 p1)) (m17_2 o p0 (m17_1 o p0 p1))) != (m41_2 o (m17_0 o p0 p1) (m17_2 o p0 p1)))
                  · cases (m17_ok o p0 (m17_1 o p0 (m17_1 o p0 p1)))
                    · intro h; exact absurd h Bool.false_ne_true
                    · cases (m19a_ok o (m17_0 o p0 (m17_1 o p0 p1)) (m17_0 o p0 (m17_1 o p0 (m17_1 o p0 p1))) (m42_2 o (m17_0 o p0 (m17_1 o p0 p1)) (m17_2 o p0 (m17_1 o p0 p1))) (m17_2 o p0 (m17_1 o p0 (m17_1 o p0 p1))))
                      · intro h; exact absurd h Bool.false_ne_true
                      · cases (m19a_0 o (m17_0 o p0 (m17_1 o p0 p1)) (m17_0 o p0 (m17_1 o p0 (m17_1 o p0 p1))) (m42_2 o (m17_0 o p0 (m17_1 o p0 p1)) (m17_2 o p0 (m17_1 o p0 p1))) (m17_2 o p0 (m17_1 o p0 (m17_1 o p0 p1))))
                        · intro _; rfl
                        · cases (m24_ok o (m17_0 o p0 (m17_1 o p0 p1)) (1 : Int) (m42_2 o (m17_0 o p0 (m17_1 o p0 p1)) (m17_2 o p0 (m17_1 o p0 p1))))
                          · intro h; exact absurd h Bool.false_ne_true
                          · cases (decide ((m24_0 o (m17_0 o p0 (m17_1 o p0 p1)) (1 : Int) (m42_2 o (m17_0 o p0 (m17_1 o p0 p1)) (m17_2 o p0 (m17_1 o p0 p1)))) < (0 : Int)))
                            · cases (m24a_ok o (1 : Int))
                              · intro h; exact absurd h Bool.false_ne_true
                              · cases (m25_ok o (1 : Int))
                                · intro h; exact absurd h Bool.false_ne_true
                                · cases (decide ((m25_0 o (1 : Int)) < (0 : Int)))
                                  · cases ((m25_0 o (1 : Int)) != (m24a_0 o (1 : Int)))
                                    · cases (m17_ok o p0 (m17_1 o p0 (m17_1 o p0 (m17_1 o p0 p1))))
                                      · intro h; exact absurd h Bool.false_ne_true
                                      · cases (m42_ok o (m17_0 o p0 (m17_1 o p0 (m17_1 o p0 (m17_1 o p0 p1)))) (m17_2 o p0 (m17_1 o p0 (m17_1 o p0 (m17_1 o p0 p1)))))
                                        · cases (m42_ok1 o (m17_0 o p0 (m17_1 o p0 (m17_1 o p0 (m17_1 o p0 p1)))) (m17_2 o p0 (m17_1 o p0 (m17_1 o p0 (m17_1 o p0 p1)))))
                                          · intro h; exact absurd h Bool.false_ne_true
                                          · cases (m19a_ok o (m42_3 o (m17_0 o p0 (m17_1 o p0 (m17_1 o p0 (m17_1 o p0 p1)))) (m17_2 o p0 (m17_1 o p0 (m17_1 o p0 (m17_1 o p0 p1))))) (m41_0 o (m17_0 o p0 p1) (m17_2 o p0 p1)) (m42_7 o (m17_0 o p0 (m17_1 o p0 (m17_1 o p0 (m17_1 o p0 p1)))) (m17_2 o p0 (m17_1 o p0 (m17_1 o p0 (m17_1 o p0 p1))))) (m41_4 o (m17_0 o p0 p1) (m17_2 o p0 p1)))
                                            · intro h; exact absurd h Bool.false_ne_true
                                            · cases (m19a_0 o (m42_3 o (m17_0 o p0 (m17_1 o p0 (m17_1 o p0 (m17_1 o p0 p1)))) (m17_2 o p0 (m17_1 o p0 (m17_1 o p0 (m17_1 o p0 p1))))) (m41_0 o (m17_0 o p0 p1) (m17_2 o p0 p1)) (m42_7 o (m17_0 o p0 (m17_1 o p0 (m17_1 o p0 (m17_1 o p0 p1)))) (m17_2 o p0 (m17_1 o p0 (m17_1 o p0 (m17_1 o p0 p1))))) (m41_4 o (m17_0 o p0 p1) (m17_2 o p0 p1)))
                                              · intro _; rfl
                                              · cases ((m42_4 o (m17_0 o p0 (m17_1 o p0 (m17_1 o p0 (m17_1 o p0 p1)))) (m17_2 o p0 (m17_1 o p0 (m17_1 o p0 (m17_1 o p0 p1))))) != (m41_1 o (m17_0 o p0 p1) (m17_2 o p0 p1)))
                                                · cases ((m42_5 o (m17_0 o p0 (m17_1 o p0 (m17_1 o p0 (m17_1 o p0 p1)))) (m17_2 o p0 (m17_1 o p0 (m17_1 o p0 (m17_1 o p0 p1))))) != (m41_2 o (m17_0 o p0 p1) (m17_2 o p0 p1)))
                                                  · intro _; rfl
                                                  · intro _; rfl
                                                · intro _; rfl
                                        · cases ((m42_0 o (m17_0 o p0 (m17_1 o p0 (m17_1 o p0 (m17_1 o p0 p1)))) (m17_2 o p0 (m17_1 o p0 (m17_1 o p0 (m17_1 o p0 p1))))) != (m41_1 o (m17_0 o p0 p1) (m17_2 o p0 p1)))
                                          · cases ((m42_1 o (m17_0 o p0 (m17_1 o p0 (m17_1 o p0 (m17_1 o p0 p1)))) (m17_2 o p0 (m17_1 o p0 (m17_1 o p0 (m17_1 o p0 p1))))) != (m41_2 o (m17_0 o p0 p1) (m17_2 o p0 p1)))
                                            · intro _; rfl
                                            · intro _; rfl
                                          · intro _; rfl
                                    · intro _; rfl
                                  · intro _; rfl
                            · intro _; rfl
                  · intro _; rfl
                · intro _; rfl
  · intro _; rfl

noncomputable def e12 (o : FO) : List (AV o) → Heap o → Tr (AV o)
  | [.slice 0 0 p0 3], [.live _ true p1] => .br (m12_ok o p0 p1) (.leaf (.bool (m12_0 o p0 p1))) .fail
  | _, _ => .fail
theorem ok12 (N : Nat) (hN : 4096 ≤ N) : CalOk Try.prog 12 (.ro (e12 ieee)) := by
  refine calOk_ro (cok12 2000000 (by decide)) (is12 2000000) ?_
  intro args h av hg
  unfold e12 at hg
  split at hg
  · obtain ⟨h0, hg⟩ := br_get hg
    cases hg
    exact ⟨rfl, _, (eq12 ieee 2000000 _ _).trans (val12 ieee _ _ h0)⟩
  · cases hg

/-! loop.example/g01224/laws.szLevelS -/
noncomputable def f15a (o : FO) (p0 : Int) : R o :=
  let v1 : Int := IntKind.wrap .i64 (p0 - (0 : Int))
  bif decide (v1 < (0 : Int)) then
    some (.int .i64 (-1 : Int), [])
  else
    some (.int .i64 v1, [])
noncomputable def c15a (o : FO) (N : Nat) : Cx o :=
  { ty := tab [(22, ty22 o)]
    fn := tab []
    rounds := 4096, nt := 12, base := 0
    loops := [] }
theorem is15a (N : Nat) : FnIs Try.prog (c15a ieee N) 15 Try.f15 b15 := ⟨by kernel_rfl, by kernel_rfl, by kernel_rfl, by kernel_rfl⟩
theorem eq15a (o : FO) (N : Nat) (p0 : Int) : afun (c15a o N) Try.f15.results.toList b15 [.nilslice, .int .i64 p0] [] = f15a o p0 := by kernel_rfl
theorem cok15a (N : Nat) (hN : 4096 ≤ N) : CtxOk Try.prog (c15a ieee N) := by
  refine ctxOk ?_ ?_ mixed ?_
  · intro p hp
    simp only [List.mem_cons, List.not_mem_nil, or_false] at hp
    subst hp; exact tyOk22
  · intro p hp; cases hp
  · intro p hp; cases hp
noncomputable def m15a_0 (o : FO) (p0 : Int) : Int :=
  let v1 : Int := IntKind.wrap .i64 (p0 - (0 : Int))
  bif decide (v1 < (0 : Int)) then
    (-1 : Int)
  else
    v1
theorem val15a (o : FO) (p0 : Int) : f15a o p0 = some (.int .i64 (m15a_0 o p0), []) := by
  unfold f15a m15a_0
  try dsimp only
  cases (decide ((IntKind.wrap .i64 (p0 - (0 : Int))) < (0 : Int)))
  · rfl
  · rfl

noncomputable def e15as (o : FO) : List (AV o) → Heap o → Tr (AV o)
  | [.nilslice, .int .i64 p0], [] => .leaf (.int .i64 (m15a_0 o p0))
  | _, _ => .fail
theorem ok15as (N : Nat) (hN : 4096 ≤ N) : CalOk Try.prog 15 (.ro (e15as ieee)) := by
  refine calOk_ro (cok15a 2000000 (by decide)) (is15a 2000000) ?_
  intro args h av hg
  unfold e15as at hg
  split at hg
  · cases hg
    exact ⟨rfl, _, (eq15a ieee 2000000 _).trans (val15a ieee _)⟩
  · cases hg
noncomputable def e15s (o : FO) : List (AV o) → Heap o → Tr (AV o)
  | [.slice 0 0 p0 3, .int .i64 p1], [.live _ true p2] => .leaf (.int .i64 (m15_0 o p0 p1 p2))
  | _, _ => .fail
theorem ok15s (N : Nat) (hN : 4096 ≤ N) : CalOk Try.prog 15 (.ro (e15s ieee)) := by
  refine calOk_ro (cok15 2000000 (by decide)) (is15 2000000) ?_
  intro args h av hg
  unfold e15s at hg
  split at hg
  · cases hg
    exact ⟨rfl, _, (eq15 ieee 2000000 _ _ _).trans (val15 ieee _ _ _)⟩
  · cases hg
noncomputable def e15v1 (o : FO) : List (AV o) → Heap o → Tr (AV o)
  | [.slice 0 0 p0 3, .int .i64 p1], [.live _ true p2] => .leaf (.int .i64 (m15_0 o p0 p1 p2))
  | [.nilslice, .int .i64 p0], [] => .leaf (.int .i64 (m15a_0 o p0))
  | _, _ => .fail
theorem ok15v1 (N : Nat) (hN : 4096 ≤ N) : CalOk Try.prog 15 (.ro (e15v1 ieee)) := by
  intro args h av hg
  unfold e15v1 at hg
  split at hg
  · exact ok15s N hN _ _ av hg
  · exact ok15as N hN _ _ av hg
  · cases hg

/-! loop.example/g01224/laws.toLevelS -/
noncomputable def f17b_L0 (o : FO) (N : Nat) (s0 : Nat × Int → R o) (a : Nat × Int) : R o :=
  bif decide (a.2 < (0 : Int)) then
    none
  else
    some (.slice 0 0 a.1 3, [.live true true []])
noncomputable def f17b_D0 (o : FO) (vs : List (AV o)) (h : Heap o) : Option (Nat × Int) :=
  match vs, h with
  | [.nilslice, .slice 0 0 a0_0 3, .int .i64 a0_1], [.live true true []] => some (a0_0, a0_1)
  | _, _ => none
noncomputable def f17b_E0 (o : FO) (a : Nat × Int) : List (AV o) × Heap o := ([.nilslice, .slice 0 0 a.1 3, .int .i64 a.2], [.live true true []])
theorem f17b_DE0 (o : FO) : ∀ vs h a, f17b_D0 o vs h = some a → f17b_E0 o a = (vs, h) := by
  intro vs h a hx
  unfold f17b_D0 at hx
  split at hx
  · cases hx; rfl
  · cases hx
noncomputable def f17b (o : FO) (N : Nat) : R o :=
  iter (f17b_L0 o N) N (0, (0 : Int))
noncomputable def c17b (o : FO) (N : Nat) : Cx o :=
  { ty := tab [(22, ty22 o), (25, ty25 o), (66, ty66 o)]
    fn := tab []
    rounds := N, nt := 23, base := 0
    loops := [loopD [0, 3, 4] (f17b_D0 o) (f17b_E0 o)] }
theorem is17b (N : Nat) : FnIs Try.prog (c17b ieee N) 17 Try.f17 b17 := ⟨by kernel_rfl, by kernel_rfl, by kernel_rfl, by kernel_rfl⟩
theorem eq17b (o : FO) (N : Nat) : afun (c17b o N) Try.f17.results.toList b17 [.nilslice] [] = f17b o N := by kernel_rfl
theorem cok17b (N : Nat) (hN : 4096 ≤ N) : CtxOk Try.prog (c17b ieee N) := by
  refine ctxOk ?_ ?_ mixed ?_
  · intro p hp
    simp only [List.mem_cons, List.not_mem_nil, or_false] at hp
    rcases hp with rfl | rfl | rfl
    · exact tyOk22
    · exact tyOk25
    · exact tyOk66
  · intro p hp; cases hp
  · intro p hp
    simp only [List.mem_cons, List.not_mem_nil, or_false] at hp
    subst hp; exact loopD_ok _ _ _ (f17b_DE0 ieee)
noncomputable def k17b (o : FO) : R o → Bool := fun r => match r with | some (.slice 0 0 _ 3, [.live true true []]) => true | _ => false
theorem k17b_c (o : FO) (b : Bool) (x y : R o) : k17b o (bif b then x else y) = bif b then k17b o x else k17b o y := by cases b <;> rfl
noncomputable def m17b_ok (o : FO)  : Bool := k17b o (f17b o 2000000)
noncomputable def g17b_0 (o : FO) : R o → Nat := fun r => match r with | some (.slice 0 0 r0 3, [.live true true []]) => r0 | _ => 0
theorem g17b_0c (o : FO) (b : Bool) (x y : R o) : g17b_0 o (bif b then x else y) = bif b then g17b_0 o x else g17b_0 o y := by cases b <;> rfl
noncomputable def m17b_0 (o : FO)  : Nat := g17b_0 o (f17b o 2000000)
theorem val17b (o : FO)  (h : m17b_ok o = true) : f17b o 2000000 = some (.slice 0 0 (m17b_0 o) 3, [.live true true []]) := by
  unfold m17b_ok k17b at h
  unfold m17b_0 g17b_0
  generalize f17b o 2000000 = r at h ⊢
  split at h
  · rfl
  · cases h

noncomputable def e17bs (o : FO) : List (AV o) → Heap o → Tr (AV o × Heap o)
  | [.nilslice], [] => .br (m17b_ok o) (.leaf ((.slice 0 0 (m17b_0 o) 3, [.live true true []]))) .fail
  | _, _ => .fail
theorem ok17bs (N : Nat) (hN : 4096 ≤ N) : CalOk Try.prog 17 (.rw (e17bs ieee)) := by
  refine calOk_rw (cok17b 2000000 (by decide)) (is17b 2000000) ?_
  intro args h av h2 hg
  unfold e17bs at hg
  split at hg
  · obtain ⟨h0, hg⟩ := br_get hg
    cases hg
    exact (eq17b ieee 2000000).trans (val17b ieee h0)
  · cases hg
noncomputable def e17v2 (o : FO) : List (AV o) → Heap o → Tr (AV o × Heap o)
  | [.slice 0 0 p0 3], [.live false true p1] => .br (m17_ok o p0 p1) (.leaf ((.slice 1 0 (m17_0 o p0 p1) 3, [.live false true (m17_1 o p0 p1), .live true true (m17_2 o p0 p1)]))) .fail
  | [.slice 0 0 p0 3], [.live true true p1] => .br (m17a_ok o p0 p1) (.leaf ((.slice 1 0 (m17a_0 o p0 p1) 3, [.live true true (m17a_1 o p0 p1), .live true true (m17a_2 o p0 p1)]))) .fail
  | [.nilslice], [] => .br (m17b_ok o) (.leaf ((.slice 0 0 (m17b_0 o) 3, [.live true true []]))) .fail
  | _, _ => .fail
theorem ok17v2 (N : Nat) (hN : 4096 ≤ N) : CalOk Try.prog 17 (.rw (e17v2 ieee)) := by
  intro args h av h2 hg
  unfold e17v2 at hg
  split at hg
  · exact ok17s N hN _ _ av h2 hg
  · exact ok17as N hN _ _ av h2 hg
  · exact ok17bs N hN _ _ av h2 hg
  · cases hg

/-! loop.example/g01224/laws.FnExactSteadySounding -/
noncomputable def f12a (o : FO) : R o :=
  bif decide ((m15a_0 o (1048576 : Int)) < (0 : Int)) then
    some (.bool true, [])
  else
    gd (m17b_ok o) (
    gd (m41_ok o (m17b_0 o) []) (
    gd (m17b_ok o) (
    bif m42_ok o (m17b_0 o) [] then
      gd (m19_ok o (m41_0 o (m17b_0 o) []) (m41_4 o (m17b_0 o) [])) (
      let v1 : Bool := m19_0 o (m41_0 o (m17b_0 o) []) (m41_4 o (m17b_0 o) [])
      bif v1 then
        let v2 : Bool := (m42_0 o (m17b_0 o) []) != (m41_1 o (m17b_0 o) [])
        bif v2 then
          some (.bool false, [])
        else
          let v3 : Bool := (m42_1 o (m17b_0 o) []) != (m41_2 o (m17b_0 o) [])
          bif v3 then
            some (.bool false, [])
          else
            gd (m17b_ok o) (
            gd (m19a_ok o (m17b_0 o) (m17b_0 o) (m42_2 o (m17b_0 o) []) []) (
            bif !(m19a_0 o (m17b_0 o) (m17b_0 o) (m42_2 o (m17b_0 o) []) []) then
              some (.bool false, [])
            else
              gd (m24_ok o (m17b_0 o) (1 : Int) (m42_2 o (m17b_0 o) [])) (
              bif decide ((m24_0 o (m17b_0 o) (1 : Int) (m42_2 o (m17b_0 o) [])) < (0 : Int)) then
                some (.bool false, [])
              else
                gd (m19_ok o (m41_0 o (m17b_0 o) []) (m41_4 o (m17b_0 o) [])) (
                bif v1 then
                  bif v2 then
                    some (.bool false, [])
                  else
                    bif v3 then
                      some (.bool false, [])
                    else
                      gd (m24a_ok o (1 : Int)) (
                      gd (m25_ok o (1 : Int)) (
                      let v4 : Bool := decide ((m25_0 o (1 : Int)) < (0 : Int))
                      bif v4 then
                        some (.bool false, [])
                      else
                        let v5 : Bool := (m25_0 o (1 : Int)) != (m24a_0 o (1 : Int))
                        bif v5 then
                          some (.bool false, [])
                        else
                          gd (m17b_ok o) (
                          bif m42_ok o (m17b_0 o) [] then
                            gd (m19_ok o (m41_0 o (m17b_0 o) []) (m41_4 o (m17b_0 o) [])) (
                            bif v1 then
                              bif v2 then
                                some (.bool false, [])
                              else
                                bif v3 then
                                  some (.bool false, [])
                                else
                                  gd (m25_ok o (1 : Int)) (
                                  bif v4 then
                                    some (.bool false, [])
                                  else
                                    bif v5 then
                                      some (.bool false, [])
                                    else
                                      some (.bool true, []))
                            else
                              some (.bool false, []))
                          else
                            gd (m42_ok1 o (m17b_0 o) []) (
                            gd (m19a_ok o (m42_3 o (m17b_0 o) []) (m41_0 o (m17b_0 o) []) (m42_7 o (m17b_0 o) []) (m41_4 o (m17b_0 o) [])) (
                            bif m19a_0 o (m42_3 o (m17b_0 o) []) (m41_0 o (m17b_0 o) []) (m42_7 o (m17b_0 o) []) (m41_4 o (m17b_0 o) []) then
                              bif (m42_4 o (m17b_0 o) []) != (m41_1 o (m17b_0 o) []) then
                                some (.bool false, [])
                              else
                                bif (m42_5 o (m17b_0 o) []) != (m41_2 o (m17b_0 o) []) then
                                  some (.bool false, [])
                                else
                                  gd (m25_ok o (1 : Int)) (
                                  bif v4 then
                                    some (.bool false, [])
                                  else
                                    bif v5 then
                                      some (.bool false, [])
                                    else
                                      some (.bool true, []))
                            else
                              some (.bool false, []))))))
                else
                  some (.bool false, [])))))
      else
        some (.bool false, []))
    else
      gd (m42_ok1 o (m17b_0 o) []) (
      gd (m19a_ok o (m42_3 o (m17b_0 o) []) (m41_0 o (m17b_0 o) []) (m42_7 o (m17b_0 o) []) (m41_4 o (m17b_0 o) [])) (
      let v6 : Bool := m19a_0 o (m42_3 o (m17b_0 o) []) (m41_0 o (m17b_0 o) []) (m42_7 o (m17b_0 o) []) (m41_4 o (m17b_0 o) [])
      bif v6 then
        let v7 : Bool := (m42_4 o (m17b_0 o) []) != (m41_1 o (m17b_0 o) [])
        bif v7 then
          some (.bool false, [])
        else
          let v8 : Bool := (m42_5 o (m17b_0 o) []) != (m41_2 o (m17b_0 o) [])
          bif v8 then
            some (.bool false, [])
          else
            gd (m17b_ok o) (
            gd (m19a_ok o (m17b_0 o) (m17b_0 o) (m42_6 o (m17b_0 o) []) []) (
            bif !(m19a_0 o (m17b_0 o) (m17b_0 o) (m42_6 o (m17b_0 o) []) []) then
              some (.bool false, [])
            else
              gd (m24_ok o (m17b_0 o) (1 : Int) (m42_6 o (m17b_0 o) [])) (
              bif decide ((m24_0 o (m17b_0 o) (1 : Int) (m42_6 o (m17b_0 o) [])) < (0 : Int)) then
                some (.bool false, [])
              else
                gd (m19a_ok o (m42_3 o (m17b_0 o) []) (m41_0 o (m17b_0 o) []) (m42_7 o (m17b_0 o) []) (m41_4 o (m17b_0 o) [])) (
                bif v6 then
                  bif v7 then
                    some (.bool false, [])
                  else
                    bif v8 then
                      some (.bool false, [])
                    else
                      gd (m24_ok o (m42_3 o (m17b_0 o) []) (1 : Int) (m42_7 o (m17b_0 o) [])) (
                      let v9 : List (AV o) := m24_1 o (m42_3 o (m17b_0 o) []) (1 : Int) (m42_7 o (m17b_0 o) [])
                      let v10 : Int := m24_0 o (m42_3 o (m17b_0 o) []) (1 : Int) (m42_7 o (m17b_0 o) [])
                      gd (m25a_ok o (m42_3 o (m17b_0 o) []) (1 : Int) v9) (
                      let v11 : Int := m25a_0 o (m42_3 o (m17b_0 o) []) (1 : Int) v9
                      let v12 : Bool := decide (v11 < (0 : Int))
                      bif v12 then
                        some (.bool false, [])
                      else
                        let v13 : Bool := v11 != v10
                        bif v13 then
                          some (.bool false, [])
                        else
                          gd (m17b_ok o) (
                          bif m42_ok o (m17b_0 o) [] then
                            gd (m19_ok o (m41_0 o (m17b_0 o) []) (m41_4 o (m17b_0 o) [])) (
                            bif m19_0 o (m41_0 o (m17b_0 o) []) (m41_4 o (m17b_0 o) []) then
                              bif (m42_0 o (m17b_0 o) []) != (m41_1 o (m17b_0 o) []) then
                                some (.bool false, [])
                              else
                                bif (m42_1 o (m17b_0 o) []) != (m41_2 o (m17b_0 o) []) then
                                  some (.bool false, [])
                                else
                                  gd (m25a_ok o (m42_3 o (m17b_0 o) []) (1 : Int) v9) (
                                  bif v12 then
                                    some (.bool false, [])
                                  else
                                    bif v13 then
                                      some (.bool false, [])
                                    else
                                      some (.bool true, []))
                            else
                              some (.bool false, []))
                          else
                            gd (m42_ok1 o (m17b_0 o) []) (
                            gd (m19a_ok o (m42_3 o (m17b_0 o) []) (m41_0 o (m17b_0 o) []) (m42_7 o (m17b_0 o) []) (m41_4 o (m17b_0 o) [])) (
                            bif v6 then
                              bif v7 then
                                some (.bool false, [])
                              else
                                bif v8 then
                                  some (.bool false, [])
                                else
                                  gd (m25a_ok o (m42_3 o (m17b_0 o) []) (1 : Int) v9) (
                                  bif v12 then
                                    some (.bool false, [])
                                  else
                                    bif v13 then
                                      some (.bool false, [])
                                    else
                                      some (.bool true, []))
                            else
                              some (.bool false, []))))))
                else
                  some (.bool false, [])))))
      else
        some (.bool false, []))))))
noncomputable def c12a (o : FO) (N : Nat) : Cx o :=
  { ty := tab []
    fn := tab [(15, .ro (e15v1 o)), (17, .rw (e17v2 o)), (19, .ro (e19v1 o)), (24, .rw (e24v1 o)), (25, .ro (e25v1 o)), (41, .rw (e41 o)), (42, .rw (e42 o))]
    rounds := 4096, nt := 117, base := 0
    loops := [] }
theorem is12a (N : Nat) : FnIs Try.prog (c12a ieee N) 12 Try.f12 b12 := ⟨by kernel_rfl, by kernel_rfl, by kernel_rfl, by kernel_rfl⟩
theorem eq12a (o : FO) (N : Nat) : afun (c12a o N) Try.f12.results.toList b12 [.nilslice] [] = f12a o := by kernel_rfl
theorem cok12a (N : Nat) (hN : 4096 ≤ N) : CtxOk Try.prog (c12a ieee N) := by
  refine ctxOk ?_ ?_ mixed ?_
  · intro p hp; cases hp
  · intro p hp
    simp only [List.mem_cons, List.not_mem_nil, or_false] at hp
    rcases hp with rfl | rfl | rfl | rfl | rfl | rfl | rfl
    · exact ok15v1 N hN
    · exact ok17v2 N hN
    · exact ok19v1 N hN
    · exact ok24v1 N hN
    · exact ok25v1 N hN
    · exact ok41 N hN
    · exact ok42 N hN
  · intro p hp; cases hp
noncomputable def m12a_ok (o : FO)  : Bool :=
  bif decide ((m15a_0 o (1048576 : Int)) < (0 : Int)) then
    true
  else
    bif m17b_ok o then
      bif m41_ok o (m17b_0 o) [] then
        bif m42_ok o (m17b_0 o) [] then
          bif m19_ok o (m41_0 o (m17b_0 o) []) (m41_4 o (m17b_0 o) []) then
            bif m19_0 o (m41_0 o (m17b_0 o) []) (m41_4 o (m17b_0 o) []) then
              bif (m42_0 o (m17b_0 o) []) != (m41_1 o (m17b_0 o) []) then
                true
              else
                bif (m42_1 o (m17b_0 o) []) != (m41_2 o (m17b_0 o) []) then
                  true
                else
                  bif m19a_ok o (m17b_0 o) (m17b_0 o) (m42_2 o (m17b_0 o) []) [] then
                    bif m19a_0 o (m17b_0 o) (m17b_0 o) (m42_2 o (m17b_0 o) []) [] then
                      bif m24_ok o (m17b_0 o) (1 : Int) (m42_2 o (m17b_0 o) []) then
                        bif decide ((m24_0 o (m17b_0 o) (1 : Int) (m42_2 o (m17b_0 o) [])) < (0 : Int)) then
                          true
                        else
                          bif m24a_ok o (1 : Int) then
                            bif m25_ok o (1 : Int) then
                              bif decide ((m25_0 o (1 : Int)) < (0 : Int)) then
                                true
                              else
                                bif (m25_0 o (1 : Int)) != (m24a_0 o (1 : Int)) then
                                  true
                                else
                                  true
                            else
                              false
                          else
                            false
                      else
                        false
                    else
                      true
                  else
                    false
            else
              true
          else
            false
        else
          bif m42_ok1 o (m17b_0 o) [] then
            bif m19a_ok o (m42_3 o (m17b_0 o) []) (m41_0 o (m17b_0 o) []) (m42_7 o (m17b_0 o) []) (m41_4 o (m17b_0 o) []) then
              bif m19a_0 o (m42_3 o (m17b_0 o) []) (m41_0 o (m17b_0 o) []) (m42_7 o (m17b_0 o) []) (m41_4 o (m17b_0 o) []) then
                bif (m42_4 o (m17b_0 o) []) != (m41_1 o (m17b_0 o) []) then
                  true
                else
                  bif (m42_5 o (m17b_0 o) []) != (m41_2 o (m17b_0 o) []) then
                    true
                  else
                    bif m19a_ok o (m17b_0 o) (m17b_0 o) (m42_6 o (m17b_0 o) []) [] then
                      bif m19a_0 o (m17b_0 o) (m17b_0 o) (m42_6 o (m17b_0 o) []) [] then
                        bif m24_ok o (m17b_0 o) (1 : Int) (m42_6 o (m17b_0 o) []) then
                          bif decide ((m24_0 o (m17b_0 o) (1 : Int) (m42_6 o (m17b_0 o) [])) < (0 : Int)) then
                            true
                          else
                            bif m24_ok o (m42_3 o (m17b_0 o) []) (1 : Int) (m42_7 o (m17b_0 o) []) then
                              let v1 : List (AV o) := m24_1 o (m42_3 o (m17b_0 o) []) (1 : Int) (m42_7 o (m17b_0 o) [])
                              bif m25a_ok o (m42_3 o (m17b_0 o) []) (1 : Int) v1 then
                                let v2 : Int := m25a_0 o (m42_3 o (m17b_0 o) []) (1 : Int) v1
                                bif decide (v2 < (0 : Int)) then
                                  true
                                else
                                  bif v2 != (m24_0 o (m42_3 o (m17b_0 o) []) (1 : Int) (m42_7 o (m17b_0 o) [])) then
                                    true
                                  else
                                    true
                              else
                                false
                            else
                              false
                        else
                          false
                      else
                        true
                    else
                      false
              else
                true
            else
              false
          else
            false
      else
        false
    else
      false
noncomputable def m12a_0 (o : FO)  : Bool :=
  bif decide ((m15a_0 o (1048576 : Int)) < (0 : Int)) then
    true
  else
    bif m42_ok o (m17b_0 o) [] then
      bif m19_0 o (m41_0 o (m17b_0 o) []) (m41_4 o (m17b_0 o) []) then
        bif (m42_0 o (m17b_0 o) []) != (m41_1 o (m17b_0 o) []) then
          false
        else
          bif (m42_1 o (m17b_0 o) []) != (m41_2 o (m17b_0 o) []) then
            false
          else
            bif m19a_0 o (m17b_0 o) (m17b_0 o) (m42_2 o (m17b_0 o) []) [] then
              bif decide ((m24_0 o (m17b_0 o) (1 : Int) (m42_2 o (m17b_0 o) [])) < (0 : Int)) then
                false
              else
                bif decide ((m25_0 o (1 : Int)) < (0 : Int)) then
                  false
                else
                  bif (m25_0 o (1 : Int)) != (m24a_0 o (1 : Int)) then
                    false
                  else
                    true
            else
              false
      else
        false
    else
      bif m19a_0 o (m42_3 o (m17b_0 o) []) (m41_0 o (m17b_0 o) []) (m42_7 o (m17b_0 o) []) (m41_4 o (m17b_0 o) []) then
        bif (m42_4 o (m17b_0 o) []) != (m41_1 o (m17b_0 o) []) then
          false
        else
          bif (m42_5 o (m17b_0 o) []) != (m41_2 o (m17b_0 o) []) then
            false
          else
            bif m19a_0 o (m17b_0 o) (m17b_0 o) (m42_6 o (m17b_0 o) []) [] then
              bif decide ((m24_0 o (m17b_0 o) (1 : Int) (m42_6 o (m17b_0 o) [])) < (0 : Int)) then
                false
              else
                let v1 : List (AV o) := m24_1 o (m42_3 o (m17b_0 o) []) (1 : Int) (m42_7 o (m17b_0 o) [])
                let v2 : Int := m25a_0 o (m42_3 o (m17b_0 o) []) (1 : Int) v1
                bif decide (v2 < (0 : Int)) then
                  false
                else
                  bif v2 != (m24_0 o (m42_3 o (m17b_0 o) []) (1 : Int) (m42_7 o (m17b_0 o) [])) then
                    false
                  else
                    true
            else
              false
      else
        false
theorem val12a (o : FO)  (h : m12a_ok o = true) : f12a o = some (.bool (m12a_0 o), []) := by
  revert h
  unfold m12a_ok f12a m12a_0
  try dsimp only
  cases (decide ((m15a_0 o (1048576 : Int)) < (0 : Int)))
  · cases (m17b_ok o)
    · intro h; exact absurd h Bool.false_ne_true
    · cases (m41_ok o (m17b_0 o) [])
      · intro h; exact absurd h Bool.false_ne_true
      · cases (m42_ok o (m17b_0 o) [])
        · cases (m42_ok1 o (m17b_0 o) [])
          · intro h; exact absurd h Bool.false_ne_true
          · cases (m19a_ok o (m42_3 o (m17b_0 o) []) (m41_0 o (m17b_0 o) []) (m42_7 o (m17b_0 o) []) (m41_4 o (m17b_0 o) []))
            · intro h; exact absurd h Bool.false_ne_true
            · cases (m19a_0 o (m42_3 o (m17b_0 o) []) (m41_0 o (m17b_0 o) []) (m42_7 o (m17b_0 o) []) (m41_4 o (m17b_0 o) []))
              · intro _; rfl
              · cases ((m42_4 o (m17b_0 o) []) != (m41_1 o (m17b_0 o) []))
                · cases ((m42_5 o (m17b_0 o) []) != (m41_2 o (m17b_0 o) []))
                  · cases (m19a_ok o (m17b_0 o) (m17b_0 o) (m42_6 o (m17b_0 o) []) [])
                    · intro h; exact absurd h Bool.false_ne_true
                    · cases (m19a_0 o (m17b_0 o) (m17b_0 o) (m42_6 o (m17b_0 o) []) [])
                      · intro _; rfl
                      · cases (m24_ok o (m17b_0 o) (1 : Int) (m42_6 o (m17b_0 o) []))
                        · intro h; exact absurd h Bool.false_ne_true
                        · cases (decide ((m24_0 o (m17b_0 o) (1 : Int) (m42_6 o (m17b_0 o) [])) < (0 : Int)))
                          · cases (m24_ok o (m42_3 o (m17b_0 o) []) (1 : Int) (m42_7 o (m17b_0 o) []))
                            · intro h; exact absurd h Bool.false_ne_true
                            · cases (m25a_ok o (m42_3 o (m17b_0 o) []) (1 : Int) (m24_1 o (m42_3 o (m17b_0 o) []) (1 : Int) (m42_7 o (m17b_0 o) [])))
                              · intro h; exact absurd h Bool.false_ne_true
                              · cases (decide ((m25a_0 o (m42_3 o (m17b_0 o) []) (1 : Int) (m24_1 o (m42_3 o (m17b_0 o) []) (1 : Int) (m42_7 o (m17b_0 o) []))) < (0 : Int)))
                                · cases ((m25a_0 o (m42_3 o (m17b_0 o) []) (1 : Int) (m24_1 o (m42_3 o (m17b_0 o) []) (1 : Int) (m42_7 o (m17b_0 o) []))) != (m24_0 o (m42_3 o (m17b_0 o) []) (1 : Int) (m42_7 o (m17b_0 o) [])))
                                  · intro _; rfl
                                  · intro _; rfl
                                · intro _; rfl
                          · intro _; rfl
                  · intro _; rfl
                · intro _; rfl
        · cases (m19_ok o (m41_0 o (m17b_0 o) []) (m41_4 o (m17b_0 o) []))
          · intro h; exact absurd h Bool.false_ne_true
          · cases (m19_0 o (m41_0 o (m17b_0 o) []) (m41_4 o (m17b_0 o) []))
            · intro _; rfl
            · cases ((m42_0 o (m17b_0 o) []) != (m41_1 o (m17b_0 o) []))
              · cases ((m42_1 o (m17b_0 o) []) != (m41_2 o (m17b_0 o) []))
                · cases (m19a_ok o (m17b_0 o) (m17b_0 o) (m42_2 o (m17b_0 o) []) [])
                  · intro h; exact absurd h Bool.false_ne_true
                  · cases (m19a_0 o (m17b_0 o) (m17b_0 o) (m42_2 o (m17b_0 o) []) [])
                    · intro _; rfl
                    · cases (m24_ok o (m17b_0 o) (1 : Int) (m42_2 o (m17b_0 o) []))
                      · intro h; exact absurd h Bool.false_ne_true
                      · cases (decide ((m24_0 o (m17b_0 o) (1 : Int) (m42_2 o (m17b_0 o) [])) < (0 : Int)))
                        · cases (m24a_ok o (1 : Int))
                          · intro h; exact absurd h Bool.false_ne_true
                          · cases (m25_ok o (1 : Int))
                            · intro h; exact absurd h Bool.false_ne_true
                            · cases (decide ((m25_0 o (1 : Int)) < (0 : Int)))
                              · cases ((m25_0 o (1 : Int)) != (m24a_0 o (1 : Int)))
                                · intro _; rfl
                                · intro _; rfl
                              · intro _; rfl
                        · intro _; rfl
                · intro _; rfl
              · intro _; rfl
  · intro _; rfl

noncomputable def e12as (o : FO) : List (AV o) → Heap o → Tr (AV o)
  | [.nilslice], [] => .br (m12a_ok o) (.leaf (.bool (m12a_0 o))) .fail
  | _, _ => .fail
theorem ok12as (N : Nat) (hN : 4096 ≤ N) : CalOk Try.prog 12 (.ro (e12as ieee)) := by
  refine calOk_ro (cok12a 2000000 (by decide)) (is12a 2000000) ?_
  intro args h av hg
  unfold e12as at hg
  split at hg
  · obtain ⟨h0, hg⟩ := br_get hg
    cases hg
    exact ⟨rfl, _, (eq12a ieee 2000000).trans (val12a ieee h0)⟩
  · cases hg
noncomputable def e12s (o : FO) : List (AV o) → Heap o → Tr (AV o)
  | [.slice 0 0 p0 3], [.live _ true p1] => .br (m12_ok o p0 p1) (.leaf (.bool (m12_0 o p0 p1))) .fail
  | _, _ => .fail
theorem ok12s (N : Nat) (hN : 4096 ≤ N) : CalOk Try.prog 12 (.ro (e12s ieee)) := by
  refine calOk_ro (cok12 2000000 (by decide)) (is12 2000000) ?_
  intro args h av hg
  unfold e12s at hg
  split at hg
  · obtain ⟨h0, hg⟩ := br_get hg
    cases hg
    exact ⟨rfl, _, (eq12 ieee 2000000 _ _).trans (val12 ieee _ _ h0)⟩
  · cases hg
noncomputable def e12v1 (o : FO) : List (AV o) → Heap o → Tr (AV o)
  | [.slice 0 0 p0 3], [.live _ true p1] => .br (m12_ok o p0 p1) (.leaf (.bool (m12_0 o p0 p1))) .fail
  | [.nilslice], [] => .br (m12a_ok o) (.leaf (.bool (m12a_0 o))) .fail
  | _, _ => .fail
theorem ok12v1 (N : Nat) (hN : 4096 ≤ N) : CalOk Try.prog 12 (.ro (e12v1 ieee)) := by
  intro args h av hg
  unfold e12v1 at hg
  split at hg
  · exact ok12s N hN _ _ av hg
  · exact ok12as N hN _ _ av hg
  · cases hg

end Go.Proofs.Ytihmppdnglfjnaa
