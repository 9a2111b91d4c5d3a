import Derived.Test.YtbmakfcooonogaaG0
set_option linter.unusedVariables false
set_option maxRecDepth 100000
namespace Go.Proofs.Ytbmakfcooonogaa
open Go.Ab Go.RowKit

/-! loop.example/g01224/laws.toSizes -/
noncomputable def f32 (o : FO) (p0 : List (AV o)) : R o :=
  rdS p0 0 fun x1 =>
  wr1 (List.replicate 20 (.f32 (o.slit 0))) 0 (.f32 x1) fun c2 =>
  rdS p0 1 fun x3 =>
  wr1 c2 1 (.f32 x3) fun c4 =>
  rdS p0 2 fun x5 =>
  wr1 c4 2 (.f32 x5) fun c6 =>
  rdS p0 3 fun x7 =>
  wr1 c6 3 (.f32 x7) fun c8 =>
  rdS p0 4 fun x9 =>
  wr1 c8 4 (.f32 x9) fun c10 =>
  rdS p0 5 fun x11 =>
  wr1 c10 5 (.f32 x11) fun c12 =>
  rdS p0 6 fun x13 =>
  wr1 c12 6 (.f32 x13) fun c14 =>
  rdS p0 7 fun x15 =>
  wr1 c14 7 (.f32 x15) fun c16 =>
  rdS p0 8 fun x17 =>
  wr1 c16 8 (.f32 x17) fun c18 =>
  rdS p0 9 fun x19 =>
  wr1 c18 9 (.f32 x19) fun c20 =>
  rdS p0 10 fun x21 =>
  wr1 c20 10 (.f32 x21) fun c22 =>
  rdS p0 11 fun x23 =>
  wr1 c22 11 (.f32 x23) fun c24 =>
  rdS p0 12 fun x25 =>
  wr1 c24 12 (.f32 x25) fun c26 =>
  rdS p0 13 fun x27 =>
  wr1 c26 13 (.f32 x27) fun c28 =>
  rdS p0 14 fun x29 =>
  wr1 c28 14 (.f32 x29) fun c30 =>
  rdS p0 15 fun x31 =>
  wr1 c30 15 (.f32 x31) fun c32 =>
  rdS p0 16 fun x33 =>
  wr1 c32 16 (.f32 x33) fun c34 =>
  rdS p0 17 fun x35 =>
  wr1 c34 17 (.f32 x35) fun c36 =>
  rdS p0 18 fun x37 =>
  wr1 c36 18 (.f32 x37) fun c38 =>
  rdS p0 19 fun x39 =>
  wr1 c38 19 (.f32 x39) fun c40 =>
  rdA c40 0 20 fun c41 =>
  wrA (List.replicate 20 (.f32 (o.slit 0))) 0 20 c41 fun c42 =>
  rdA c42 0 20 fun c43 =>
  some (.agg c43, [])
noncomputable def c32 (o : FO) (N : Nat) : Cx o :=
  { ty := tab [(33, ty33 o), (39, ty39 o), (51, ty51 o)]
    fn := tab []
    rounds := 4096, nt := 15, base := 0
    loops := [loopU [1, 2, 3, 4]] }
noncomputable def b32 : Code := match Try.f32.body with | some b => b | none => .skip
theorem is32 (N : Nat) : FnIs Try.prog (c32 ieee N) 32 Try.f32 b32 := ⟨by kernel_rfl, by kernel_rfl, by kernel_rfl, by kernel_rfl⟩
theorem eq32 (o : FO) (N : Nat) (p0 : List (AV o)) : afun (c32 o N) Try.f32.results.toList b32 [.agg p0] [] = f32 o p0 := by kernel_rfl
theorem cok32 (N : Nat) (hN : 4096 ≤ N) : CtxOk Try.prog (c32 ieee N) := by
  refine ctxOk ?_ ?_ mixed ?_
  · intro p hp
    simp only [List.mem_cons, List.not_mem_nil, or_false] at hp
    rcases hp with rfl | rfl | rfl
    · exact tyOk33
    · exact tyOk39
    · exact tyOk51
  · intro p hp; cases hp
  · intro p hp
    simp only [List.mem_cons, List.not_mem_nil, or_false] at hp
    subst hp; exact loopU_ok _
noncomputable def k32 (o : FO) : R o → Bool := fun r => match r with | some (.agg _, _) => true | _ => false
theorem k32_c (o : FO) (b : Bool) (x y : R o) : k32 o (bif b then x else y) = bif b then k32 o x else k32 o y := by cases b <;> rfl
noncomputable def m32_ok (o : FO) (p0 : List (AV o)) : Bool := k32 o (f32 o p0)
noncomputable def g32_0 (o : FO) : R o → List (AV o) := fun r => match r with | some (.agg r0, _) => r0 | _ => []
theorem g32_0c (o : FO) (b : Bool) (x y : R o) : g32_0 o (bif b then x else y) = bif b then g32_0 o x else g32_0 o y := by cases b <;> rfl
noncomputable def m32_0 (o : FO) (p0 : List (AV o)) : List (AV o) := g32_0 o (f32 o p0)
noncomputable def m32_h (o : FO) (p0 : List (AV o)) : Heap o := match f32 o p0 with | some (_, h) => h | _ => []
theorem val32 (o : FO) (p0 : List (AV o)) (h : m32_ok o p0 = true) : f32 o p0 = some (.agg (m32_0 o p0), m32_h o p0) := by
  unfold m32_ok k32 at h
  unfold m32_0 g32_0 m32_h
  generalize f32 o p0 = r at h ⊢
  split at h
  · rfl
  · cases h

noncomputable def e32 (o : FO) : List (AV o) → Tr (AV o)
  | [.agg p0] => .br (m32_ok o p0) (.leaf (.agg (m32_0 o p0))) .fail
  | _ => .fail
theorem ok32 (N : Nat) (hN : 4096 ≤ N) : CalOk Try.prog 32 (.pure (e32 ieee)) := by
  refine calOk_pure (cok32 4096 (Nat.le_refl _)) (is32 4096) ?_
  intro args av hg
  unfold e32 at hg
  split at hg
  · obtain ⟨h0, hg⟩ := br_get hg
    cases hg
    exact ⟨rfl, rfl, _, (eq32 ieee 4096 _).trans (val32 ieee _ h0)⟩
  · cases hg

/-! loop.example/g01224/spec.l01Finite -/
noncomputable def f88 (o : FO) (p0 : o.S) : R o :=
  some (.bool (o.seq (o.ssub p0 p0) (o.slit 0)), [])
noncomputable def c88 (o : FO) (N : Nat) : Cx o :=
  { ty := tab []
    fn := tab []
    rounds := 4096, nt := 7, base := 0
    loops := [] }
noncomputable def b88 : Code := match Try.f88.body with | some b => b | none => .skip
theorem is88 (N : Nat) : FnIs Try.prog (c88 ieee N) 88 Try.f88 b88 := ⟨by kernel_rfl, by kernel_rfl, by kernel_rfl, by kernel_rfl⟩
theorem eq88 (o : FO) (N : Nat) (p0 : o.S) : afun (c88 o N) Try.f88.results.toList b88 [.f32 p0] [] = f88 o p0 := by kernel_rfl
theorem cok88 (N : Nat) (hN : 4096 ≤ N) : CtxOk Try.prog (c88 ieee N) := by
  refine ctxOk ?_ ?_ mixed ?_
  · intro p hp; cases hp
  · intro p hp; cases hp
  · intro p hp; cases hp
noncomputable def m88_0 (o : FO) (p0 : o.S) : Bool :=
  o.seq (o.ssub p0 p0) (o.slit 0)
theorem val88 (o : FO) (p0 : o.S) : f88 o p0 = some (.bool (m88_0 o p0), []) := by
  unfold f88 m88_0
  rfl

noncomputable def e88 (o : FO) : List (AV o) → Tr (AV o)
  | [.f32 p0] => .leaf (.bool (m88_0 o p0))
  | _ => .fail
theorem ok88 (N : Nat) (hN : 4096 ≤ N) : CalOk Try.prog 88 (.pure (e88 ieee)) := by
  refine calOk_pure (cok88 4096 (Nat.le_refl _)) (is88 4096) ?_
  intro args av hg
  unfold e88 at hg
  split at hg
  · cases hg
    exact ⟨rfl, rfl, _, (eq88 ieee 4096 _).trans (val88 ieee _)⟩
  · cases hg

/-! math.Float32bits -/
noncomputable def e89 (o : FO) : List (AV o) → Tr (AV o) := eBitsS o
theorem ok89 (N : Nat) (_ : 4096 ≤ N) : CalOk Try.prog 89 (.pure (e89 ieee)) := calOk_bitsS (fn := Try.f89) (by kernel_rfl) (by kernel_rfl) (by kernel_rfl) (by kernel_rfl) (by kernel_rfl)

/-! loop.example/g01224/spec.l01Amount -/
noncomputable def f57 (o : FO) (p0 : o.S) : R o :=
  bif m88_0 o p0 then
    bif o.slt (o.slit 0) p0 then
      some (.bool true, [])
    else
      gd (o.seq p0 p0) (
      bif (o.sbits p0) == (0 : Int) then
        some (.bool true, [])
      else
        some (.bool false, []))
  else
    some (.bool false, [])
noncomputable def c57 (o : FO) (N : Nat) : Cx o :=
  { ty := tab []
    fn := tab [(88, .pure (e88 o)), (89, .pure (e89 o))]
    rounds := 4096, nt := 14, base := 0
    loops := [] }
noncomputable def b57 : Code := match Try.f57.body with | some b => b | none => .skip
theorem is57 (N : Nat) : FnIs Try.prog (c57 ieee N) 57 Try.f57 b57 := ⟨by kernel_rfl, by kernel_rfl, by kernel_rfl, by kernel_rfl⟩
theorem eq57 (o : FO) (N : Nat) (p0 : o.S) : afun (c57 o N) Try.f57.results.toList b57 [.f32 p0] [] = f57 o p0 := by kernel_rfl
theorem cok57 (N : Nat) (hN : 4096 ≤ N) : CtxOk Try.prog (c57 ieee N) := by
  refine ctxOk ?_ ?_ mixed ?_
  · intro p hp; cases hp
  · intro p hp
    simp only [List.mem_cons, List.not_mem_nil, or_false] at hp
    rcases hp with rfl | rfl
    · exact ok88 N hN
    · exact ok89 N hN
  · intro p hp; cases hp


theorem val57 (p0 : ieee.S) : f57 ieee p0 = some (.bool (amtS ieee p0), []) := by
  have e : f57 ieee p0 = (bif finS ieee p0 then (bif ieee.slt (ieee.slit 0) p0 then some (.bool true, []) else gd (ieee.seq p0 p0) (bif ieee.sbits p0 == 0 then some (.bool true, []) else some (.bool false, []))) else some (.bool false, [])) := rfl
  rw [e]
  unfold amtS
  have h := seq_of_fin p0
  revert h
  cases finS ieee p0
  · intro _; rfl
  · intro h
    rw [h rfl]
    cases ieee.slt (ieee.slit 0) p0
    · cases (ieee.sbits p0 == 0) <;> rfl
    · rfl

noncomputable def e57 (o : FO) : List (AV o) → Tr (AV o)
  | [.f32 p0] => .leaf (.bool (amtS o p0))
  | _ => .fail
theorem ok57 (N : Nat) (hN : 4096 ≤ N) : CalOk Try.prog 57 (.pure (e57 ieee)) := by
  refine calOk_pure (cok57 4096 (Nat.le_refl _)) (is57 4096) ?_
  intro args av hg
  unfold e57 at hg
  split at hg
  · cases hg
    exact ⟨rfl, rfl, _, (eq57 ieee 4096 _).trans (val57 _)⟩
  · cases hg

/-! loop.example/g01224/spec.l01Ok -/
noncomputable def f95 (o : FO) (p0 : List (AV o)) : R o :=
  rdS p0 0 fun x1 =>
  bif !(amtS o x1) then
    some (.bool false, [.live false true p0])
  else
    rdS p0 1 fun x2 =>
    bif !(amtS o x2) then
      some (.bool false, [.live false true p0])
    else
      rdS p0 2 fun x3 =>
      bif !(amtS o x3) then
        some (.bool false, [.live false true p0])
      else
        rdS p0 3 fun x4 =>
        bif !(amtS o x4) then
          some (.bool false, [.live false true p0])
        else
          rdS p0 4 fun x5 =>
          bif !(amtS o x5) then
            some (.bool false, [.live false true p0])
          else
            rdS p0 5 fun x6 =>
            bif !(amtS o x6) then
              some (.bool false, [.live false true p0])
            else
              rdS p0 6 fun x7 =>
              bif !(amtS o x7) then
                some (.bool false, [.live false true p0])
              else
                rdS p0 7 fun x8 =>
                bif !(amtS o x8) then
                  some (.bool false, [.live false true p0])
                else
                  rdS p0 8 fun x9 =>
                  bif !(amtS o x9) then
                    some (.bool false, [.live false true p0])
                  else
                    rdS p0 9 fun x10 =>
                    bif !(amtS o x10) then
                      some (.bool false, [.live false true p0])
                    else
                      rdS p0 10 fun x11 =>
                      bif !(amtS o x11) then
                        some (.bool false, [.live false true p0])
                      else
                        rdS p0 11 fun x12 =>
                        bif !(amtS o x12) then
                          some (.bool false, [.live false true p0])
                        else
                          rdS p0 12 fun x13 =>
                          bif !(amtS o x13) then
                            some (.bool false, [.live false true p0])
                          else
                            rdS p0 13 fun x14 =>
                            bif !(amtS o x14) then
                              some (.bool false, [.live false true p0])
                            else
                              rdS p0 14 fun x15 =>
                              bif !(amtS o x15) then
                                some (.bool false, [.live false true p0])
                              else
                                rdS p0 15 fun x16 =>
                                bif !(amtS o x16) then
                                  some (.bool false, [.live false true p0])
                                else
                                  rdS p0 16 fun x17 =>
                                  bif !(amtS o x17) then
                                    some (.bool false, [.live false true p0])
                                  else
                                    rdS p0 17 fun x18 =>
                                    bif !(amtS o x18) then
                                      some (.bool false, [.live false true p0])
                                    else
                                      rdS p0 18 fun x19 =>
                                      bif !(amtS o x19) then
                                        some (.bool false, [.live false true p0])
                                      else
                                        rdS p0 19 fun x20 =>
                                        bif !(amtS o x20) then
                                          some (.bool false, [.live false true p0])
                                        else
                                          some (.bool true, [.live false true p0])
noncomputable def c95 (o : FO) (N : Nat) : Cx o :=
  { ty := tab [(33, ty33 o), (51, ty51 o)]
    fn := tab [(57, .pure (e57 o))]
    rounds := 4096, nt := 15, base := 1
    loops := [loopU [0, 3]] }
noncomputable def b95 : Code := match Try.f95.body with | some b => b | none => .skip
theorem is95 (N : Nat) : FnIs Try.prog (c95 ieee N) 95 Try.f95 b95 := ⟨by kernel_rfl, by kernel_rfl, by kernel_rfl, by kernel_rfl⟩
theorem eq95 (o : FO) (N : Nat) (p0 : List (AV o)) : afun (c95 o N) Try.f95.results.toList b95 [.ptr 0 0] [.live false true p0] = f95 o p0 := by kernel_rfl
theorem cok95 (N : Nat) (hN : 4096 ≤ N) : CtxOk Try.prog (c95 ieee N) := by
  refine ctxOk ?_ ?_ mixed ?_
  · intro p hp
    simp only [List.mem_cons, List.not_mem_nil, or_false] at hp
    rcases hp with rfl | rfl
    · exact tyOk33
    · exact tyOk51
  · intro p hp
    simp only [List.mem_cons, List.not_mem_nil, or_false] at hp
    subst hp; exact ok57 N hN
  · intro p hp
    simp only [List.mem_cons, List.not_mem_nil, or_false] at hp
    subst hp; exact loopU_ok _
noncomputable def k95 (o : FO) : R o → Bool := fun r => match r with | some (.bool _, _) => true | _ => false
theorem k95_c (o : FO) (b : Bool) (x y : R o) : k95 o (bif b then x else y) = bif b then k95 o x else k95 o y := by cases b <;> rfl
noncomputable def m95_ok (o : FO) (p0 : List (AV o)) : Bool := k95 o (f95 o p0)
noncomputable def g95_0 (o : FO) : R o → Bool := fun r => match r with | some (.bool r0, _) => r0 | _ => false
theorem g95_0c (o : FO) (b : Bool) (x y : R o) : g95_0 o (bif b then x else y) = bif b then g95_0 o x else g95_0 o y := by cases b <;> rfl
noncomputable def m95_0 (o : FO) (p0 : List (AV o)) : Bool := g95_0 o (f95 o p0)
noncomputable def m95_h (o : FO) (p0 : List (AV o)) : Heap o := match f95 o p0 with | some (_, h) => h | _ => []
theorem val95 (o : FO) (p0 : List (AV o)) (h : m95_ok o p0 = true) : f95 o p0 = some (.bool (m95_0 o p0), m95_h o p0) := by
  unfold m95_ok k95 at h
  unfold m95_0 g95_0 m95_h
  generalize f95 o p0 = r at h ⊢
  split at h
  · rfl
  · cases h

noncomputable def e95 (o : FO) : List (AV o) → Heap o → Tr (AV o)
  | [.ptr 0 0], [.live _ true p0] => .br (m95_ok o p0) (.leaf (.bool (m95_0 o p0))) .fail
  | _, _ => .fail
theorem ok95 (N : Nat) (hN : 4096 ≤ N) : CalOk Try.prog 95 (.ro (e95 ieee)) := by
  refine calOk_ro (cok95 4096 (Nat.le_refl _)) (is95 4096) ?_
  intro args h av hg
  unfold e95 at hg
  split at hg
  · obtain ⟨h0, hg⟩ := br_get hg
    cases hg
    exact ⟨rfl, _, (eq95 ieee 4096 _).trans (val95 ieee _ h0)⟩
  · cases hg

/-! loop.example/g01224/spec.l00In -/
noncomputable def f82 (o : FO) (p0 : Int) (p1 : Int) (p2 : Int) : R o :=
  bif decide (p0 ≥ p1) then
    bif decide (p0 ≤ p2) then
      some (.bool true, [])
    else
      some (.bool false, [])
  else
    some (.bool false, [])
noncomputable def c82 (o : FO) (N : Nat) : Cx o :=
  { ty := tab []
    fn := tab []
    rounds := 4096, nt := 15, base := 0
    loops := [] }
noncomputable def b82 : Code := match Try.f82.body with | some b => b | none => .skip
theorem is82 (N : Nat) : FnIs Try.prog (c82 ieee N) 82 Try.f82 b82 := ⟨by kernel_rfl, by kernel_rfl, by kernel_rfl, by kernel_rfl⟩
theorem eq82 (o : FO) (N : Nat) (p0 : Int) (p1 : Int) (p2 : Int) : afun (c82 o N) Try.f82.results.toList b82 [.int .i64 p0, .int .i64 p1, .int .i64 p2] [] = f82 o p0 p1 p2 := by kernel_rfl
theorem cok82 (N : Nat) (hN : 4096 ≤ N) : CtxOk Try.prog (c82 ieee N) := by
  refine ctxOk ?_ ?_ mixed ?_
  · intro p hp; cases hp
  · intro p hp; cases hp
  · intro p hp; cases hp
noncomputable def m82_0 (o : FO) (p0 : Int) (p1 : Int) (p2 : Int) : Bool :=
  bif decide (p0 ≥ p1) then
    decide (p0 ≤ p2)
  else
    false
theorem val82 (o : FO) (p0 : Int) (p1 : Int) (p2 : Int) : f82 o p0 p1 p2 = some (.bool (m82_0 o p0 p1 p2), []) := by
  unfold f82 m82_0
  try dsimp only
  cases (decide (p0 ≥ p1))
  · rfl
  · cases (decide (p0 ≤ p2))
    · rfl
    · rfl

noncomputable def e82 (o : FO) : List (AV o) → Tr (AV o)
  | [.int .i64 p0, .int .i64 p1, .int .i64 p2] => .leaf (.bool (m82_0 o p0 p1 p2))
  | _ => .fail
theorem ok82 (N : Nat) (hN : 4096 ≤ N) : CalOk Try.prog 82 (.pure (e82 ieee)) := by
  refine calOk_pure (cok82 4096 (Nat.le_refl _)) (is82 4096) ?_
  intro args av hg
  unfold e82 at hg
  split at hg
  · cases hg
    exact ⟨rfl, rfl, _, (eq82 ieee 4096 _ _ _).trans (val82 ieee _ _ _)⟩
  · cases hg

/-! loop.example/g01224/spec.l01Share -/
noncomputable def f96 (o : FO) (p0 : o.S) : R o :=
  bif amtS o p0 then
    bif o.sle p0 (o.slit 1065353216) then
      some (.bool true, [])
    else
      some (.bool false, [])
  else
    some (.bool false, [])
noncomputable def c96 (o : FO) (N : Nat) : Cx o :=
  { ty := tab []
    fn := tab [(57, .pure (e57 o))]
    rounds := 4096, nt := 9, base := 0
    loops := [] }
noncomputable def b96 : Code := match Try.f96.body with | some b => b | none => .skip
theorem is96 (N : Nat) : FnIs Try.prog (c96 ieee N) 96 Try.f96 b96 := ⟨by kernel_rfl, by kernel_rfl, by kernel_rfl, by kernel_rfl⟩
theorem eq96 (o : FO) (N : Nat) (p0 : o.S) : afun (c96 o N) Try.f96.results.toList b96 [.f32 p0] [] = f96 o p0 := by kernel_rfl
theorem cok96 (N : Nat) (hN : 4096 ≤ N) : CtxOk Try.prog (c96 ieee N) := by
  refine ctxOk ?_ ?_ mixed ?_
  · intro p hp; cases hp
  · intro p hp
    simp only [List.mem_cons, List.not_mem_nil, or_false] at hp
    subst hp; exact ok57 N hN
  · intro p hp; cases hp
noncomputable def m96_0 (o : FO) (p0 : o.S) : Bool :=
  bif amtS o p0 then
    o.sle p0 (o.slit 1065353216)
  else
    false
theorem val96 (o : FO) (p0 : o.S) : f96 o p0 = some (.bool (m96_0 o p0), []) := by
  unfold f96 m96_0
  try dsimp only
  cases (amtS o p0)
  · rfl
  · cases (o.sle p0 (o.slit 1065353216))
    · rfl
    · rfl

noncomputable def e96 (o : FO) : List (AV o) → Tr (AV o)
  | [.f32 p0] => .leaf (.bool (m96_0 o p0))
  | _ => .fail
theorem ok96 (N : Nat) (hN : 4096 ≤ N) : CalOk Try.prog 96 (.pure (e96 ieee)) := by
  refine calOk_pure (cok96 4096 (Nat.le_refl _)) (is96 4096) ?_
  intro args av hg
  unfold e96 at hg
  split at hg
  · cases hg
    exact ⟨rfl, rfl, _, (eq96 ieee 4096 _).trans (val96 ieee _)⟩
  · cases hg

/-! loop.example/g01224/spec.l03Breaks -/
noncomputable def f73 (o : FO) (p0 : Int) (p1 : o.S) (p2 : List (AV o)) : R o :=
  gd (m95_ok o p2) (
  bif !(m95_0 o p2) then
    some (.int .i64 (1 : Int), [.live false true p2])
  else
    bif m82_0 o p0 (1 : Int) (19 : Int) then
      bif m96_0 o p1 then
        some (.int .i64 (0 : Int), [.live false true p2])
      else
        some (.int .i64 (2 : Int), [.live false true p2])
    else
      some (.int .i64 (2 : Int), [.live false true p2]))
noncomputable def c73 (o : FO) (N : Nat) : Cx o :=
  { ty := tab []
    fn := tab [(82, .pure (e82 o)), (95, .ro (e95 o)), (96, .pure (e96 o))]
    rounds := 4096, nt := 18, base := 1
    loops := [] }
noncomputable def b73 : Code := match Try.f73.body with | some b => b | none => .skip
theorem is73 (N : Nat) : FnIs Try.prog (c73 ieee N) 73 Try.f73 b73 := ⟨by kernel_rfl, by kernel_rfl, by kernel_rfl, by kernel_rfl⟩
theorem eq73 (o : FO) (N : Nat) (p0 : Int) (p1 : o.S) (p2 : List (AV o)) : afun (c73 o N) Try.f73.results.toList b73 [.ptr 0 0, .int .i64 p0, .f32 p1] [.live false true p2] = f73 o p0 p1 p2 := by kernel_rfl
theorem cok73 (N : Nat) (hN : 4096 ≤ N) : CtxOk Try.prog (c73 ieee N) := by
  refine ctxOk ?_ ?_ mixed ?_
  · intro p hp; cases hp
  · intro p hp
    simp only [List.mem_cons, List.not_mem_nil, or_false] at hp
    rcases hp with rfl | rfl | rfl
    · exact ok82 N hN
    · exact ok95 N hN
    · exact ok96 N hN
  · intro p hp; cases hp
noncomputable def m73_ok (o : FO) (p0 : Int) (p1 : o.S) (p2 : List (AV o)) : Bool :=
  bif m95_ok o p2 then
    bif m95_0 o p2 then
      bif m82_0 o p0 (1 : Int) (19 : Int) then
        true
      else
        true
    else
      true
  else
    false
noncomputable def m73_0 (o : FO) (p0 : Int) (p1 : o.S) (p2 : List (AV o)) : Int :=
  bif m95_0 o p2 then
    bif m82_0 o p0 (1 : Int) (19 : Int) then
      bif m96_0 o p1 then
        (0 : Int)
      else
        (2 : Int)
    else
      (2 : Int)
  else
    (1 : Int)
theorem val73 (o : FO) (p0 : Int) (p1 : o.S) (p2 : List (AV o)) (h : m73_ok o p0 p1 p2 = true) : f73 o p0 p1 p2 = some (.int .i64 (m73_0 o p0 p1 p2), [.live false true p2]) := by
  revert h
  unfold m73_ok f73 m73_0
  try dsimp only
  cases (m95_ok o p2)
  · intro h; exact absurd h Bool.false_ne_true
  · cases (m95_0 o p2)
    · intro _; rfl
    · cases (m82_0 o p0 (1 : Int) (19 : Int))
      · intro _; rfl
      · cases (m96_0 o p1)
        · intro _; rfl
        · intro _; rfl

noncomputable def e73 (o : FO) : List (AV o) → Heap o → Tr (AV o)
  | [.ptr 0 0, .int .i64 p0, .f32 p1], [.live _ true p2] => .br (m73_ok o p0 p1 p2) (.leaf (.int .i64 (m73_0 o p0 p1 p2))) .fail
  | _, _ => .fail
theorem ok73 (N : Nat) (hN : 4096 ≤ N) : CalOk Try.prog 73 (.ro (e73 ieee)) := by
  refine calOk_ro (cok73 4096 (Nat.le_refl _)) (is73 4096) ?_
  intro args h av hg
  unfold e73 at hg
  split at hg
  · obtain ⟨h0, hg⟩ := br_get hg
    cases hg
    exact ⟨rfl, _, (eq73 ieee 4096 _ _ _).trans (val73 ieee _ _ _ h0)⟩
  · cases hg

/-! loop.example/g01224/spec.l03Break -/
noncomputable def f75 (o : FO) (p0 : List (AV o)) (p1 : Int) (p2 : o.S) : R o :=
  gd (decide (0 ≤ p1) && decide (p1 < ((20 : Nat) : Int))) (
  rdS p0 (0 + (((p1).toNat) * 1)) fun x1 =>
  gd (decide (0 ≤ p1) && decide (p1 < ((20 : Nat) : Int))) (
  rdS p0 (0 + (((p1).toNat) * 1)) fun x2 =>
  gd (decide (0 ≤ p1) && decide (p1 < ((20 : Nat) : Int))) (
  wr1 p0 (0 + (((p1).toNat) * 1)) (.f32 (o.ssub x2 (o.smul p2 x1))) fun c3 =>
  let v1 : Int := IntKind.wrap .i64 (p1 - (1 : Int))
  gd (decide (0 ≤ v1) && decide (v1 < ((20 : Nat) : Int))) (
  rdS c3 (0 + (((v1).toNat) * 1)) fun x4 =>
  gd (decide (0 ≤ v1) && decide (v1 < ((20 : Nat) : Int))) (
  wr1 c3 (0 + (((v1).toNat) * 1)) (.f32 (o.sadd x4 (o.smul (o.slit 1073741824) (o.smul p2 x1)))) fun c5 =>
  rdA c5 0 20 fun c6 =>
  wrA (List.replicate 20 (.f32 (o.slit 0))) 0 20 c6 fun c7 =>
  rdA c7 0 20 fun c8 =>
  some (.agg c8, []))))))
noncomputable def c75 (o : FO) (N : Nat) : Cx o :=
  { ty := tab [(33, ty33 o), (51, ty51 o)]
    fn := tab []
    rounds := 4096, nt := 31, base := 0
    loops := [] }
noncomputable def b75 : Code := match Try.f75.body with | some b => b | none => .skip
theorem is75 (N : Nat) : FnIs Try.prog (c75 ieee N) 75 Try.f75 b75 := ⟨by kernel_rfl, by kernel_rfl, by kernel_rfl, by kernel_rfl⟩
theorem eq75 (o : FO) (N : Nat) (p0 : List (AV o)) (p1 : Int) (p2 : o.S) : afun (c75 o N) Try.f75.results.toList b75 [.agg p0, .int .i64 p1, .f32 p2] [] = f75 o p0 p1 p2 := by kernel_rfl
theorem cok75 (N : Nat) (hN : 4096 ≤ N) : CtxOk Try.prog (c75 ieee N) := by
  refine ctxOk ?_ ?_ mixed ?_
  · intro p hp
    simp only [List.mem_cons, List.not_mem_nil, or_false] at hp
    rcases hp with rfl | rfl
    · exact tyOk33
    · exact tyOk51
  · intro p hp; cases hp
  · intro p hp; cases hp
noncomputable def k75 (o : FO) : R o → Bool := fun r => match r with | some (.agg _, _) => true | _ => false
theorem k75_c (o : FO) (b : Bool) (x y : R o) : k75 o (bif b then x else y) = bif b then k75 o x else k75 o y := by cases b <;> rfl
noncomputable def m75_ok (o : FO) (p0 : List (AV o)) (p1 : Int) (p2 : o.S) : Bool := k75 o (f75 o p0 p1 p2)
noncomputable def g75_0 (o : FO) : R o → List (AV o) := fun r => match r with | some (.agg r0, _) => r0 | _ => []
theorem g75_0c (o : FO) (b : Bool) (x y : R o) : g75_0 o (bif b then x else y) = bif b then g75_0 o x else g75_0 o y := by cases b <;> rfl
noncomputable def m75_0 (o : FO) (p0 : List (AV o)) (p1 : Int) (p2 : o.S) : List (AV o) := g75_0 o (f75 o p0 p1 p2)
noncomputable def m75_h (o : FO) (p0 : List (AV o)) (p1 : Int) (p2 : o.S) : Heap o := match f75 o p0 p1 p2 with | some (_, h) => h | _ => []
theorem val75 (o : FO) (p0 : List (AV o)) (p1 : Int) (p2 : o.S) (h : m75_ok o p0 p1 p2 = true) : f75 o p0 p1 p2 = some (.agg (m75_0 o p0 p1 p2), m75_h o p0 p1 p2) := by
  unfold m75_ok k75 at h
  unfold m75_0 g75_0 m75_h
  generalize f75 o p0 p1 p2 = r at h ⊢
  split at h
  · rfl
  · cases h

noncomputable def e75 (o : FO) : List (AV o) → Tr (AV o)
  | [.agg p0, .int .i64 p1, .f32 p2] => .br (m75_ok o p0 p1 p2) (.leaf (.agg (m75_0 o p0 p1 p2))) .fail
  | _ => .fail
theorem ok75 (N : Nat) (hN : 4096 ≤ N) : CalOk Try.prog 75 (.pure (e75 ieee)) := by
  refine calOk_pure (cok75 4096 (Nat.le_refl _)) (is75 4096) ?_
  intro args av hg
  unfold e75 at hg
  split at hg
  · obtain ⟨h0, hg⟩ := br_get hg
    cases hg
    exact ⟨rfl, rfl, _, (eq75 ieee 4096 _ _ _).trans (val75 ieee _ _ _ h0)⟩
  · cases hg

/-! loop.example/g01224/spec.l01Made -/
noncomputable def f74 (o : FO) (p0 : List (AV o)) : R o :=
  rdS p0 0 fun x1 =>
  bif !(m88_0 o x1) then
    wrA (List.replicate 20 (.f32 (o.slit 0))) 0 20 (List.replicate 20 (.f32 (o.slit 0))) fun c2 =>
    rdA c2 0 20 fun c3 =>
    some (.tup [.agg c3, .int .i64 (4 : Int)], [])
  else
    rdS p0 1 fun x4 =>
    bif !(m88_0 o x4) then
      wrA (List.replicate 20 (.f32 (o.slit 0))) 0 20 (List.replicate 20 (.f32 (o.slit 0))) fun c5 =>
      rdA c5 0 20 fun c6 =>
      some (.tup [.agg c6, .int .i64 (4 : Int)], [])
    else
      rdS p0 2 fun x7 =>
      bif !(m88_0 o x7) then
        wrA (List.replicate 20 (.f32 (o.slit 0))) 0 20 (List.replicate 20 (.f32 (o.slit 0))) fun c8 =>
        rdA c8 0 20 fun c9 =>
        some (.tup [.agg c9, .int .i64 (4 : Int)], [])
      else
        rdS p0 3 fun x10 =>
        bif !(m88_0 o x10) then
          wrA (List.replicate 20 (.f32 (o.slit 0))) 0 20 (List.replicate 20 (.f32 (o.slit 0))) fun c11 =>
          rdA c11 0 20 fun c12 =>
          some (.tup [.agg c12, .int .i64 (4 : Int)], [])
        else
          rdS p0 4 fun x13 =>
          bif !(m88_0 o x13) then
            wrA (List.replicate 20 (.f32 (o.slit 0))) 0 20 (List.replicate 20 (.f32 (o.slit 0))) fun c14 =>
            rdA c14 0 20 fun c15 =>
            some (.tup [.agg c15, .int .i64 (4 : Int)], [])
          else
            rdS p0 5 fun x16 =>
            bif !(m88_0 o x16) then
              wrA (List.replicate 20 (.f32 (o.slit 0))) 0 20 (List.replicate 20 (.f32 (o.slit 0))) fun c17 =>
              rdA c17 0 20 fun c18 =>
              some (.tup [.agg c18, .int .i64 (4 : Int)], [])
            else
              rdS p0 6 fun x19 =>
              bif !(m88_0 o x19) then
                wrA (List.replicate 20 (.f32 (o.slit 0))) 0 20 (List.replicate 20 (.f32 (o.slit 0))) fun c20 =>
                rdA c20 0 20 fun c21 =>
                some (.tup [.agg c21, .int .i64 (4 : Int)], [])
              else
                rdS p0 7 fun x22 =>
                bif !(m88_0 o x22) then
                  wrA (List.replicate 20 (.f32 (o.slit 0))) 0 20 (List.replicate 20 (.f32 (o.slit 0))) fun c23 =>
                  rdA c23 0 20 fun c24 =>
                  some (.tup [.agg c24, .int .i64 (4 : Int)], [])
                else
                  rdS p0 8 fun x25 =>
                  bif !(m88_0 o x25) then
                    wrA (List.replicate 20 (.f32 (o.slit 0))) 0 20 (List.replicate 20 (.f32 (o.slit 0))) fun c26 =>
                    rdA c26 0 20 fun c27 =>
                    some (.tup [.agg c27, .int .i64 (4 : Int)], [])
                  else
                    rdS p0 9 fun x28 =>
                    bif !(m88_0 o x28) then
                      wrA (List.replicate 20 (.f32 (o.slit 0))) 0 20 (List.replicate 20 (.f32 (o.slit 0))) fun c29 =>
                      rdA c29 0 20 fun c30 =>
                      some (.tup [.agg c30, .int .i64 (4 : Int)], [])
                    else
                      rdS p0 10 fun x31 =>
                      bif !(m88_0 o x31) then
                        wrA (List.replicate 20 (.f32 (o.slit 0))) 0 20 (List.replicate 20 (.f32 (o.slit 0))) fun c32 =>
                        rdA c32 0 20 fun c33 =>
                        some (.tup [.agg c33, .int .i64 (4 : Int)], [])
                      else
                        rdS p0 11 fun x34 =>
                        bif !(m88_0 o x34) then
                          wrA (List.replicate 20 (.f32 (o.slit 0))) 0 20 (List.replicate 20 (.f32 (o.slit 0))) fun c35 =>
                          rdA c35 0 20 fun c36 =>
                          some (.tup [.agg c36, .int .i64 (4 : Int)], [])
                        else
                          rdS p0 12 fun x37 =>
                          bif !(m88_0 o x37) then
                            wrA (List.replicate 20 (.f32 (o.slit 0))) 0 20 (List.replicate 20 (.f32 (o.slit 0))) fun c38 =>
                            rdA c38 0 20 fun c39 =>
                            some (.tup [.agg c39, .int .i64 (4 : Int)], [])
                          else
                            rdS p0 13 fun x40 =>
                            bif !(m88_0 o x40) then
                              wrA (List.replicate 20 (.f32 (o.slit 0))) 0 20 (List.replicate 20 (.f32 (o.slit 0))) fun c41 =>
                              rdA c41 0 20 fun c42 =>
                              some (.tup [.agg c42, .int .i64 (4 : Int)], [])
                            else
                              rdS p0 14 fun x43 =>
                              bif !(m88_0 o x43) then
                                wrA (List.replicate 20 (.f32 (o.slit 0))) 0 20 (List.replicate 20 (.f32 (o.slit 0))) fun c44 =>
                                rdA c44 0 20 fun c45 =>
                                some (.tup [.agg c45, .int .i64 (4 : Int)], [])
                              else
                                rdS p0 15 fun x46 =>
                                bif !(m88_0 o x46) then
                                  wrA (List.replicate 20 (.f32 (o.slit 0))) 0 20 (List.replicate 20 (.f32 (o.slit 0))) fun c47 =>
                                  rdA c47 0 20 fun c48 =>
                                  some (.tup [.agg c48, .int .i64 (4 : Int)], [])
                                else
                                  rdS p0 16 fun x49 =>
                                  bif !(m88_0 o x49) then
                                    wrA (List.replicate 20 (.f32 (o.slit 0))) 0 20 (List.replicate 20 (.f32 (o.slit 0))) fun c50 =>
                                    rdA c50 0 20 fun c51 =>
                                    some (.tup [.agg c51, .int .i64 (4 : Int)], [])
                                  else
                                    rdS p0 17 fun x52 =>
                                    bif !(m88_0 o x52) then
                                      wrA (List.replicate 20 (.f32 (o.slit 0))) 0 20 (List.replicate 20 (.f32 (o.slit 0))) fun c53 =>
                                      rdA c53 0 20 fun c54 =>
                                      some (.tup [.agg c54, .int .i64 (4 : Int)], [])
                                    else
                                      rdS p0 18 fun x55 =>
                                      bif !(m88_0 o x55) then
                                        wrA (List.replicate 20 (.f32 (o.slit 0))) 0 20 (List.replicate 20 (.f32 (o.slit 0))) fun c56 =>
                                        rdA c56 0 20 fun c57 =>
                                        some (.tup [.agg c57, .int .i64 (4 : Int)], [])
                                      else
                                        rdS p0 19 fun x58 =>
                                        bif !(m88_0 o x58) then
                                          wrA (List.replicate 20 (.f32 (o.slit 0))) 0 20 (List.replicate 20 (.f32 (o.slit 0))) fun c59 =>
                                          rdA c59 0 20 fun c60 =>
                                          some (.tup [.agg c60, .int .i64 (4 : Int)], [])
                                        else
                                          rdA p0 0 20 fun c61 =>
                                          wrA (List.replicate 20 (.f32 (o.slit 0))) 0 20 c61 fun c62 =>
                                          rdA c62 0 20 fun c63 =>
                                          some (.tup [.agg c63, .int .i64 (0 : Int)], [])
noncomputable def c74 (o : FO) (N : Nat) : Cx o :=
  { ty := tab [(33, ty33 o), (51, ty51 o)]
    fn := tab [(88, .pure (e88 o))]
    rounds := 4096, nt := 16, base := 0
    loops := [loopU [1, 2, 4]] }
noncomputable def b74 : Code := match Try.f74.body with | some b => b | none => .skip
theorem is74 (N : Nat) : FnIs Try.prog (c74 ieee N) 74 Try.f74 b74 := ⟨by kernel_rfl, by kernel_rfl, by kernel_rfl, by kernel_rfl⟩
theorem eq74 (o : FO) (N : Nat) (p0 : List (AV o)) : afun (c74 o N) Try.f74.results.toList b74 [.agg p0] [] = f74 o p0 := by kernel_rfl
theorem cok74 (N : Nat) (hN : 4096 ≤ N) : CtxOk Try.prog (c74 ieee N) := by
  refine ctxOk ?_ ?_ mixed ?_
  · intro p hp
    simp only [List.mem_cons, List.not_mem_nil, or_false] at hp
    rcases hp with rfl | rfl
    · exact tyOk33
    · exact tyOk51
  · intro p hp
    simp only [List.mem_cons, List.not_mem_nil, or_false] at hp
    subst hp; exact ok88 N hN
  · intro p hp
    simp only [List.mem_cons, List.not_mem_nil, or_false] at hp
    subst hp; exact loopU_ok _
noncomputable def k74 (o : FO) : R o → Bool := fun r => match r with | some (.tup [.agg _, .int .i64 _], _) => true | _ => false
theorem k74_c (o : FO) (b : Bool) (x y : R o) : k74 o (bif b then x else y) = bif b then k74 o x else k74 o y := by cases b <;> rfl
noncomputable def m74_ok (o : FO) (p0 : List (AV o)) : Bool := k74 o (f74 o p0)
noncomputable def g74_0 (o : FO) : R o → List (AV o) := fun r => match r with | some (.tup [.agg r0, .int .i64 _], _) => r0 | _ => []
theorem g74_0c (o : FO) (b : Bool) (x y : R o) : g74_0 o (bif b then x else y) = bif b then g74_0 o x else g74_0 o y := by cases b <;> rfl
noncomputable def m74_0 (o : FO) (p0 : List (AV o)) : List (AV o) := g74_0 o (f74 o p0)
noncomputable def g74_1 (o : FO) : R o → Int := fun r => match r with | some (.tup [.agg _, .int .i64 r1], _) => r1 | _ => 0
theorem g74_1c (o : FO) (b : Bool) (x y : R o) : g74_1 o (bif b then x else y) = bif b then g74_1 o x else g74_1 o y := by cases b <;> rfl
noncomputable def m74_1 (o : FO) (p0 : List (AV o)) : Int := g74_1 o (f74 o p0)
noncomputable def m74_h (o : FO) (p0 : List (AV o)) : Heap o := match f74 o p0 with | some (_, h) => h | _ => []
theorem val74 (o : FO) (p0 : List (AV o)) (h : m74_ok o p0 = true) : f74 o p0 = some (.tup [.agg (m74_0 o p0), .int .i64 (m74_1 o p0)], m74_h o p0) := by
  unfold m74_ok k74 at h
  unfold m74_0 g74_0 m74_1 g74_1 m74_h
  generalize f74 o p0 = r at h ⊢
  split at h
  · rfl
  · cases h

noncomputable def e74 (o : FO) : List (AV o) → Tr (AV o)
  | [.agg p0] => .br (m74_ok o p0) (.leaf (.tup [.agg (m74_0 o p0), .int .i64 (m74_1 o p0)])) .fail
  | _ => .fail
theorem ok74 (N : Nat) (hN : 4096 ≤ N) : CalOk Try.prog 74 (.pure (e74 ieee)) := by
  refine calOk_pure (cok74 4096 (Nat.le_refl _)) (is74 4096) ?_
  intro args av hg
  unfold e74 at hg
  split at hg
  · obtain ⟨h0, hg⟩ := br_get hg
    cases hg
    exact ⟨rfl, rfl, _, (eq74 ieee 4096 _).trans (val74 ieee _ h0)⟩
  · cases hg

/-! loop.example/g01224/spec.BreakLarge -/
noncomputable def f35_L0 (o : FO) (N : Nat) (s0 : Int × o.S × Int × List (AV o) × List (AV o) → R o) (a : Int × o.S × Int × List (AV o) × List (AV o)) : R o :=
  bif decide (a.2.2.1 ≥ a.1) then
    rdA a.2.2.2.1 0 20 fun c3 =>
    gd (m75_ok o c3 a.2.2.1 a.2.1) (
    wrA a.2.2.2.1 0 20 (m75_0 o c3 a.2.2.1 a.2.1) fun c4 =>
    s0 (a.1, a.2.1, IntKind.wrap .i64 (a.2.2.1 - (1 : Int)), c4, a.2.2.2.2))
  else
    rdA a.2.2.2.1 0 20 fun c5 =>
    gd (m74_ok o c5) (
    wrA a.2.2.2.2 0 20 (m74_0 o c5) fun c6 =>
    rdA c6 0 20 fun c7 =>
    some (.tup [.agg c7, .int .i64 (m74_1 o c5)], []))
noncomputable def f35_D0 (o : FO) (vs : List (AV o)) (h : Heap o) : Option (Int × o.S × Int × List (AV o) × List (AV o)) :=
  match vs, h with
  | [.int .i64 a0_0, .f32 a0_1, .ptr 0 0, .ptr 1 0, .int .i64 a0_2], [.live true true a0_3, .live true true a0_4] => some (a0_0, a0_1, a0_2, a0_3, a0_4)
  | _, _ => none
noncomputable def f35_E0 (o : FO) (a : Int × o.S × Int × List (AV o) × List (AV o)) : List (AV o) × Heap o := ([.int .i64 a.1, .f32 a.2.1, .ptr 0 0, .ptr 1 0, .int .i64 a.2.2.1], [.live true true a.2.2.2.1, .live true true a.2.2.2.2])
theorem f35_DE0 (o : FO) : ∀ vs h a, f35_D0 o vs h = some a → f35_E0 o a = (vs, h) := by
  intro vs h a hx
  unfold f35_D0 at hx
  split at hx
  · cases hx; rfl
  · cases hx
noncomputable def f35 (o : FO) (N : Nat) (p0 : List (AV o)) (p1 : Int) (p2 : o.S) : R o :=
  gd (m73_ok o p1 p2 p0) (
  let v1 : Int := m73_0 o p1 p2 p0
  bif v1 != (0 : Int) then
    wrA (List.replicate 20 (.f32 (o.slit 0))) 0 20 (List.replicate 20 (.f32 (o.slit 0))) fun c1 =>
    rdA c1 0 20 fun c2 =>
    some (.tup [.agg c2, .int .i64 v1], [])
  else
    iter (f35_L0 o N) N (p1, p2, (19 : Int), p0, List.replicate 20 (.f32 (o.slit 0))))
noncomputable def c35 (o : FO) (N : Nat) : Cx o :=
  { ty := tab [(33, ty33 o), (51, ty51 o)]
    fn := tab [(73, .ro (e73 o)), (74, .pure (e74 o)), (75, .pure (e75 o))]
    rounds := N, nt := 30, base := 0
    loops := [loopD [1, 2, 3, 6, 9] (f35_D0 o) (f35_E0 o)] }
noncomputable def b35 : Code := match Try.f35.body with | some b => b | none => .skip
theorem is35 (N : Nat) : FnIs Try.prog (c35 ieee N) 35 Try.f35 b35 := ⟨by kernel_rfl, by kernel_rfl, by kernel_rfl, by kernel_rfl⟩
theorem eq35 (o : FO) (N : Nat) (p0 : List (AV o)) (p1 : Int) (p2 : o.S) : afun (c35 o N) Try.f35.results.toList b35 [.agg p0, .int .i64 p1, .f32 p2] [] = f35 o N p0 p1 p2 := by kernel_rfl
theorem cok35 (N : Nat) (hN : 4096 ≤ N) : CtxOk Try.prog (c35 ieee N) := by
  refine ctxOk ?_ ?_ mixed ?_
  · intro p hp
    simp only [List.mem_cons, List.not_mem_nil, or_false] at hp
    rcases hp with rfl | rfl
    · exact tyOk33
    · exact tyOk51
  · intro p hp
    simp only [List.mem_cons, List.not_mem_nil, or_false] at hp
    rcases hp with rfl | rfl | rfl
    · exact ok73 N hN
    · exact ok74 N hN
    · exact ok75 N hN
  · intro p hp
    simp only [List.mem_cons, List.not_mem_nil, or_false] at hp
    subst hp; exact loopD_ok _ _ _ (f35_DE0 ieee)
noncomputable def k35 (o : FO) : R o → Bool := fun r => match r with | some (.tup [.agg _, .int .i64 _], _) => true | _ => false
theorem k35_c (o : FO) (b : Bool) (x y : R o) : k35 o (bif b then x else y) = bif b then k35 o x else k35 o y := by cases b <;> rfl
noncomputable def m35_ok (o : FO) (p0 : List (AV o)) (p1 : Int) (p2 : o.S) : Bool := k35 o (f35 o 4096 p0 p1 p2)
noncomputable def g35_0 (o : FO) : R o → List (AV o) := fun r => match r with | some (.tup [.agg r0, .int .i64 _], _) => r0 | _ => []
theorem g35_0c (o : FO) (b : Bool) (x y : R o) : g35_0 o (bif b then x else y) = bif b then g35_0 o x else g35_0 o y := by cases b <;> rfl
noncomputable def m35_0 (o : FO) (p0 : List (AV o)) (p1 : Int) (p2 : o.S) : List (AV o) := g35_0 o (f35 o 4096 p0 p1 p2)
noncomputable def g35_1 (o : FO) : R o → Int := fun r => match r with | some (.tup [.agg _, .int .i64 r1], _) => r1 | _ => 0
theorem g35_1c (o : FO) (b : Bool) (x y : R o) : g35_1 o (bif b then x else y) = bif b then g35_1 o x else g35_1 o y := by cases b <;> rfl
noncomputable def m35_1 (o : FO) (p0 : List (AV o)) (p1 : Int) (p2 : o.S) : Int := g35_1 o (f35 o 4096 p0 p1 p2)
noncomputable def m35_h (o : FO) (p0 : List (AV o)) (p1 : Int) (p2 : o.S) : Heap o := match f35 o 4096 p0 p1 p2 with | some (_, h) => h | _ => []
theorem val35 (o : FO) (p0 : List (AV o)) (p1 : Int) (p2 : o.S) (h : m35_ok o p0 p1 p2 = true) : f35 o 4096 p0 p1 p2 = some (.tup [.agg (m35_0 o p0 p1 p2), .int .i64 (m35_1 o p0 p1 p2)], m35_h o p0 p1 p2) := by
  unfold m35_ok k35 at h
  unfold m35_0 g35_0 m35_1 g35_1 m35_h
  generalize f35 o 4096 p0 p1 p2 = r at h ⊢
  split at h
  · rfl
  · cases h

noncomputable def e35 (o : FO) : List (AV o) → Tr (AV o)
  | [.agg p0, .int .i64 p1, .f32 p2] => .br (m35_ok o p0 p1 p2) (.leaf (.tup [.agg (m35_0 o p0 p1 p2), .int .i64 (m35_1 o p0 p1 p2)])) .fail
  | _ => .fail
theorem ok35 (N : Nat) (hN : 4096 ≤ N) : CalOk Try.prog 35 (.pure (e35 ieee)) := by
  refine calOk_pure (cok35 4096 (Nat.le_refl _)) (is35 4096) ?_
  intro args av hg
  unfold e35 at hg
  split at hg
  · obtain ⟨h0, hg⟩ := br_get hg
    cases hg
    exact ⟨rfl, rfl, _, (eq35 ieee 4096 _ _ _).trans (val35 ieee _ _ _ h0)⟩
  · cases hg

/-! loop.example/g01224/impl.isFinite -/
noncomputable def f94_L0 (o : FO) (N : Nat) (s0 : Nat × Nat × Int × Int × List (AV o) → R o) (a : Nat × Nat × Int × Int × List (AV o)) : R o :=
  bif decide (a.2.2.2.1 < a.2.2.1) then
    gd (decide (0 ≤ a.2.2.2.1) && decide (a.2.2.2.1 < ((a.2.1 : Nat) : Int))) (
    rdS a.2.2.2.2 (a.1 + (((a.2.2.2.1).toNat) * 1)) fun x1 =>
    bif !(o.seq (o.ssub x1 x1) (o.slit 0)) then
      some (.bool false, [.live false true a.2.2.2.2])
    else
      s0 (a.1, a.2.1, a.2.2.1, IntKind.wrap .i64 (a.2.2.2.1 + (1 : Int)), a.2.2.2.2))
  else
    some (.bool true, [.live false true a.2.2.2.2])
noncomputable def f94_D0 (o : FO) (vs : List (AV o)) (h : Heap o) : Option (Nat × Nat × Int × Int × List (AV o)) :=
  match vs, h with
  | [.slice 0 a0_0 a0_1 1, .int .i64 a0_2, .int .i64 a0_3], [.live false true a0_4] => some (a0_0, a0_1, a0_2, a0_3, a0_4)
  | _, _ => none
noncomputable def f94_E0 (o : FO) (a : Nat × Nat × Int × Int × List (AV o)) : List (AV o) × Heap o := ([.slice 0 a.1 a.2.1 1, .int .i64 a.2.2.1, .int .i64 a.2.2.2.1], [.live false true a.2.2.2.2])
theorem f94_DE0 (o : FO) : ∀ vs h a, f94_D0 o vs h = some a → f94_E0 o a = (vs, h) := by
  intro vs h a hx
  unfold f94_D0 at hx
  split at hx
  · cases hx; rfl
  · cases hx
noncomputable def f94 (o : FO) (N : Nat) (p0 : Nat) (p1 : Nat) (p2 : List (AV o)) : R o :=
  iter (f94_L0 o N) N (p0, p1, ((p1 : Nat) : Int), (0 : Int), p2)
noncomputable def c94 (o : FO) (N : Nat) : Cx o :=
  { ty := tab [(33, ty33 o), (112, ty112 o)]
    fn := tab []
    rounds := N, nt := 16, base := 1
    loops := [loopD [5, 6, 7] (f94_D0 o) (f94_E0 o)] }
noncomputable def b94 : Code := match Try.f94.body with | some b => b | none => .skip
theorem is94 (N : Nat) : FnIs Try.prog (c94 ieee N) 94 Try.f94 b94 := ⟨by kernel_rfl, by kernel_rfl, by kernel_rfl, by kernel_rfl⟩
theorem eq94 (o : FO) (N : Nat) (p0 : Nat) (p1 : Nat) (p2 : List (AV o)) : afun (c94 o N) Try.f94.results.toList b94 [.slice 0 p0 p1 1] [.live false true p2] = f94 o N p0 p1 p2 := by kernel_rfl
theorem cok94 (N : Nat) (hN : 4096 ≤ N) : CtxOk Try.prog (c94 ieee N) := by
  refine ctxOk ?_ ?_ mixed ?_
  · intro p hp
    simp only [List.mem_cons, List.not_mem_nil, or_false] at hp
    rcases hp with rfl | rfl
    · exact tyOk33
    · exact tyOk112
  · intro p hp; cases hp
  · intro p hp
    simp only [List.mem_cons, List.not_mem_nil, or_false] at hp
    subst hp; exact loopD_ok _ _ _ (f94_DE0 ieee)


theorem step94 (o : FO) (off n i : Nat) (cs : List (AV o)) (h : segF cs off n = true) (hi : i ≤ n) (s0 : Nat × Nat × Int × Int × List (AV o) → R o) :
    (∃ x, ((cs.drop off).take n)[i]? = some (.f32 x) ∧ f94_L0 o 4096 s0 (off, n, ((n : Nat) : Int), (i : Int), cs) = bif finS o x then s0 (off, n, ((n : Nat) : Int), ((i + 1 : Nat) : Int), cs) else some (.bool false, [.live false true cs])) ∨
    (i = n ∧ f94_L0 o 4096 s0 (off, n, ((n : Nat) : Int), (i : Int), cs) = some (.bool true, [.live false true cs])) := by
  have hn : n ≤ 4000 := by
    unfold segF at h
    simp only [Bool.and_eq_true] at h
    exact Nat.le_of_ble_eq_true h.1
  unfold f94_L0
  dsimp only
  by_cases hlt : i < n
  · obtain ⟨x, hx1, hx2⟩ := segF_get h hlt
    refine .inl ⟨x, hx2, ?_⟩
    have e1 : decide ((i : Int) < (n : Int)) = true := by simp [hlt]
    have e2 : decide (0 ≤ (i : Int)) = true := by simp
    rw [e1, e2, cond_true, Bool.and_true, gd_true, rdS_of (x := x) (by simpa using hx1), wrap64 (by omega) (by omega)]
    show _ = bif o.seq (o.ssub x x) (o.slit 0) then _ else _
    cases o.seq (o.ssub x x) (o.slit 0) <;> rfl
  · have e1 : decide ((i : Int) < (n : Int)) = false := by simp [hlt]
    refine .inr ⟨by omega, ?_⟩
    rw [e1, cond_false]
theorem loop94 (o : FO) (off n : Nat) (cs : List (AV o)) (h : segF cs off n = true) : ∀ (M i : Nat), i ≤ n → n - i < M →
    iter (f94_L0 o 4096) M (off, n, ((n : Nat) : Int), (i : Int), cs) = some (.bool ((((cs.drop off).take n).drop i).all finC), [.live false true cs]) := by
  intro M
  induction M with
  | zero => intro i _ h2; omega
  | succ M ih =>
    intro i h1 h2
    rw [iter_succ]
    rcases step94 o off n i cs h h1 (iter (f94_L0 o 4096) M) with ⟨x, hx, e⟩ | ⟨hi, e⟩
    · obtain ⟨hlt, he⟩ := List.getElem?_eq_some_iff.1 hx
      have hin : i < n := by have := hlt; simp only [List.length_take] at this; omega
      rw [e, ih (i + 1) (by omega) (by omega), List.drop_eq_getElem_cons hlt, he, List.all_cons]
      show _ = some ((AV.bool (finS o x && _) : AV o), _)
      cases finS o x <;> rfl
    · subst hi
      have hnil : ((cs.drop off).take i).drop i = [] := List.drop_eq_nil_of_le (by simp; omega)
      rw [e, hnil]
      rfl
theorem val94 (o : FO) (p0 p1 : Nat) (p2 : List (AV o)) (h : segF p2 p0 p1 = true) : f94 o 4096 p0 p1 p2 = some (.bool (finSeg p2 p0 p1), [.live false true p2]) := by
  have hn : p1 ≤ 4000 := by
    unfold segF at h
    simp only [Bool.and_eq_true] at h
    exact Nat.le_of_ble_eq_true h.1
  have := loop94 o p0 p1 p2 h 4096 0 (by omega) (by omega)
  rw [List.drop_zero] at this
  exact this

noncomputable def e94 (o : FO) : List (AV o) → Heap o → Tr (AV o)
  | [.slice 0 p0 p1 1], [.live _ true p2] => .br (segF p2 p0 p1) (.leaf (.bool (finSeg p2 p0 p1))) .fail
  | _, _ => .fail
theorem ok94 (N : Nat) (hN : 4096 ≤ N) : CalOk Try.prog 94 (.ro (e94 ieee)) := by
  refine calOk_ro (cok94 4096 (Nat.le_refl _)) (is94 4096) ?_
  intro args h av hg
  unfold e94 at hg
  split at hg
  · obtain ⟨h0, hg⟩ := br_get hg
    cases hg
    exact ⟨rfl, _, (eq94 ieee 4096 _ _ _).trans (val94 ieee _ _ _ h0)⟩
  · cases hg

/-! loop.example/g01224/impl.isAmount -/
noncomputable def f72 (o : FO) (p0 : o.S) : R o :=
  gd (segF [.f32 p0] 0 1) (
  bif finSeg [.f32 p0] 0 1 then
    bif o.sle (o.slit 0) p0 then
      gd (o.seq p0 p0) (
      bif (o.sbits p0) != (2147483648 : Int) then
        some (.bool true, [])
      else
        some (.bool false, []))
    else
      some (.bool false, [])
  else
    some (.bool false, []))
noncomputable def c72 (o : FO) (N : Nat) : Cx o :=
  { ty := tab [(33, ty33 o), (112, ty112 o)]
    fn := tab [(89, .pure (e89 o)), (94, .ro (e94 o))]
    rounds := 4096, nt := 15, base := 0
    loops := [] }
noncomputable def b72 : Code := match Try.f72.body with | some b => b | none => .skip
theorem is72 (N : Nat) : FnIs Try.prog (c72 ieee N) 72 Try.f72 b72 := ⟨by kernel_rfl, by kernel_rfl, by kernel_rfl, by kernel_rfl⟩
theorem eq72 (o : FO) (N : Nat) (p0 : o.S) : afun (c72 o N) Try.f72.results.toList b72 [.f32 p0] [] = f72 o p0 := by kernel_rfl
theorem cok72 (N : Nat) (hN : 4096 ≤ N) : CtxOk Try.prog (c72 ieee N) := by
  refine ctxOk ?_ ?_ mixed ?_
  · intro p hp
    simp only [List.mem_cons, List.not_mem_nil, or_false] at hp
    rcases hp with rfl | rfl
    · exact tyOk33
    · exact tyOk112
  · intro p hp
    simp only [List.mem_cons, List.not_mem_nil, or_false] at hp
    rcases hp with rfl | rfl
    · exact ok89 N hN
    · exact ok94 N hN
  · intro p hp; cases hp


theorem val72 (p0 : ieee.S) : f72 ieee p0 = some (.bool (amtS ieee p0), []) := by
  have e : f72 ieee p0 = (bif (finS ieee p0 && true) then (bif ieee.sle (ieee.slit 0) p0 then gd (ieee.seq p0 p0) (bif ieee.sbits p0 != 2147483648 then some (.bool true, []) else some (.bool false, [])) else some (.bool false, [])) else some (.bool false, [])) := rfl
  rw [e, Bool.and_true, amtS_alt]
  have h := seq_of_fin p0
  revert h
  cases finS ieee p0
  · intro _; rfl
  · intro h
    rw [h rfl]
    cases ieee.sle (ieee.slit 0) p0
    · rfl
    · cases (ieee.sbits p0 != 2147483648) <;> rfl

noncomputable def e72 (o : FO) : List (AV o) → Tr (AV o)
  | [.f32 p0] => .leaf (.bool (amtS o p0))
  | _ => .fail
theorem ok72 (N : Nat) (hN : 4096 ≤ N) : CalOk Try.prog 72 (.pure (e72 ieee)) := by
  refine calOk_pure (cok72 4096 (Nat.le_refl _)) (is72 4096) ?_
  intro args av hg
  unfold e72 at hg
  split at hg
  · cases hg
    exact ⟨rfl, rfl, _, (eq72 ieee 4096 _).trans (val72 _)⟩
  · cases hg

/-! loop.example/g01224/impl.ValidSizes -/
noncomputable def f97 (o : FO) (p0 : List (AV o)) : R o :=
  rdA p0 0 20 fun c1 =>
  rdS c1 0 fun x2 =>
  bif !(amtS o x2) then
    some (.bool false, [])
  else
    rdS c1 1 fun x3 =>
    bif !(amtS o x3) then
      some (.bool false, [])
    else
      rdS c1 2 fun x4 =>
      bif !(amtS o x4) then
        some (.bool false, [])
      else
        rdS c1 3 fun x5 =>
        bif !(amtS o x5) then
          some (.bool false, [])
        else
          rdS c1 4 fun x6 =>
          bif !(amtS o x6) then
            some (.bool false, [])
          else
            rdS c1 5 fun x7 =>
            bif !(amtS o x7) then
              some (.bool false, [])
            else
              rdS c1 6 fun x8 =>
              bif !(amtS o x8) then
                some (.bool false, [])
              else
                rdS c1 7 fun x9 =>
                bif !(amtS o x9) then
                  some (.bool false, [])
                else
                  rdS c1 8 fun x10 =>
                  bif !(amtS o x10) then
                    some (.bool false, [])
                  else
                    rdS c1 9 fun x11 =>
                    bif !(amtS o x11) then
                      some (.bool false, [])
                    else
                      rdS c1 10 fun x12 =>
                      bif !(amtS o x12) then
                        some (.bool false, [])
                      else
                        rdS c1 11 fun x13 =>
                        bif !(amtS o x13) then
                          some (.bool false, [])
                        else
                          rdS c1 12 fun x14 =>
                          bif !(amtS o x14) then
                            some (.bool false, [])
                          else
                            rdS c1 13 fun x15 =>
                            bif !(amtS o x15) then
                              some (.bool false, [])
                            else
                              rdS c1 14 fun x16 =>
                              bif !(amtS o x16) then
                                some (.bool false, [])
                              else
                                rdS c1 15 fun x17 =>
                                bif !(amtS o x17) then
                                  some (.bool false, [])
                                else
                                  rdS c1 16 fun x18 =>
                                  bif !(amtS o x18) then
                                    some (.bool false, [])
                                  else
                                    rdS c1 17 fun x19 =>
                                    bif !(amtS o x19) then
                                      some (.bool false, [])
                                    else
                                      rdS c1 18 fun x20 =>
                                      bif !(amtS o x20) then
                                        some (.bool false, [])
                                      else
                                        rdS c1 19 fun x21 =>
                                        bif !(amtS o x21) then
                                          some (.bool false, [])
                                        else
                                          some (.bool true, [])
noncomputable def c97 (o : FO) (N : Nat) : Cx o :=
  { ty := tab [(33, ty33 o), (51, ty51 o)]
    fn := tab [(72, .pure (e72 o))]
    rounds := 4096, nt := 13, base := 0
    loops := [loopU [5, 6]] }
noncomputable def b97 : Code := match Try.f97.body with | some b => b | none => .skip
theorem is97 (N : Nat) : FnIs Try.prog (c97 ieee N) 97 Try.f97 b97 := ⟨by kernel_rfl, by kernel_rfl, by kernel_rfl, by kernel_rfl⟩
theorem eq97 (o : FO) (N : Nat) (p0 : List (AV o)) : afun (c97 o N) Try.f97.results.toList b97 [.agg p0] [] = f97 o p0 := by kernel_rfl
theorem cok97 (N : Nat) (hN : 4096 ≤ N) : CtxOk Try.prog (c97 ieee N) := by
  refine ctxOk ?_ ?_ mixed ?_
  · intro p hp
    simp only [List.mem_cons, List.not_mem_nil, or_false] at hp
    rcases hp with rfl | rfl
    · exact tyOk33
    · exact tyOk51
  · intro p hp
    simp only [List.mem_cons, List.not_mem_nil, or_false] at hp
    subst hp; exact ok72 N hN
  · intro p hp
    simp only [List.mem_cons, List.not_mem_nil, or_false] at hp
    subst hp; exact loopU_ok _
noncomputable def k97 (o : FO) : R o → Bool := fun r => match r with | some (.bool _, _) => true | _ => false
theorem k97_c (o : FO) (b : Bool) (x y : R o) : k97 o (bif b then x else y) = bif b then k97 o x else k97 o y := by cases b <;> rfl
noncomputable def m97_ok (o : FO) (p0 : List (AV o)) : Bool := k97 o (f97 o p0)
noncomputable def g97_0 (o : FO) : R o → Bool := fun r => match r with | some (.bool r0, _) => r0 | _ => false
theorem g97_0c (o : FO) (b : Bool) (x y : R o) : g97_0 o (bif b then x else y) = bif b then g97_0 o x else g97_0 o y := by cases b <;> rfl
noncomputable def m97_0 (o : FO) (p0 : List (AV o)) : Bool := g97_0 o (f97 o p0)
noncomputable def m97_h (o : FO) (p0 : List (AV o)) : Heap o := match f97 o p0 with | some (_, h) => h | _ => []
theorem val97 (o : FO) (p0 : List (AV o)) (h : m97_ok o p0 = true) : f97 o p0 = some (.bool (m97_0 o p0), m97_h o p0) := by
  unfold m97_ok k97 at h
  unfold m97_0 g97_0 m97_h
  generalize f97 o p0 = r at h ⊢
  split at h
  · rfl
  · cases h

noncomputable def e97 (o : FO) : List (AV o) → Tr (AV o)
  | [.agg p0] => .br (m97_ok o p0) (.leaf (.bool (m97_0 o p0))) .fail
  | _ => .fail
theorem ok97 (N : Nat) (hN : 4096 ≤ N) : CalOk Try.prog 97 (.pure (e97 ieee)) := by
  refine calOk_pure (cok97 4096 (Nat.le_refl _)) (is97 4096) ?_
  intro args av hg
  unfold e97 at hg
  split at hg
  · obtain ⟨h0, hg⟩ := br_get hg
    cases hg
    exact ⟨rfl, rfl, _, (eq97 ieee 4096 _).trans (val97 ieee _ h0)⟩
  · cases hg

/-! loop.example/g01224/impl.within -/
noncomputable def f84 (o : FO) (p0 : Int) (p1 : Int) (p2 : Int) : R o :=
  bif decide (p0 ≥ p1) then
    bif decide (p0 ≤ p2) then
      some (.bool true, [])
    else
      some (.bool false, [])
  else
    some (.bool false, [])
noncomputable def c84 (o : FO) (N : Nat) : Cx o :=
  { ty := tab []
    fn := tab []
    rounds := 4096, nt := 15, base := 0
    loops := [] }
noncomputable def b84 : Code := match Try.f84.body with | some b => b | none => .skip
theorem is84 (N : Nat) : FnIs Try.prog (c84 ieee N) 84 Try.f84 b84 := ⟨by kernel_rfl, by kernel_rfl, by kernel_rfl, by kernel_rfl⟩
theorem eq84 (o : FO) (N : Nat) (p0 : Int) (p1 : Int) (p2 : Int) : afun (c84 o N) Try.f84.results.toList b84 [.int .i64 p0, .int .i64 p1, .int .i64 p2] [] = f84 o p0 p1 p2 := by kernel_rfl
theorem cok84 (N : Nat) (hN : 4096 ≤ N) : CtxOk Try.prog (c84 ieee N) := by
  refine ctxOk ?_ ?_ mixed ?_
  · intro p hp; cases hp
  · intro p hp; cases hp
  · intro p hp; cases hp
noncomputable def m84_0 (o : FO) (p0 : Int) (p1 : Int) (p2 : Int) : Bool :=
  bif decide (p0 ≥ p1) then
    decide (p0 ≤ p2)
  else
    false
theorem val84 (o : FO) (p0 : Int) (p1 : Int) (p2 : Int) : f84 o p0 p1 p2 = some (.bool (m84_0 o p0 p1 p2), []) := by
  unfold f84 m84_0
  try dsimp only
  cases (decide (p0 ≥ p1))
  · rfl
  · cases (decide (p0 ≤ p2))
    · rfl
    · rfl

noncomputable def e84 (o : FO) : List (AV o) → Tr (AV o)
  | [.int .i64 p0, .int .i64 p1, .int .i64 p2] => .leaf (.bool (m84_0 o p0 p1 p2))
  | _ => .fail
theorem ok84 (N : Nat) (hN : 4096 ≤ N) : CalOk Try.prog 84 (.pure (e84 ieee)) := by
  refine calOk_pure (cok84 4096 (Nat.le_refl _)) (is84 4096) ?_
  intro args av hg
  unfold e84 at hg
  split at hg
  · cases hg
    exact ⟨rfl, rfl, _, (eq84 ieee 4096 _ _ _).trans (val84 ieee _ _ _)⟩
  · cases hg

/-! loop.example/g01224/impl.isPart -/
noncomputable def f98 (o : FO) (p0 : o.S) : R o :=
  bif amtS o p0 then
    bif o.sle p0 (o.slit 1065353216) then
      some (.bool true, [])
    else
      some (.bool false, [])
  else
    some (.bool false, [])
noncomputable def c98 (o : FO) (N : Nat) : Cx o :=
  { ty := tab []
    fn := tab [(72, .pure (e72 o))]
    rounds := 4096, nt := 9, base := 0
    loops := [] }
noncomputable def b98 : Code := match Try.f98.body with | some b => b | none => .skip
theorem is98 (N : Nat) : FnIs Try.prog (c98 ieee N) 98 Try.f98 b98 := ⟨by kernel_rfl, by kernel_rfl, by kernel_rfl, by kernel_rfl⟩
theorem eq98 (o : FO) (N : Nat) (p0 : o.S) : afun (c98 o N) Try.f98.results.toList b98 [.f32 p0] [] = f98 o p0 := by kernel_rfl
theorem cok98 (N : Nat) (hN : 4096 ≤ N) : CtxOk Try.prog (c98 ieee N) := by
  refine ctxOk ?_ ?_ mixed ?_
  · intro p hp; cases hp
  · intro p hp
    simp only [List.mem_cons, List.not_mem_nil, or_false] at hp
    subst hp; exact ok72 N hN
  · intro p hp; cases hp
noncomputable def m98_0 (o : FO) (p0 : o.S) : Bool :=
  bif amtS o p0 then
    o.sle p0 (o.slit 1065353216)
  else
    false
theorem val98 (o : FO) (p0 : o.S) : f98 o p0 = some (.bool (m98_0 o p0), []) := by
  unfold f98 m98_0
  try dsimp only
  cases (amtS o p0)
  · rfl
  · cases (o.sle p0 (o.slit 1065353216))
    · rfl
    · rfl

noncomputable def e98 (o : FO) : List (AV o) → Tr (AV o)
  | [.f32 p0] => .leaf (.bool (m98_0 o p0))
  | _ => .fail
theorem ok98 (N : Nat) (hN : 4096 ≤ N) : CalOk Try.prog 98 (.pure (e98 ieee)) := by
  refine calOk_pure (cok98 4096 (Nat.le_refl _)) (is98 4096) ?_
  intro args av hg
  unfold e98 at hg
  split at hg
  · cases hg
    exact ⟨rfl, rfl, _, (eq98 ieee 4096 _).trans (val98 ieee _)⟩
  · cases hg

/-! loop.example/g01224/impl.breakCode -/
noncomputable def f76 (o : FO) (p0 : List (AV o)) (p1 : Int) (p2 : o.S) : R o :=
  rdA p0 0 20 fun c1 =>
  gd (m97_ok o c1) (
  bif !(m97_0 o c1) then
    some (.int .i64 (1 : Int), [])
  else
    bif m84_0 o p1 (1 : Int) (19 : Int) then
      bif m98_0 o p2 then
        some (.int .i64 (0 : Int), [])
      else
        some (.int .i64 (2 : Int), [])
    else
      some (.int .i64 (2 : Int), []))
noncomputable def c76 (o : FO) (N : Nat) : Cx o :=
  { ty := tab [(51, ty51 o)]
    fn := tab [(84, .pure (e84 o)), (97, .pure (e97 o)), (98, .pure (e98 o))]
    rounds := 4096, nt := 20, base := 0
    loops := [] }
noncomputable def b76 : Code := match Try.f76.body with | some b => b | none => .skip
theorem is76 (N : Nat) : FnIs Try.prog (c76 ieee N) 76 Try.f76 b76 := ⟨by kernel_rfl, by kernel_rfl, by kernel_rfl, by kernel_rfl⟩
theorem eq76 (o : FO) (N : Nat) (p0 : List (AV o)) (p1 : Int) (p2 : o.S) : afun (c76 o N) Try.f76.results.toList b76 [.agg p0, .int .i64 p1, .f32 p2] [] = f76 o p0 p1 p2 := by kernel_rfl
theorem cok76 (N : Nat) (hN : 4096 ≤ N) : CtxOk Try.prog (c76 ieee N) := by
  refine ctxOk ?_ ?_ mixed ?_
  · intro p hp
    simp only [List.mem_cons, List.not_mem_nil, or_false] at hp
    subst hp; exact tyOk51
  · intro p hp
    simp only [List.mem_cons, List.not_mem_nil, or_false] at hp
    rcases hp with rfl | rfl | rfl
    · exact ok84 N hN
    · exact ok97 N hN
    · exact ok98 N hN
  · intro p hp; cases hp
noncomputable def k76 (o : FO) : R o → Bool := fun r => match r with | some (.int .i64 _, _) => true | _ => false
theorem k76_c (o : FO) (b : Bool) (x y : R o) : k76 o (bif b then x else y) = bif b then k76 o x else k76 o y := by cases b <;> rfl
noncomputable def m76_ok (o : FO) (p0 : List (AV o)) (p1 : Int) (p2 : o.S) : Bool := k76 o (f76 o p0 p1 p2)
noncomputable def g76_0 (o : FO) : R o → Int := fun r => match r with | some (.int .i64 r0, _) => r0 | _ => 0
theorem g76_0c (o : FO) (b : Bool) (x y : R o) : g76_0 o (bif b then x else y) = bif b then g76_0 o x else g76_0 o y := by cases b <;> rfl
noncomputable def m76_0 (o : FO) (p0 : List (AV o)) (p1 : Int) (p2 : o.S) : Int := g76_0 o (f76 o p0 p1 p2)
noncomputable def m76_h (o : FO) (p0 : List (AV o)) (p1 : Int) (p2 : o.S) : Heap o := match f76 o p0 p1 p2 with | some (_, h) => h | _ => []
theorem val76 (o : FO) (p0 : List (AV o)) (p1 : Int) (p2 : o.S) (h : m76_ok o p0 p1 p2 = true) : f76 o p0 p1 p2 = some (.int .i64 (m76_0 o p0 p1 p2), m76_h o p0 p1 p2) := by
  unfold m76_ok k76 at h
  unfold m76_0 g76_0 m76_h
  generalize f76 o p0 p1 p2 = r at h ⊢
  split at h
  · rfl
  · cases h

noncomputable def e76 (o : FO) : List (AV o) → Tr (AV o)
  | [.agg p0, .int .i64 p1, .f32 p2] => .br (m76_ok o p0 p1 p2) (.leaf (.int .i64 (m76_0 o p0 p1 p2))) .fail
  | _ => .fail
theorem ok76 (N : Nat) (hN : 4096 ≤ N) : CalOk Try.prog 76 (.pure (e76 ieee)) := by
  refine calOk_pure (cok76 4096 (Nat.le_refl _)) (is76 4096) ?_
  intro args av hg
  unfold e76 at hg
  split at hg
  · obtain ⟨h0, hg⟩ := br_get hg
    cases hg
    exact ⟨rfl, rfl, _, (eq76 ieee 4096 _ _ _).trans (val76 ieee _ _ _ h0)⟩
  · cases hg

/-! (*loop.example/g01224/impl.Sizes).breakOne -/
noncomputable def f77 (o : FO) (p0 : Int) (p1 : o.S) (p2 : List (AV o)) : R o :=
  gd (decide (0 ≤ p0) && decide (p0 < ((20 : Nat) : Int))) (
  rdS p2 (0 + (((p0).toNat) * 1)) fun x1 =>
  gd (decide (0 ≤ p0) && decide (p0 < ((20 : Nat) : Int))) (
  rdS p2 (0 + (((p0).toNat) * 1)) fun x2 =>
  gd (decide (0 ≤ p0) && decide (p0 < ((20 : Nat) : Int))) (
  wr1 p2 (0 + (((p0).toNat) * 1)) (.f32 (o.ssub x2 (o.smul p1 x1))) fun c3 =>
  let v1 : Int := IntKind.wrap .i64 (p0 - (1 : Int))
  gd (decide (0 ≤ v1) && decide (v1 < ((20 : Nat) : Int))) (
  rdS c3 (0 + (((v1).toNat) * 1)) fun x4 =>
  gd (decide (0 ≤ v1) && decide (v1 < ((20 : Nat) : Int))) (
  wr1 c3 (0 + (((v1).toNat) * 1)) (.f32 (o.sadd x4 (o.smul (o.slit 1073741824) (o.smul p1 x1)))) fun c5 =>
  some (.tup [], [.live true true c5]))))))
noncomputable def c77 (o : FO) (N : Nat) : Cx o :=
  { ty := tab [(33, ty33 o), (51, ty51 o)]
    fn := tab []
    rounds := 4096, nt := 34, base := 1
    loops := [] }
noncomputable def b77 : Code := match Try.f77.body with | some b => b | none => .skip
theorem is77 (N : Nat) : FnIs Try.prog (c77 ieee N) 77 Try.f77 b77 := ⟨by kernel_rfl, by kernel_rfl, by kernel_rfl, by kernel_rfl⟩
theorem eq77 (o : FO) (N : Nat) (p0 : Int) (p1 : o.S) (p2 : List (AV o)) : afun (c77 o N) Try.f77.results.toList b77 [.ptr 0 0, .int .i64 p0, .f32 p1] [.live true true p2] = f77 o p0 p1 p2 := by kernel_rfl
theorem cok77 (N : Nat) (hN : 4096 ≤ N) : CtxOk Try.prog (c77 ieee N) := by
  refine ctxOk ?_ ?_ mixed ?_
  · intro p hp
    simp only [List.mem_cons, List.not_mem_nil, or_false] at hp
    rcases hp with rfl | rfl
    · exact tyOk33
    · exact tyOk51
  · intro p hp; cases hp
  · intro p hp; cases hp
noncomputable def k77 (o : FO) : R o → Bool := fun r => match r with | some (.tup [], [.live true true _]) => true | _ => false
theorem k77_c (o : FO) (b : Bool) (x y : R o) : k77 o (bif b then x else y) = bif b then k77 o x else k77 o y := by cases b <;> rfl
noncomputable def m77_ok (o : FO) (p0 : Int) (p1 : o.S) (p2 : List (AV o)) : Bool := k77 o (f77 o p0 p1 p2)
noncomputable def g77_0 (o : FO) : R o → List (AV o) := fun r => match r with | some (.tup [], [.live true true r0]) => r0 | _ => []
theorem g77_0c (o : FO) (b : Bool) (x y : R o) : g77_0 o (bif b then x else y) = bif b then g77_0 o x else g77_0 o y := by cases b <;> rfl
noncomputable def m77_0 (o : FO) (p0 : Int) (p1 : o.S) (p2 : List (AV o)) : List (AV o) := g77_0 o (f77 o p0 p1 p2)
theorem val77 (o : FO) (p0 : Int) (p1 : o.S) (p2 : List (AV o)) (h : m77_ok o p0 p1 p2 = true) : f77 o p0 p1 p2 = some (.tup [], [.live true true (m77_0 o p0 p1 p2)]) := by
  unfold m77_ok k77 at h
  unfold m77_0 g77_0
  generalize f77 o p0 p1 p2 = r at h ⊢
  split at h
  · rfl
  · cases h

noncomputable def e77 (o : FO) : List (AV o) → Heap o → Tr (AV o × Heap o)
  | [.ptr 0 0, .int .i64 p0, .f32 p1], [.live true true p2] => .br (m77_ok o p0 p1 p2) (.leaf ((.tup [], [.live true true (m77_0 o p0 p1 p2)]))) .fail
  | _, _ => .fail
theorem ok77 (N : Nat) (hN : 4096 ≤ N) : CalOk Try.prog 77 (.rw (e77 ieee)) := by
  refine calOk_rw (cok77 4096 (Nat.le_refl _)) (is77 4096) ?_
  intro args h av h2 hg
  unfold e77 at hg
  split at hg
  · obtain ⟨h0, hg⟩ := br_get hg
    cases hg
    exact (eq77 ieee 4096 _ _ _).trans (val77 ieee _ _ _ h0)
  · cases hg

/-! loop.example/g01224/impl.checked -/
noncomputable def f78 (o : FO) (p0 : List (AV o)) : R o :=
  gd ((Nat.ble 20 ((p0).length)) && true) (
  gd (segF p0 0 20) (
  bif !(finSeg p0 0 20) then
    wrA (List.replicate 20 (.f32 (o.slit 0))) 0 20 (List.replicate 20 (.f32 (o.slit 0))) fun c1 =>
    rdA c1 0 20 fun c2 =>
    some (.tup [.agg c2, .int .i64 (4 : Int)], [])
  else
    rdA p0 0 20 fun c3 =>
    wrA (List.replicate 20 (.f32 (o.slit 0))) 0 20 c3 fun c4 =>
    rdA c4 0 20 fun c5 =>
    some (.tup [.agg c5, .int .i64 (0 : Int)], [])))
noncomputable def c78 (o : FO) (N : Nat) : Cx o :=
  { ty := tab [(33, ty33 o), (51, ty51 o)]
    fn := tab [(94, .ro (e94 o))]
    rounds := 4096, nt := 9, base := 0
    loops := [] }
noncomputable def b78 : Code := match Try.f78.body with | some b => b | none => .skip
theorem is78 (N : Nat) : FnIs Try.prog (c78 ieee N) 78 Try.f78 b78 := ⟨by kernel_rfl, by kernel_rfl, by kernel_rfl, by kernel_rfl⟩
theorem eq78 (o : FO) (N : Nat) (p0 : List (AV o)) : afun (c78 o N) Try.f78.results.toList b78 [.agg p0] [] = f78 o p0 := by kernel_rfl
theorem cok78 (N : Nat) (hN : 4096 ≤ N) : CtxOk Try.prog (c78 ieee N) := by
  refine ctxOk ?_ ?_ mixed ?_
  · intro p hp
    simp only [List.mem_cons, List.not_mem_nil, or_false] at hp
    rcases hp with rfl | rfl
    · exact tyOk33
    · exact tyOk51
  · intro p hp
    simp only [List.mem_cons, List.not_mem_nil, or_false] at hp
    subst hp; exact ok94 N hN
  · intro p hp; cases hp
noncomputable def k78 (o : FO) : R o → Bool := fun r => match r with | some (.tup [.agg _, .int .i64 _], _) => true | _ => false
theorem k78_c (o : FO) (b : Bool) (x y : R o) : k78 o (bif b then x else y) = bif b then k78 o x else k78 o y := by cases b <;> rfl
noncomputable def m78_ok (o : FO) (p0 : List (AV o)) : Bool := k78 o (f78 o p0)
noncomputable def g78_0 (o : FO) : R o → List (AV o) := fun r => match r with | some (.tup [.agg r0, .int .i64 _], _) => r0 | _ => []
theorem g78_0c (o : FO) (b : Bool) (x y : R o) : g78_0 o (bif b then x else y) = bif b then g78_0 o x else g78_0 o y := by cases b <;> rfl
noncomputable def m78_0 (o : FO) (p0 : List (AV o)) : List (AV o) := g78_0 o (f78 o p0)
noncomputable def g78_1 (o : FO) : R o → Int := fun r => match r with | some (.tup [.agg _, .int .i64 r1], _) => r1 | _ => 0
theorem g78_1c (o : FO) (b : Bool) (x y : R o) : g78_1 o (bif b then x else y) = bif b then g78_1 o x else g78_1 o y := by cases b <;> rfl
noncomputable def m78_1 (o : FO) (p0 : List (AV o)) : Int := g78_1 o (f78 o p0)
noncomputable def m78_h (o : FO) (p0 : List (AV o)) : Heap o := match f78 o p0 with | some (_, h) => h | _ => []
theorem val78 (o : FO) (p0 : List (AV o)) (h : m78_ok o p0 = true) : f78 o p0 = some (.tup [.agg (m78_0 o p0), .int .i64 (m78_1 o p0)], m78_h o p0) := by
  unfold m78_ok k78 at h
  unfold m78_0 g78_0 m78_1 g78_1 m78_h
  generalize f78 o p0 = r at h ⊢
  split at h
  · rfl
  · cases h

noncomputable def e78 (o : FO) : List (AV o) → Tr (AV o)
  | [.agg p0] => .br (m78_ok o p0) (.leaf (.tup [.agg (m78_0 o p0), .int .i64 (m78_1 o p0)])) .fail
  | _ => .fail
theorem ok78 (N : Nat) (hN : 4096 ≤ N) : CalOk Try.prog 78 (.pure (e78 ieee)) := by
  refine calOk_pure (cok78 4096 (Nat.le_refl _)) (is78 4096) ?_
  intro args av hg
  unfold e78 at hg
  split at hg
  · obtain ⟨h0, hg⟩ := br_get hg
    cases hg
    exact ⟨rfl, rfl, _, (eq78 ieee 4096 _).trans (val78 ieee _ h0)⟩
  · cases hg

/-! loop.example/g01224/impl.BreakLarge -/
noncomputable def f36_L0 (o : FO) (N : Nat) (s0 : Int × o.S × Int × List (AV o) × List (AV o) → R o) (a : Int × o.S × Int × List (AV o) × List (AV o)) : R o :=
  bif decide (a.2.2.1 ≥ a.1) then
    gd (m77_ok o a.2.2.1 a.2.1 a.2.2.2.1) (
    s0 (a.1, a.2.1, IntKind.wrap .i64 (a.2.2.1 - (1 : Int)), m77_0 o a.2.2.1 a.2.1 a.2.2.2.1, a.2.2.2.2))
  else
    rdA a.2.2.2.1 0 20 fun c4 =>
    gd (m78_ok o c4) (
    wrA a.2.2.2.2 0 20 (m78_0 o c4) fun c5 =>
    rdA c5 0 20 fun c6 =>
    some (.tup [.agg c6, .int .i64 (m78_1 o c4)], []))
noncomputable def f36_D0 (o : FO) (vs : List (AV o)) (h : Heap o) : Option (Int × o.S × Int × List (AV o) × List (AV o)) :=
  match vs, h with
  | [.int .i64 a0_0, .f32 a0_1, .ptr 0 0, .ptr 1 0, .int .i64 a0_2], [.live true true a0_3, .live true true a0_4] => some (a0_0, a0_1, a0_2, a0_3, a0_4)
  | _, _ => none
noncomputable def f36_E0 (o : FO) (a : Int × o.S × Int × List (AV o) × List (AV o)) : List (AV o) × Heap o := ([.int .i64 a.1, .f32 a.2.1, .ptr 0 0, .ptr 1 0, .int .i64 a.2.2.1], [.live true true a.2.2.2.1, .live true true a.2.2.2.2])
theorem f36_DE0 (o : FO) : ∀ vs h a, f36_D0 o vs h = some a → f36_E0 o a = (vs, h) := by
  intro vs h a hx
  unfold f36_D0 at hx
  split at hx
  · cases hx; rfl
  · cases hx
noncomputable def f36 (o : FO) (N : Nat) (p0 : List (AV o)) (p1 : Int) (p2 : o.S) : R o :=
  rdA p0 0 20 fun c1 =>
  gd (m76_ok o c1 p1 p2) (
  let v1 : Int := m76_0 o c1 p1 p2
  bif v1 != (0 : Int) then
    wrA (List.replicate 20 (.f32 (o.slit 0))) 0 20 (List.replicate 20 (.f32 (o.slit 0))) fun c2 =>
    rdA c2 0 20 fun c3 =>
    some (.tup [.agg c3, .int .i64 v1], [])
  else
    iter (f36_L0 o N) N (p1, p2, (19 : Int), p0, List.replicate 20 (.f32 (o.slit 0))))
noncomputable def c36 (o : FO) (N : Nat) : Cx o :=
  { ty := tab [(33, ty33 o), (51, ty51 o)]
    fn := tab [(76, .pure (e76 o)), (77, .rw (e77 o)), (78, .pure (e78 o))]
    rounds := N, nt := 30, base := 0
    loops := [loopD [1, 2, 3, 6, 9] (f36_D0 o) (f36_E0 o)] }
noncomputable def b36 : Code := match Try.f36.body with | some b => b | none => .skip
theorem is36 (N : Nat) : FnIs Try.prog (c36 ieee N) 36 Try.f36 b36 := ⟨by kernel_rfl, by kernel_rfl, by kernel_rfl, by kernel_rfl⟩
theorem eq36 (o : FO) (N : Nat) (p0 : List (AV o)) (p1 : Int) (p2 : o.S) : afun (c36 o N) Try.f36.results.toList b36 [.agg p0, .int .i64 p1, .f32 p2] [] = f36 o N p0 p1 p2 := by kernel_rfl
theorem cok36 (N : Nat) (hN : 4096 ≤ N) : CtxOk Try.prog (c36 ieee N) := by
  refine ctxOk ?_ ?_ mixed ?_
  · intro p hp
    simp only [List.mem_cons, List.not_mem_nil, or_false] at hp
    rcases hp with rfl | rfl
    · exact tyOk33
    · exact tyOk51
  · intro p hp
    simp only [List.mem_cons, List.not_mem_nil, or_false] at hp
    rcases hp with rfl | rfl | rfl
    · exact ok76 N hN
    · exact ok77 N hN
    · exact ok78 N hN
  · intro p hp
    simp only [List.mem_cons, List.not_mem_nil, or_false] at hp
    subst hp; exact loopD_ok _ _ _ (f36_DE0 ieee)
noncomputable def k36 (o : FO) : R o → Bool := fun r => match r with | some (.tup [.agg _, .int .i64 _], _) => true | _ => false
theorem k36_c (o : FO) (b : Bool) (x y : R o) : k36 o (bif b then x else y) = bif b then k36 o x else k36 o y := by cases b <;> rfl
noncomputable def m36_ok (o : FO) (p0 : List (AV o)) (p1 : Int) (p2 : o.S) : Bool := k36 o (f36 o 4096 p0 p1 p2)
noncomputable def g36_0 (o : FO) : R o → List (AV o) := fun r => match r with | some (.tup [.agg r0, .int .i64 _], _) => r0 | _ => []
theorem g36_0c (o : FO) (b : Bool) (x y : R o) : g36_0 o (bif b then x else y) = bif b then g36_0 o x else g36_0 o y := by cases b <;> rfl
noncomputable def m36_0 (o : FO) (p0 : List (AV o)) (p1 : Int) (p2 : o.S) : List (AV o) := g36_0 o (f36 o 4096 p0 p1 p2)
noncomputable def g36_1 (o : FO) : R o → Int := fun r => match r with | some (.tup [.agg _, .int .i64 r1], _) => r1 | _ => 0
theorem g36_1c (o : FO) (b : Bool) (x y : R o) : g36_1 o (bif b then x else y) = bif b then g36_1 o x else g36_1 o y := by cases b <;> rfl
noncomputable def m36_1 (o : FO) (p0 : List (AV o)) (p1 : Int) (p2 : o.S) : Int := g36_1 o (f36 o 4096 p0 p1 p2)
noncomputable def m36_h (o : FO) (p0 : List (AV o)) (p1 : Int) (p2 : o.S) : Heap o := match f36 o 4096 p0 p1 p2 with | some (_, h) => h | _ => []
theorem val36 (o : FO) (p0 : List (AV o)) (p1 : Int) (p2 : o.S) (h : m36_ok o p0 p1 p2 = true) : f36 o 4096 p0 p1 p2 = some (.tup [.agg (m36_0 o p0 p1 p2), .int .i64 (m36_1 o p0 p1 p2)], m36_h o p0 p1 p2) := by
  unfold m36_ok k36 at h
  unfold m36_0 g36_0 m36_1 g36_1 m36_h
  generalize f36 o 4096 p0 p1 p2 = r at h ⊢
  split at h
  · rfl
  · cases h

noncomputable def e36 (o : FO) : List (AV o) → Tr (AV o)
  | [.agg p0, .int .i64 p1, .f32 p2] => .br (m36_ok o p0 p1 p2) (.leaf (.tup [.agg (m36_0 o p0 p1 p2), .int .i64 (m36_1 o p0 p1 p2)])) .fail
  | _ => .fail
theorem ok36 (N : Nat) (hN : 4096 ≤ N) : CalOk Try.prog 36 (.pure (e36 ieee)) := by
  refine calOk_pure (cok36 4096 (Nat.le_refl _)) (is36 4096) ?_
  intro args av hg
  unfold e36 at hg
  split at hg
  · obtain ⟨h0, hg⟩ := br_get hg
    cases hg
    exact ⟨rfl, rfl, _, (eq36 ieee 4096 _ _ _).trans (val36 ieee _ _ _ h0)⟩
  · cases hg

/-! loop.example/g01224/laws.sameFloat -/
noncomputable def f20 (o : FO) (p0 : o.D) (p1 : o.D) : R o :=
  let v1 : Bool := !(o.deq p0 p0)
  bif v1 then
    bif v1 then
      bif !(o.deq p1 p1) then
        some (.bool true, [])
      else
        some (.bool false, [])
    else
      some (.bool false, [])
  else
    let v2 : Bool := !(o.deq p1 p1)
    bif v2 then
      bif v1 then
        bif v2 then
          some (.bool true, [])
        else
          some (.bool false, [])
      else
        some (.bool false, [])
    else
      bif o.deq p0 (o.dlit 0) then
        bif o.deq p1 (o.dlit 0) then
          some (.bool ((o.dlt (o.dlit 0) (o.ddiv (o.dlit 4607182418800017408) p0)) == (o.dlt (o.dlit 0) (o.ddiv (o.dlit 4607182418800017408) p1))), [])
        else
          some (.bool (o.deq p0 p1), [])
      else
        some (.bool (o.deq p0 p1), [])
noncomputable def c20 (o : FO) (N : Nat) : Cx o :=
  { ty := tab [(4, ty4 o)]
    fn := tab []
    rounds := 4096, nt := 37, base := 0
    loops := [] }
noncomputable def b20 : Code := match Try.f20.body with | some b => b | none => .skip
theorem is20 (N : Nat) : FnIs Try.prog (c20 ieee N) 20 Try.f20 b20 := ⟨by kernel_rfl, by kernel_rfl, by kernel_rfl, by kernel_rfl⟩
theorem eq20 (o : FO) (N : Nat) (p0 : o.D) (p1 : o.D) : afun (c20 o N) Try.f20.results.toList b20 [.f64 p0, .f64 p1] [] = f20 o p0 p1 := by kernel_rfl
theorem cok20 (N : Nat) (hN : 4096 ≤ N) : CtxOk Try.prog (c20 ieee N) := by
  refine ctxOk ?_ ?_ mixed ?_
  · intro p hp
    simp only [List.mem_cons, List.not_mem_nil, or_false] at hp
    subst hp; exact tyOk4
  · intro p hp; cases hp
  · intro p hp; cases hp
noncomputable def m20_0 (o : FO) (p0 : o.D) (p1 : o.D) : Bool :=
  bif o.deq p0 p0 then
    bif o.deq p1 p1 then
      bif o.deq p0 (o.dlit 0) then
        bif o.deq p1 (o.dlit 0) then
          (o.dlt (o.dlit 0) (o.ddiv (o.dlit 4607182418800017408) p0)) == (o.dlt (o.dlit 0) (o.ddiv (o.dlit 4607182418800017408) p1))
        else
          o.deq p0 p1
      else
        o.deq p0 p1
    else
      false
  else
    bif o.deq p1 p1 then
      false
    else
      true
theorem val20 (o : FO) (p0 : o.D) (p1 : o.D) : f20 o p0 p1 = some (.bool (m20_0 o p0 p1), []) := by
  unfold f20 m20_0
  try dsimp only
  cases (o.deq p0 p0)
  · cases (o.deq p1 p1)
    · rfl
    · rfl
  · cases (o.deq p1 p1)
    · rfl
    · cases (o.deq p0 (o.dlit 0))
      · rfl
      · cases (o.deq p1 (o.dlit 0))
        · rfl
        · rfl

noncomputable def e20 (o : FO) : List (AV o) → Tr (AV o)
  | [.f64 p0, .f64 p1] => .leaf (.bool (m20_0 o p0 p1))
  | _ => .fail
theorem ok20 (N : Nat) (hN : 4096 ≤ N) : CalOk Try.prog 20 (.pure (e20 ieee)) := by
  refine calOk_pure (cok20 4096 (Nat.le_refl _)) (is20 4096) ?_
  intro args av hg
  unfold e20 at hg
  split at hg
  · cases hg
    exact ⟨rfl, rfl, _, (eq20 ieee 4096 _ _).trans (val20 ieee _ _)⟩
  · cases hg

/-! loop.example/g01224/laws.eqSizes -/
noncomputable def f34 (o : FO) (p0 : List (AV o)) (p1 : List (AV o)) : R o :=
  rdS p0 0 fun x1 =>
  rdS p1 0 fun x2 =>
  bif !(m20_0 o (o.s2d x1) (o.s2d x2)) then
    some (.bool false, [])
  else
    rdS p0 1 fun x3 =>
    rdS p1 1 fun x4 =>
    bif !(m20_0 o (o.s2d x3) (o.s2d x4)) then
      some (.bool false, [])
    else
      rdS p0 2 fun x5 =>
      rdS p1 2 fun x6 =>
      bif !(m20_0 o (o.s2d x5) (o.s2d x6)) then
        some (.bool false, [])
      else
        rdS p0 3 fun x7 =>
        rdS p1 3 fun x8 =>
        bif !(m20_0 o (o.s2d x7) (o.s2d x8)) then
          some (.bool false, [])
        else
          rdS p0 4 fun x9 =>
          rdS p1 4 fun x10 =>
          bif !(m20_0 o (o.s2d x9) (o.s2d x10)) then
            some (.bool false, [])
          else
            rdS p0 5 fun x11 =>
            rdS p1 5 fun x12 =>
            bif !(m20_0 o (o.s2d x11) (o.s2d x12)) then
              some (.bool false, [])
            else
              rdS p0 6 fun x13 =>
              rdS p1 6 fun x14 =>
              bif !(m20_0 o (o.s2d x13) (o.s2d x14)) then
                some (.bool false, [])
              else
                rdS p0 7 fun x15 =>
                rdS p1 7 fun x16 =>
                bif !(m20_0 o (o.s2d x15) (o.s2d x16)) then
                  some (.bool false, [])
                else
                  rdS p0 8 fun x17 =>
                  rdS p1 8 fun x18 =>
                  bif !(m20_0 o (o.s2d x17) (o.s2d x18)) then
                    some (.bool false, [])
                  else
                    rdS p0 9 fun x19 =>
                    rdS p1 9 fun x20 =>
                    bif !(m20_0 o (o.s2d x19) (o.s2d x20)) then
                      some (.bool false, [])
                    else
                      rdS p0 10 fun x21 =>
                      rdS p1 10 fun x22 =>
                      bif !(m20_0 o (o.s2d x21) (o.s2d x22)) then
                        some (.bool false, [])
                      else
                        rdS p0 11 fun x23 =>
                        rdS p1 11 fun x24 =>
                        bif !(m20_0 o (o.s2d x23) (o.s2d x24)) then
                          some (.bool false, [])
                        else
                          rdS p0 12 fun x25 =>
                          rdS p1 12 fun x26 =>
                          bif !(m20_0 o (o.s2d x25) (o.s2d x26)) then
                            some (.bool false, [])
                          else
                            rdS p0 13 fun x27 =>
                            rdS p1 13 fun x28 =>
                            bif !(m20_0 o (o.s2d x27) (o.s2d x28)) then
                              some (.bool false, [])
                            else
                              rdS p0 14 fun x29 =>
                              rdS p1 14 fun x30 =>
                              bif !(m20_0 o (o.s2d x29) (o.s2d x30)) then
                                some (.bool false, [])
                              else
                                rdS p0 15 fun x31 =>
                                rdS p1 15 fun x32 =>
                                bif !(m20_0 o (o.s2d x31) (o.s2d x32)) then
                                  some (.bool false, [])
                                else
                                  rdS p0 16 fun x33 =>
                                  rdS p1 16 fun x34 =>
                                  bif !(m20_0 o (o.s2d x33) (o.s2d x34)) then
                                    some (.bool false, [])
                                  else
                                    rdS p0 17 fun x35 =>
                                    rdS p1 17 fun x36 =>
                                    bif !(m20_0 o (o.s2d x35) (o.s2d x36)) then
                                      some (.bool false, [])
                                    else
                                      rdS p0 18 fun x37 =>
                                      rdS p1 18 fun x38 =>
                                      bif !(m20_0 o (o.s2d x37) (o.s2d x38)) then
                                        some (.bool false, [])
                                      else
                                        rdS p0 19 fun x39 =>
                                        rdS p1 19 fun x40 =>
                                        bif !(m20_0 o (o.s2d x39) (o.s2d x40)) then
                                          some (.bool false, [])
                                        else
                                          some (.bool true, [])
noncomputable def c34 (o : FO) (N : Nat) : Cx o :=
  { ty := tab [(33, ty33 o), (37, ty37 o), (51, ty51 o)]
    fn := tab [(20, .pure (e20 o))]
    rounds := 4096, nt := 20, base := 0
    loops := [loopU [2, 3, 5]] }
noncomputable def b34 : Code := match Try.f34.body with | some b => b | none => .skip
theorem is34 (N : Nat) : FnIs Try.prog (c34 ieee N) 34 Try.f34 b34 := ⟨by kernel_rfl, by kernel_rfl, by kernel_rfl, by kernel_rfl⟩
theorem eq34 (o : FO) (N : Nat) (p0 : List (AV o)) (p1 : List (AV o)) : afun (c34 o N) Try.f34.results.toList b34 [.agg p0, .agg p1] [] = f34 o p0 p1 := by kernel_rfl
theorem cok34 (N : Nat) (hN : 4096 ≤ N) : CtxOk Try.prog (c34 ieee N) := by
  refine ctxOk ?_ ?_ mixed ?_
  · intro p hp
    simp only [List.mem_cons, List.not_mem_nil, or_false] at hp
    rcases hp with rfl | rfl | rfl
    · exact tyOk33
    · exact tyOk37
    · exact tyOk51
  · intro p hp
    simp only [List.mem_cons, List.not_mem_nil, or_false] at hp
    subst hp; exact ok20 N hN
  · intro p hp
    simp only [List.mem_cons, List.not_mem_nil, or_false] at hp
    subst hp; exact loopU_ok _
noncomputable def k34 (o : FO) : R o → Bool := fun r => match r with | some (.bool _, _) => true | _ => false
theorem k34_c (o : FO) (b : Bool) (x y : R o) : k34 o (bif b then x else y) = bif b then k34 o x else k34 o y := by cases b <;> rfl
noncomputable def m34_ok (o : FO) (p0 : List (AV o)) (p1 : List (AV o)) : Bool := k34 o (f34 o p0 p1)
noncomputable def g34_0 (o : FO) : R o → Bool := fun r => match r with | some (.bool r0, _) => r0 | _ => false
theorem g34_0c (o : FO) (b : Bool) (x y : R o) : g34_0 o (bif b then x else y) = bif b then g34_0 o x else g34_0 o y := by cases b <;> rfl
noncomputable def m34_0 (o : FO) (p0 : List (AV o)) (p1 : List (AV o)) : Bool := g34_0 o (f34 o p0 p1)
noncomputable def m34_h (o : FO) (p0 : List (AV o)) (p1 : List (AV o)) : Heap o := match f34 o p0 p1 with | some (_, h) => h | _ => []
theorem val34 (o : FO) (p0 : List (AV o)) (p1 : List (AV o)) (h : m34_ok o p0 p1 = true) : f34 o p0 p1 = some (.bool (m34_0 o p0 p1), m34_h o p0 p1) := by
  unfold m34_ok k34 at h
  unfold m34_0 g34_0 m34_h
  generalize f34 o p0 p1 = r at h ⊢
  split at h
  · rfl
  · cases h

noncomputable def e34 (o : FO) : List (AV o) → Tr (AV o)
  | [.agg p0, .agg p1] => .br (m34_ok o p0 p1) (.leaf (.bool (m34_0 o p0 p1))) .fail
  | _ => .fail
theorem ok34 (N : Nat) (hN : 4096 ≤ N) : CalOk Try.prog 34 (.pure (e34 ieee)) := by
  refine calOk_pure (cok34 4096 (Nat.le_refl _)) (is34 4096) ?_
  intro args av hg
  unfold e34 at hg
  split at hg
  · obtain ⟨h0, hg⟩ := br_get hg
    cases hg
    exact ⟨rfl, rfl, _, (eq34 ieee 4096 _ _).trans (val34 ieee _ _ h0)⟩
  · cases hg

/-! loop.example/g01224/laws.FnExactBreakLarge -/
noncomputable def f10 (o : FO) (p0 : List (AV o)) (p1 : Int) (p2 : o.S) : R o :=
  rdA p0 0 20 fun c1 =>
  gd (m32_ok o c1) (
  gd (m35_ok o (m32_0 o c1) p1 p2) (
  wrA (List.replicate 20 (.f32 (o.slit 0))) 0 20 (m35_0 o (m32_0 o c1) p1 p2) fun c2 =>
  rdA p0 0 20 fun c3 =>
  gd (m32_ok o c3) (
  gd (m36_ok o (m32_0 o c3) p1 p2) (
  wrA (List.replicate 20 (.f32 (o.slit 0))) 0 20 (m36_0 o (m32_0 o c3) p1 p2) fun c4 =>
  rdA c4 0 20 fun c5 =>
  rdA c2 0 20 fun c6 =>
  gd (m34_ok o c5 c6) (
  bif m34_0 o c5 c6 then
    bif (m36_1 o (m32_0 o c3) p1 p2) != (m35_1 o (m32_0 o c1) p1 p2) then
      some (.bool false, [])
    else
      some (.bool true, [])
  else
    some (.bool false, []))))))
noncomputable def c10 (o : FO) (N : Nat) : Cx o :=
  { ty := tab [(39, ty39 o), (51, ty51 o)]
    fn := tab [(32, .pure (e32 o)), (34, .pure (e34 o)), (35, .pure (e35 o)), (36, .pure (e36 o))]
    rounds := 4096, nt := 36, base := 0
    loops := [] }
noncomputable def b10 : Code := match Try.f10.body with | some b => b | none => .skip
theorem is10 (N : Nat) : FnIs Try.prog (c10 ieee N) 10 Try.f10 b10 := ⟨by kernel_rfl, by kernel_rfl, by kernel_rfl, by kernel_rfl⟩
theorem eq10 (o : FO) (N : Nat) (p0 : List (AV o)) (p1 : Int) (p2 : o.S) : afun (c10 o N) Try.f10.results.toList b10 [.agg p0, .int .i64 p1, .f32 p2] [] = f10 o p0 p1 p2 := by kernel_rfl
theorem cok10 (N : Nat) (hN : 4096 ≤ N) : CtxOk Try.prog (c10 ieee N) := by
  refine ctxOk ?_ ?_ mixed ?_
  · intro p hp
    simp only [List.mem_cons, List.not_mem_nil, or_false] at hp
    rcases hp with rfl | rfl
    · exact tyOk39
    · exact tyOk51
  · intro p hp
    simp only [List.mem_cons, List.not_mem_nil, or_false] at hp
    rcases hp with rfl | rfl | rfl | rfl
    · exact ok32 N hN
    · exact ok34 N hN
    · exact ok35 N hN
    · exact ok36 N hN
  · intro p hp; cases hp
noncomputable def k10 (o : FO) : R o → Bool := fun r => match r with | some (.bool _, _) => true | _ => false
theorem k10_c (o : FO) (b : Bool) (x y : R o) : k10 o (bif b then x else y) = bif b then k10 o x else k10 o y := by cases b <;> rfl
noncomputable def m10_ok (o : FO) (p0 : List (AV o)) (p1 : Int) (p2 : o.S) : Bool := k10 o (f10 o p0 p1 p2)
noncomputable def g10_0 (o : FO) : R o → Bool := fun r => match r with | some (.bool r0, _) => r0 | _ => false
theorem g10_0c (o : FO) (b : Bool) (x y : R o) : g10_0 o (bif b then x else y) = bif b then g10_0 o x else g10_0 o y := by cases b <;> rfl
noncomputable def m10_0 (o : FO) (p0 : List (AV o)) (p1 : Int) (p2 : o.S) : Bool := g10_0 o (f10 o p0 p1 p2)
noncomputable def m10_h (o : FO) (p0 : List (AV o)) (p1 : Int) (p2 : o.S) : Heap o := match f10 o p0 p1 p2 with | some (_, h) => h | _ => []
theorem val10 (o : FO) (p0 : List (AV o)) (p1 : Int) (p2 : o.S) (h : m10_ok o p0 p1 p2 = true) : f10 o p0 p1 p2 = some (.bool (m10_0 o p0 p1 p2), m10_h o p0 p1 p2) := by
  unfold m10_ok k10 at h
  unfold m10_0 g10_0 m10_h
  generalize f10 o p0 p1 p2 = r at h ⊢
  split at h
  · rfl
  · cases h

noncomputable def e10 (o : FO) : List (AV o) → Tr (AV o)
  | [.agg p0, .int .i64 p1, .f32 p2] => .br (m10_ok o p0 p1 p2) (.leaf (.bool (m10_0 o p0 p1 p2))) .fail
  | _ => .fail
theorem ok10 (N : Nat) (hN : 4096 ≤ N) : CalOk Try.prog 10 (.pure (e10 ieee)) := by
  refine calOk_pure (cok10 4096 (Nat.le_refl _)) (is10 4096) ?_
  intro args av hg
  unfold e10 at hg
  split at hg
  · obtain ⟨h0, hg⟩ := br_get hg
    cases hg
    exact ⟨rfl, rfl, _, (eq10 ieee 4096 _ _ _).trans (val10 ieee _ _ _ h0)⟩
  · cases hg

end Go.Proofs.Ytbmakfcooonogaa
