import Derived.Test.YtbmakfcooonogaaG0
set_option linter.unusedVariables false
set_option maxRecDepth 100000
namespace Go.Proofs.Ytbmakfcooonogaa
open Go.Ab Go.RowKit

/-! loop.example/g01224/spec.l01Finite -/
noncomputable def f88 (o : FO) (p0 : o.S) : R o :=
  some (.bool (o.seq (o.ssub p0 p0) (o.slit 0)), [])
noncomputable def c88 (o : FO) (N : Nat) : Cx o :=
  { ty := tab []
    fn := tab []
    rounds := 4096, nt := 7, base := 0
    loops := [] }
noncomputable def b88 : Code := match Try.f88.body with | some b => b | none => .skip
theorem is88 (N : Nat) : FnIs Try.prog (c88 ieee N) 88 Try.f88 b88 := ⟨by kernel_rfl, by kernel_rfl, by kernel_rfl, by kernel_rfl⟩
theorem eq88 (o : FO) (N : Nat) (p0 : o.S) : afun (c88 o N) Try.f88.results.toList b88 [.f32 p0] [] = f88 o p0 := by kernel_rfl
theorem cok88 (N : Nat) (hN : 4096 ≤ N) : CtxOk Try.prog (c88 ieee N) := by
  refine ctxOk ?_ ?_ mixed ?_
  · intro p hp; cases hp
  · intro p hp; cases hp
  · intro p hp; cases hp
noncomputable def m88_0 (o : FO) (p0 : o.S) : Bool :=
  o.seq (o.ssub p0 p0) (o.slit 0)
theorem val88 (o : FO) (p0 : o.S) : f88 o p0 = some (.bool (m88_0 o p0), []) := by
  unfold f88 m88_0
  rfl

noncomputable def e88 (o : FO) : List (AV o) → Tr (AV o)
  | [.f32 p0] => .leaf (.bool (m88_0 o p0))
  | _ => .fail
theorem ok88 (N : Nat) (hN : 4096 ≤ N) : CalOk Try.prog 88 (.pure (e88 ieee)) := by
  refine calOk_pure (cok88 4096 (by decide)) (is88 4096) ?_
  intro args av hg
  unfold e88 at hg
  split at hg
  · cases hg
    exact ⟨rfl, rfl, _, (eq88 ieee 4096 _).trans (val88 ieee _)⟩
  · cases hg

/-! math.Float32bits -/
noncomputable def e89 (o : FO) : List (AV o) → Tr (AV o) := eBitsS o
theorem ok89 (N : Nat) (_ : 4096 ≤ N) : CalOk Try.prog 89 (.pure (e89 ieee)) := calOk_bitsS (fn := Try.f89) (by kernel_rfl) (by kernel_rfl) (by kernel_rfl) (by kernel_rfl) (by kernel_rfl)

/-! loop.example/g01224/spec.l01Amount -/
noncomputable def f57 (o : FO) (p0 : o.S) : R o :=
  bif m88_0 o p0 then
    bif o.slt (o.slit 0) p0 then
      some (.bool true, [])
    else
      gd (o.seq p0 p0) (
      bif (o.sbits p0) == (0 : Int) then
        some (.bool true, [])
      else
        some (.bool false, []))
  else
    some (.bool false, [])
noncomputable def c57 (o : FO) (N : Nat) : Cx o :=
  { ty := tab []
    fn := tab [(88, .pure (e88 o)), (89, .pure (e89 o))]
    rounds := 4096, nt := 14, base := 0
    loops := [] }
noncomputable def b57 : Code := match Try.f57.body with | some b => b | none => .skip
theorem is57 (N : Nat) : FnIs Try.prog (c57 ieee N) 57 Try.f57 b57 := ⟨by kernel_rfl, by kernel_rfl, by kernel_rfl, by kernel_rfl⟩
theorem eq57 (o : FO) (N : Nat) (p0 : o.S) : afun (c57 o N) Try.f57.results.toList b57 [.f32 p0] [] = f57 o p0 := by kernel_rfl
theorem cok57 (N : Nat) (hN : 4096 ≤ N) : CtxOk Try.prog (c57 ieee N) := by
  refine ctxOk ?_ ?_ mixed ?_
  · intro p hp; cases hp
  · intro p hp
    simp only [List.mem_cons, List.not_mem_nil, or_false] at hp
    rcases hp with rfl | rfl
    · exact ok88 N hN
    · exact ok89 N hN
  · intro p hp; cases hp


theorem val57 (p0 : ieee.S) : f57 ieee p0 = some (.bool (amtS ieee p0), []) := by
  have e : f57 ieee p0 = (bif finS ieee p0 then (bif ieee.slt (ieee.slit 0) p0 then some (.bool true, []) else gd (ieee.seq p0 p0) (bif ieee.sbits p0 == 0 then some (.bool true, []) else some (.bool false, []))) else some (.bool false, [])) := rfl
  rw [e]
  unfold amtS
  have h := seq_of_fin p0
  revert h
  cases finS ieee p0
  · intro _; rfl
  · intro h
    rw [h rfl]
    cases ieee.slt (ieee.slit 0) p0
    · cases (ieee.sbits p0 == 0) <;> rfl
    · rfl

noncomputable def e57 (o : FO) : List (AV o) → Tr (AV o)
  | [.f32 p0] => .leaf (.bool (amtS o p0))
  | _ => .fail
theorem ok57 (N : Nat) (hN : 4096 ≤ N) : CalOk Try.prog 57 (.pure (e57 ieee)) := by
  refine calOk_pure (cok57 4096 (by decide)) (is57 4096) ?_
  intro args av hg
  unfold e57 at hg
  split at hg
  · cases hg
    exact ⟨rfl, rfl, _, (eq57 ieee 4096 _).trans (val57 _)⟩
  · cases hg

/-! loop.example/g01224/spec.l01Mass -/
noncomputable def f58 (o : FO) (p0 : Int) : R o :=
  gd (decide (0 ≤ (IntKind.wrap .u64 p0))) (
  some (.f32 (o.sofi (IntKind.wrap .i64 ((1 : Int) * 2 ^ (min ((IntKind.wrap .u64 p0)).toNat (IntKind.bits .i64))))), []))
noncomputable def c58 (o : FO) (N : Nat) : Cx o :=
  { ty := tab [(2, ty2 o), (33, ty33 o), (78, ty78 o)]
    fn := tab []
    rounds := 4096, nt := 7, base := 0
    loops := [] }
noncomputable def b58 : Code := match Try.f58.body with | some b => b | none => .skip
theorem is58 (N : Nat) : FnIs Try.prog (c58 ieee N) 58 Try.f58 b58 := ⟨by kernel_rfl, by kernel_rfl, by kernel_rfl, by kernel_rfl⟩
theorem eq58 (o : FO) (N : Nat) (p0 : Int) : afun (c58 o N) Try.f58.results.toList b58 [.int .i64 p0] [] = f58 o p0 := by kernel_rfl
theorem cok58 (N : Nat) (hN : 4096 ≤ N) : CtxOk Try.prog (c58 ieee N) := by
  refine ctxOk ?_ ?_ mixed ?_
  · intro p hp
    simp only [List.mem_cons, List.not_mem_nil, or_false] at hp
    rcases hp with rfl | rfl | rfl
    · exact tyOk2
    · exact tyOk33
    · exact tyOk78
  · intro p hp; cases hp
  · intro p hp; cases hp
noncomputable def m58_ok (o : FO) (p0 : Int) : Bool :=
  bif decide (0 ≤ (IntKind.wrap .u64 p0)) then
    true
  else
    false
noncomputable def m58_0 (o : FO) (p0 : Int) : o.S :=
  o.sofi (IntKind.wrap .i64 ((1 : Int) * 2 ^ (min ((IntKind.wrap .u64 p0)).toNat (IntKind.bits .i64))))
theorem val58 (o : FO) (p0 : Int) (h : m58_ok o p0 = true) : f58 o p0 = some (.f32 (m58_0 o p0), []) := by
  revert h
  unfold m58_ok f58 m58_0
  try dsimp only
  cases (decide (0 ≤ (IntKind.wrap .u64 p0)))
  · intro h; exact absurd h Bool.false_ne_true
  · intro _; rfl

noncomputable def e58 (o : FO) : List (AV o) → Tr (AV o)
  | [.int .i64 p0] => .br (m58_ok o p0) (.leaf (.f32 (m58_0 o p0))) .fail
  | _ => .fail
theorem ok58 (N : Nat) (hN : 4096 ≤ N) : CalOk Try.prog 58 (.pure (e58 ieee)) := by
  refine calOk_pure (cok58 4096 (by decide)) (is58 4096) ?_
  intro args av hg
  unfold e58 at hg
  split at hg
  · obtain ⟨h0, hg⟩ := br_get hg
    cases hg
    exact ⟨rfl, rfl, _, (eq58 ieee 4096 _).trans (val58 ieee _ h0)⟩
  · cases hg

/-! loop.example/g01224/spec.l01Third -/
noncomputable def f90_L2 (o : FO) (N : Nat) (s0 : (o.D × o.D) → R o) (s1 : (o.D × o.D) → R o) (s2 : o.D × o.D × o.D × Int → R o) (a : o.D × o.D × o.D × Int) : R o :=
  bif decide (a.2.2.2 < (6 : Int)) then
    s2 (a.1, a.2.1, o.dsub a.2.2.1 (o.ddiv (o.dsub (o.dmul (o.dmul a.2.2.1 a.2.2.1) a.2.2.1) a.1) (o.dmul (o.dmul (o.dlit 4613937818241073152) a.2.2.1) a.2.2.1)), IntKind.wrap .i64 (a.2.2.2 + (1 : Int)))
  else
    gd (o.d2sOk (o.dmul a.2.2.1 a.2.1)) (
    some (.f32 (o.d2s (o.dmul a.2.2.1 a.2.1)), []))
noncomputable def f90_D2 (o : FO) (vs : List (AV o)) (h : Heap o) : Option (o.D × o.D × o.D × Int) :=
  match vs, h with
  | [.f64 a2_0, .f64 a2_1, .f64 a2_2, .int .i64 a2_3], [] => some (a2_0, a2_1, a2_2, a2_3)
  | _, _ => none
noncomputable def f90_E2 (o : FO) (a : o.D × o.D × o.D × Int) : List (AV o) × Heap o := ([.f64 a.1, .f64 a.2.1, .f64 a.2.2.1, .int .i64 a.2.2.2], [])
theorem f90_DE2 (o : FO) : ∀ vs h a, f90_D2 o vs h = some a → f90_E2 o a = (vs, h) := by
  intro vs h a hx
  unfold f90_D2 at hx
  split at hx
  · cases hx; rfl
  · cases hx
noncomputable def f90_L1 (o : FO) (N : Nat) (s0 : (o.D × o.D) → R o) (s1 : o.D × o.D → R o) (a : o.D × o.D) : R o :=
  bif o.dlt a.1 (o.dlit 4607182418800017408) then
    s1 (o.dmul a.1 (o.dlit 4620693217682128896), o.ddiv a.2 (o.dlit 4611686018427387904))
  else
    iter (f90_L2 o N s0 s1) N (a.1, a.2, (o.dlit 4609434218613702656), (0 : Int))
noncomputable def f90_D1 (o : FO) (vs : List (AV o)) (h : Heap o) : Option (o.D × o.D) :=
  match vs, h with
  | [.f64 a1_0, .f64 a1_1], [] => some (a1_0, a1_1)
  | _, _ => none
noncomputable def f90_E1 (o : FO) (a : o.D × o.D) : List (AV o) × Heap o := ([.f64 a.1, .f64 a.2], [])
theorem f90_DE1 (o : FO) : ∀ vs h a, f90_D1 o vs h = some a → f90_E1 o a = (vs, h) := by
  intro vs h a hx
  unfold f90_D1 at hx
  split at hx
  · cases hx; rfl
  · cases hx
noncomputable def f90_L0 (o : FO) (N : Nat) (s0 : o.D × o.D → R o) (a : o.D × o.D) : R o :=
  bif o.dle (o.dlit 4620693217682128896) a.1 then
    s0 (o.ddiv a.1 (o.dlit 4620693217682128896), o.dmul a.2 (o.dlit 4611686018427387904))
  else
    iter (f90_L1 o N s0) N (a.1, a.2)
noncomputable def f90_D0 (o : FO) (vs : List (AV o)) (h : Heap o) : Option (o.D × o.D) :=
  match vs, h with
  | [.f64 a0_0, .f64 a0_1], [] => some (a0_0, a0_1)
  | _, _ => none
noncomputable def f90_E0 (o : FO) (a : o.D × o.D) : List (AV o) × Heap o := ([.f64 a.1, .f64 a.2], [])
theorem f90_DE0 (o : FO) : ∀ vs h a, f90_D0 o vs h = some a → f90_E0 o a = (vs, h) := by
  intro vs h a hx
  unfold f90_D0 at hx
  split at hx
  · cases hx; rfl
  · cases hx
noncomputable def f90 (o : FO) (N : Nat) (p0 : o.S) : R o :=
  bif o.seq p0 (o.slit 0) then
    some (.f32 (o.slit 0), [])
  else
    iter (f90_L0 o N) N (o.s2d p0, (o.dlit 4607182418800017408))
noncomputable def c90 (o : FO) (N : Nat) : Cx o :=
  { ty := tab [(33, ty33 o), (37, ty37 o)]
    fn := tab []
    rounds := N, nt := 47, base := 0
    loops := [loopD [3, 4] (f90_D0 o) (f90_E0 o), loopD [3, 4] (f90_D1 o) (f90_E1 o), loopD [3, 4, 5, 6] (f90_D2 o) (f90_E2 o)] }
noncomputable def b90 : Code := match Try.f90.body with | some b => b | none => .skip
theorem is90 (N : Nat) : FnIs Try.prog (c90 ieee N) 90 Try.f90 b90 := ⟨by kernel_rfl, by kernel_rfl, by kernel_rfl, by kernel_rfl⟩
theorem eq90 (o : FO) (N : Nat) (p0 : o.S) : afun (c90 o N) Try.f90.results.toList b90 [.f32 p0] [] = f90 o N p0 := by kernel_rfl
theorem cok90 (N : Nat) (hN : 4096 ≤ N) : CtxOk Try.prog (c90 ieee N) := by
  refine ctxOk ?_ ?_ mixed ?_
  · intro p hp
    simp only [List.mem_cons, List.not_mem_nil, or_false] at hp
    rcases hp with rfl | rfl
    · exact tyOk33
    · exact tyOk37
  · intro p hp; cases hp
  · intro p hp
    simp only [List.mem_cons, List.not_mem_nil, or_false] at hp
    rcases hp with rfl | rfl | rfl
    · exact loopD_ok _ _ _ (f90_DE0 ieee)
    · exact loopD_ok _ _ _ (f90_DE1 ieee)
    · exact loopD_ok _ _ _ (f90_DE2 ieee)
noncomputable def k90 (o : FO) : R o → Bool := fun r => match r with | some (.f32 _, _) => true | _ => false
theorem k90_c (o : FO) (b : Bool) (x y : R o) : k90 o (bif b then x else y) = bif b then k90 o x else k90 o y := by cases b <;> rfl
noncomputable def m90_ok (o : FO) (p0 : o.S) : Bool := k90 o (f90 o 4096 p0)
noncomputable def g90_0 (o : FO) : R o → o.S := fun r => match r with | some (.f32 r0, _) => r0 | _ => (o.slit 0)
theorem g90_0c (o : FO) (b : Bool) (x y : R o) : g90_0 o (bif b then x else y) = bif b then g90_0 o x else g90_0 o y := by cases b <;> rfl
noncomputable def m90_0 (o : FO) (p0 : o.S) : o.S := g90_0 o (f90 o 4096 p0)
noncomputable def m90_h (o : FO) (p0 : o.S) : Heap o := match f90 o 4096 p0 with | some (_, h) => h | _ => []
theorem val90 (o : FO) (p0 : o.S) (h : m90_ok o p0 = true) : f90 o 4096 p0 = some (.f32 (m90_0 o p0), m90_h o p0) := by
  unfold m90_ok k90 at h
  unfold m90_0 g90_0 m90_h
  generalize f90 o 4096 p0 = r at h ⊢
  split at h
  · rfl
  · cases h

noncomputable def e90 (o : FO) : List (AV o) → Tr (AV o)
  | [.f32 p0] => .br (m90_ok o p0) (.leaf (.f32 (m90_0 o p0))) .fail
  | _ => .fail
theorem ok90 (N : Nat) (hN : 4096 ≤ N) : CalOk Try.prog 90 (.pure (e90 ieee)) := by
  refine calOk_pure (cok90 4096 (by decide)) (is90 4096) ?_
  intro args av hg
  unfold e90 at hg
  split at hg
  · obtain ⟨h0, hg⟩ := br_get hg
    cases hg
    exact ⟨rfl, rfl, _, (eq90 ieee 4096 _).trans (val90 ieee _ h0)⟩
  · cases hg

/-! loop.example/g01224/spec.l01Radius -/
noncomputable def f64 (o : FO) (p0 : Int) : R o :=
  gd (m58_ok o p0) (
  gd (m90_ok o (m58_0 o p0)) (
  some (.f32 (m90_0 o (m58_0 o p0)), [])))
noncomputable def c64 (o : FO) (N : Nat) : Cx o :=
  { ty := tab []
    fn := tab [(58, .pure (e58 o)), (90, .pure (e90 o))]
    rounds := 4096, nt := 6, base := 0
    loops := [] }
noncomputable def b64 : Code := match Try.f64.body with | some b => b | none => .skip
theorem is64 (N : Nat) : FnIs Try.prog (c64 ieee N) 64 Try.f64 b64 := ⟨by kernel_rfl, by kernel_rfl, by kernel_rfl, by kernel_rfl⟩
theorem eq64 (o : FO) (N : Nat) (p0 : Int) : afun (c64 o N) Try.f64.results.toList b64 [.int .i64 p0] [] = f64 o p0 := by kernel_rfl
theorem cok64 (N : Nat) (hN : 4096 ≤ N) : CtxOk Try.prog (c64 ieee N) := by
  refine ctxOk ?_ ?_ mixed ?_
  · intro p hp; cases hp
  · intro p hp
    simp only [List.mem_cons, List.not_mem_nil, or_false] at hp
    rcases hp with rfl | rfl
    · exact ok58 N hN
    · exact ok90 N hN
  · intro p hp; cases hp
noncomputable def m64_ok (o : FO) (p0 : Int) : Bool :=
  bif m58_ok o p0 then
    bif m90_ok o (m58_0 o p0) then
      true
    else
      false
  else
    false
noncomputable def m64_0 (o : FO) (p0 : Int) : o.S :=
  m90_0 o (m58_0 o p0)
theorem val64 (o : FO) (p0 : Int) (h : m64_ok o p0 = true) : f64 o p0 = some (.f32 (m64_0 o p0), []) := by
  revert h
  unfold m64_ok f64 m64_0
  try dsimp only
  cases (m58_ok o p0)
  · intro h; exact absurd h Bool.false_ne_true
  · cases (m90_ok o (m58_0 o p0))
    · intro h; exact absurd h Bool.false_ne_true
    · intro _; rfl

noncomputable def e64 (o : FO) : List (AV o) → Tr (AV o)
  | [.int .i64 p0] => .br (m64_ok o p0) (.leaf (.f32 (m64_0 o p0))) .fail
  | _ => .fail
theorem ok64 (N : Nat) (hN : 4096 ≤ N) : CalOk Try.prog 64 (.pure (e64 ieee)) := by
  refine calOk_pure (cok64 4096 (by decide)) (is64 4096) ?_
  intro args av hg
  unfold e64 at hg
  split at hg
  · obtain ⟨h0, hg⟩ := br_get hg
    cases hg
    exact ⟨rfl, rfl, _, (eq64 ieee 4096 _).trans (val64 ieee _ h0)⟩
  · cases hg

/-! loop.example/g01224/spec.l03Fall -/
noncomputable def f54 (o : FO) (p0 : Int) : R o :=
  gd (m64_ok o p0) (
  some (.f32 (o.sdiv (o.smul (m64_0 o p0) (m64_0 o p0)) (o.sadd (o.slit 1065353216) (o.smul (o.slit 1056964608) (m64_0 o p0)))), []))
noncomputable def c54 (o : FO) (N : Nat) : Cx o :=
  { ty := tab []
    fn := tab [(64, .pure (e64 o))]
    rounds := 4096, nt := 13, base := 0
    loops := [] }
noncomputable def b54 : Code := match Try.f54.body with | some b => b | none => .skip
theorem is54 (N : Nat) : FnIs Try.prog (c54 ieee N) 54 Try.f54 b54 := ⟨by kernel_rfl, by kernel_rfl, by kernel_rfl, by kernel_rfl⟩
theorem eq54 (o : FO) (N : Nat) (p0 : Int) : afun (c54 o N) Try.f54.results.toList b54 [.int .i64 p0] [] = f54 o p0 := by kernel_rfl
theorem cok54 (N : Nat) (hN : 4096 ≤ N) : CtxOk Try.prog (c54 ieee N) := by
  refine ctxOk ?_ ?_ mixed ?_
  · intro p hp; cases hp
  · intro p hp
    simp only [List.mem_cons, List.not_mem_nil, or_false] at hp
    subst hp; exact ok64 N hN
  · intro p hp; cases hp
noncomputable def m54_ok (o : FO) (p0 : Int) : Bool :=
  bif m64_ok o p0 then
    true
  else
    false
noncomputable def m54_0 (o : FO) (p0 : Int) : o.S :=
  o.sdiv (o.smul (m64_0 o p0) (m64_0 o p0)) (o.sadd (o.slit 1065353216) (o.smul (o.slit 1056964608) (m64_0 o p0)))
theorem val54 (o : FO) (p0 : Int) (h : m54_ok o p0 = true) : f54 o p0 = some (.f32 (m54_0 o p0), []) := by
  revert h
  unfold m54_ok f54 m54_0
  try dsimp only
  cases (m64_ok o p0)
  · intro h; exact absurd h Bool.false_ne_true
  · intro _; rfl

noncomputable def e54 (o : FO) : List (AV o) → Tr (AV o)
  | [.int .i64 p0] => .br (m54_ok o p0) (.leaf (.f32 (m54_0 o p0))) .fail
  | _ => .fail
theorem ok54 (N : Nat) (hN : 4096 ≤ N) : CalOk Try.prog 54 (.pure (e54 ieee)) := by
  refine calOk_pure (cok54 4096 (by decide)) (is54 4096) ?_
  intro args av hg
  unfold e54 at hg
  split at hg
  · obtain ⟨h0, hg⟩ := br_get hg
    cases hg
    exact ⟨rfl, rfl, _, (eq54 ieee 4096 _).trans (val54 ieee _ h0)⟩
  · cases hg

/-! math.Float32frombits -/
noncomputable def e91 (o : FO) : List (AV o) → Tr (AV o) := eOfbS o
theorem ok91 (N : Nat) (_ : 4096 ≤ N) : CalOk Try.prog 91 (.pure (e91 ieee)) := calOk_ofbS (fn := Try.f91) (by kernel_rfl) (by kernel_rfl) (by kernel_rfl) (by kernel_rfl) (by kernel_rfl)

/-! loop.example/g01224/spec.l01Abs -/
noncomputable def f65 (o : FO) (p0 : o.S) : R o :=
  gd (o.seq p0 p0) (
  let v1 : Int := o.iand .u32 (o.sbits p0) (2147483647 : Int)
  gd (decide (v1 < 4294967296)) (
  some (.f32 (o.sofb v1), [])))
noncomputable def c65 (o : FO) (N : Nat) : Cx o :=
  { ty := tab []
    fn := tab [(89, .pure (e89 o)), (91, .pure (e91 o))]
    rounds := 4096, nt := 7, base := 0
    loops := [] }
noncomputable def b65 : Code := match Try.f65.body with | some b => b | none => .skip
theorem is65 (N : Nat) : FnIs Try.prog (c65 ieee N) 65 Try.f65 b65 := ⟨by kernel_rfl, by kernel_rfl, by kernel_rfl, by kernel_rfl⟩
theorem eq65 (o : FO) (N : Nat) (p0 : o.S) : afun (c65 o N) Try.f65.results.toList b65 [.f32 p0] [] = f65 o p0 := by kernel_rfl
theorem cok65 (N : Nat) (hN : 4096 ≤ N) : CtxOk Try.prog (c65 ieee N) := by
  refine ctxOk ?_ ?_ mixed ?_
  · intro p hp; cases hp
  · intro p hp
    simp only [List.mem_cons, List.not_mem_nil, or_false] at hp
    rcases hp with rfl | rfl
    · exact ok89 N hN
    · exact ok91 N hN
  · intro p hp; cases hp
noncomputable def m65_ok (o : FO) (p0 : o.S) : Bool :=
  bif o.seq p0 p0 then
    bif decide ((o.iand .u32 (o.sbits p0) (2147483647 : Int)) < 4294967296) then
      true
    else
      false
  else
    false
noncomputable def m65_0 (o : FO) (p0 : o.S) : o.S :=
  o.sofb (o.iand .u32 (o.sbits p0) (2147483647 : Int))
theorem val65 (o : FO) (p0 : o.S) (h : m65_ok o p0 = true) : f65 o p0 = some (.f32 (m65_0 o p0), []) := by
  revert h
  unfold m65_ok f65 m65_0
  try dsimp only
  cases (o.seq p0 p0)
  · intro h; exact absurd h Bool.false_ne_true
  · cases (decide ((o.iand .u32 (o.sbits p0) (2147483647 : Int)) < 4294967296))
    · intro h; exact absurd h Bool.false_ne_true
    · intro _; rfl

noncomputable def e65 (o : FO) : List (AV o) → Tr (AV o)
  | [.f32 p0] => .br (m65_ok o p0) (.leaf (.f32 (m65_0 o p0))) .fail
  | _ => .fail
theorem ok65 (N : Nat) (hN : 4096 ≤ N) : CalOk Try.prog 65 (.pure (e65 ieee)) := by
  refine calOk_pure (cok65 4096 (by decide)) (is65 4096) ?_
  intro args av hg
  unfold e65 at hg
  split at hg
  · obtain ⟨h0, hg⟩ := br_get hg
    cases hg
    exact ⟨rfl, rfl, _, (eq65 ieee 4096 _).trans (val65 ieee _ h0)⟩
  · cases hg

/-! loop.example/g01224/spec.l03Told -/
noncomputable def f59_L1 (o : FO) (N : Nat) (s0 : (Int × List (AV o) × List (AV o)) → R o) (s1 : Int × Int × List (AV o) × List (AV o) → R o) (a : Int × Int × List (AV o) × List (AV o)) : R o :=
  bif decide (a.2.1 < (20 : Int)) then
    gd (decide (0 ≤ a.1) && decide (a.1 < ((20 : Nat) : Int))) (
    gd (decide (0 ≤ a.2.1) && decide (a.2.1 < ((20 : Nat) : Int))) (
    rdS a.2.2.1 ((0 + (((a.1).toNat) * 20)) + (((a.2.1).toNat) * 1)) fun x1 =>
    bif !(m88_0 o x1) then
      wrA a.2.2.2 0 400 (List.replicate 400 (.f32 (o.slit 0))) fun c2 =>
      rdA c2 0 400 fun c3 =>
      some (.tup [.agg c3, .int .i64 (4 : Int)], [])
    else
      s1 (a.1, IntKind.wrap .i64 (a.2.1 + (1 : Int)), a.2.2.1, a.2.2.2)))
  else
    s0 (IntKind.wrap .i64 (a.1 + (1 : Int)), a.2.2.1, a.2.2.2)
noncomputable def f59_D1 (o : FO) (vs : List (AV o)) (h : Heap o) : Option (Int × Int × List (AV o) × List (AV o)) :=
  match vs, h with
  | [.ptr 0 0, .ptr 1 0, .int .i64 a1_0, .int .i64 a1_1], [.live true true a1_2, .live true true a1_3] => some (a1_0, a1_1, a1_2, a1_3)
  | _, _ => none
noncomputable def f59_E1 (o : FO) (a : Int × Int × List (AV o) × List (AV o)) : List (AV o) × Heap o := ([.ptr 0 0, .ptr 1 0, .int .i64 a.1, .int .i64 a.2.1], [.live true true a.2.2.1, .live true true a.2.2.2])
theorem f59_DE1 (o : FO) : ∀ vs h a, f59_D1 o vs h = some a → f59_E1 o a = (vs, h) := by
  intro vs h a hx
  unfold f59_D1 at hx
  split at hx
  · cases hx; rfl
  · cases hx
noncomputable def f59_L0 (o : FO) (N : Nat) (s0 : Int × List (AV o) × List (AV o) → R o) (a : Int × List (AV o) × List (AV o)) : R o :=
  bif decide (a.1 < (20 : Int)) then
    iter (f59_L1 o N s0) N (a.1, (0 : Int), a.2.1, a.2.2)
  else
    rdA a.2.1 0 400 fun c4 =>
    wrA a.2.2 0 400 c4 fun c5 =>
    rdA c5 0 400 fun c6 =>
    some (.tup [.agg c6, .int .i64 (0 : Int)], [])
noncomputable def f59_D0 (o : FO) (vs : List (AV o)) (h : Heap o) : Option (Int × List (AV o) × List (AV o)) :=
  match vs, h with
  | [.ptr 0 0, .ptr 1 0, .int .i64 a0_0], [.live true true a0_1, .live true true a0_2] => some (a0_0, a0_1, a0_2)
  | _, _ => none
noncomputable def f59_E0 (o : FO) (a : Int × List (AV o) × List (AV o)) : List (AV o) × Heap o := ([.ptr 0 0, .ptr 1 0, .int .i64 a.1], [.live true true a.2.1, .live true true a.2.2])
theorem f59_DE0 (o : FO) : ∀ vs h a, f59_D0 o vs h = some a → f59_E0 o a = (vs, h) := by
  intro vs h a hx
  unfold f59_D0 at hx
  split at hx
  · cases hx; rfl
  · cases hx
noncomputable def f59 (o : FO) (N : Nat) (p0 : List (AV o)) : R o :=
  iter (f59_L0 o N) N ((0 : Int), p0, List.replicate 400 (.f32 (o.slit 0)))
noncomputable def c59 (o : FO) (N : Nat) : Cx o :=
  { ty := tab [(33, ty33 o), (39, ty39 o), (41, ty41 o)]
    fn := tab [(88, .pure (e88 o))]
    rounds := N, nt := 23, base := 0
    loops := [loopD [1, 2, 4] (f59_D0 o) (f59_E0 o), loopD [1, 2, 4, 5] (f59_D1 o) (f59_E1 o)] }
noncomputable def b59 : Code := match Try.f59.body with | some b => b | none => .skip
theorem is59 (N : Nat) : FnIs Try.prog (c59 ieee N) 59 Try.f59 b59 := ⟨by kernel_rfl, by kernel_rfl, by kernel_rfl, by kernel_rfl⟩
theorem eq59 (o : FO) (N : Nat) (p0 : List (AV o)) : afun (c59 o N) Try.f59.results.toList b59 [.agg p0] [] = f59 o N p0 := by kernel_rfl
theorem cok59 (N : Nat) (hN : 4096 ≤ N) : CtxOk Try.prog (c59 ieee N) := by
  refine ctxOk ?_ ?_ mixed ?_
  · intro p hp
    simp only [List.mem_cons, List.not_mem_nil, or_false] at hp
    rcases hp with rfl | rfl | rfl
    · exact tyOk33
    · exact tyOk39
    · exact tyOk41
  · intro p hp
    simp only [List.mem_cons, List.not_mem_nil, or_false] at hp
    subst hp; exact ok88 N hN
  · intro p hp
    simp only [List.mem_cons, List.not_mem_nil, or_false] at hp
    rcases hp with rfl | rfl
    · exact loopD_ok _ _ _ (f59_DE0 ieee)
    · exact loopD_ok _ _ _ (f59_DE1 ieee)
noncomputable def k59 (o : FO) : R o → Bool := fun r => match r with | some (.tup [.agg _, .int .i64 _], _) => true | _ => false
theorem k59_c (o : FO) (b : Bool) (x y : R o) : k59 o (bif b then x else y) = bif b then k59 o x else k59 o y := by cases b <;> rfl
noncomputable def m59_ok (o : FO) (p0 : List (AV o)) : Bool := k59 o (f59 o 4096 p0)
noncomputable def g59_0 (o : FO) : R o → List (AV o) := fun r => match r with | some (.tup [.agg r0, .int .i64 _], _) => r0 | _ => []
theorem g59_0c (o : FO) (b : Bool) (x y : R o) : g59_0 o (bif b then x else y) = bif b then g59_0 o x else g59_0 o y := by cases b <;> rfl
noncomputable def m59_0 (o : FO) (p0 : List (AV o)) : List (AV o) := g59_0 o (f59 o 4096 p0)
noncomputable def g59_1 (o : FO) : R o → Int := fun r => match r with | some (.tup [.agg _, .int .i64 r1], _) => r1 | _ => 0
theorem g59_1c (o : FO) (b : Bool) (x y : R o) : g59_1 o (bif b then x else y) = bif b then g59_1 o x else g59_1 o y := by cases b <;> rfl
noncomputable def m59_1 (o : FO) (p0 : List (AV o)) : Int := g59_1 o (f59 o 4096 p0)
noncomputable def m59_h (o : FO) (p0 : List (AV o)) : Heap o := match f59 o 4096 p0 with | some (_, h) => h | _ => []
theorem val59 (o : FO) (p0 : List (AV o)) (h : m59_ok o p0 = true) : f59 o 4096 p0 = some (.tup [.agg (m59_0 o p0), .int .i64 (m59_1 o p0)], m59_h o p0) := by
  unfold m59_ok k59 at h
  unfold m59_0 g59_0 m59_1 g59_1 m59_h
  generalize f59 o 4096 p0 = r at h ⊢
  split at h
  · rfl
  · cases h

noncomputable def e59 (o : FO) : List (AV o) → Tr (AV o)
  | [.agg p0] => .br (m59_ok o p0) (.leaf (.tup [.agg (m59_0 o p0), .int .i64 (m59_1 o p0)])) .fail
  | _ => .fail
theorem ok59 (N : Nat) (hN : 4096 ≤ N) : CalOk Try.prog 59 (.pure (e59 ieee)) := by
  refine calOk_pure (cok59 4096 (by decide)) (is59 4096) ?_
  intro args av hg
  unfold e59 at hg
  split at hg
  · obtain ⟨h0, hg⟩ := br_get hg
    cases hg
    exact ⟨rfl, rfl, _, (eq59 ieee 4096 _).trans (val59 ieee _ h0)⟩
  · cases hg

/-! loop.example/g01224/spec.FallKernel -/
noncomputable def f24_L1 (o : FO) (N : Nat) (s0 : (o.S × Int × List (AV o) × List (AV o)) → R o) (s1 : o.S × Int × Int × List (AV o) × List (AV o) → R o) (a : o.S × Int × Int × List (AV o) × List (AV o)) : R o :=
  bif decide (a.2.2.1 < (20 : Int)) then
    gd (m64_ok o a.2.1) (
    gd (m64_ok o a.2.2.1) (
    let v1 : o.S := o.sadd (m64_0 o a.2.1) (m64_0 o a.2.2.1)
    gd (m54_ok o a.2.1) (
    gd (m54_ok o a.2.2.1) (
    let v2 : o.S := o.ssub (m54_0 o a.2.1) (m54_0 o a.2.2.1)
    gd (m65_ok o v2) (
    gd (decide (0 ≤ a.2.1) && decide (a.2.1 < ((20 : Nat) : Int))) (
    gd (decide (0 ≤ a.2.2.1) && decide (a.2.2.1 < ((20 : Nat) : Int))) (
    wr1 a.2.2.2.2 ((0 + (((a.2.1).toNat) * 20)) + (((a.2.2.1).toNat) * 1)) (.f32 (o.smul (o.smul a.1 (o.smul v1 v1)) (m65_0 o v2))) fun c4 =>
    s1 (a.1, a.2.1, IntKind.wrap .i64 (a.2.2.1 + (1 : Int)), a.2.2.2.1, c4))))))))
  else
    s0 (a.1, IntKind.wrap .i64 (a.2.1 + (1 : Int)), a.2.2.2.1, a.2.2.2.2)
noncomputable def f24_D1 (o : FO) (vs : List (AV o)) (h : Heap o) : Option (o.S × Int × Int × List (AV o) × List (AV o)) :=
  match vs, h with
  | [.f32 a1_0, .ptr 0 0, .ptr 1 0, .int .i64 a1_1, .int .i64 a1_2], [.live true true a1_3, .live true true a1_4] => some (a1_0, a1_1, a1_2, a1_3, a1_4)
  | _, _ => none
noncomputable def f24_E1 (o : FO) (a : o.S × Int × Int × List (AV o) × List (AV o)) : List (AV o) × Heap o := ([.f32 a.1, .ptr 0 0, .ptr 1 0, .int .i64 a.2.1, .int .i64 a.2.2.1], [.live true true a.2.2.2.1, .live true true a.2.2.2.2])
theorem f24_DE1 (o : FO) : ∀ vs h a, f24_D1 o vs h = some a → f24_E1 o a = (vs, h) := by
  intro vs h a hx
  unfold f24_D1 at hx
  split at hx
  · cases hx; rfl
  · cases hx
noncomputable def f24_L0 (o : FO) (N : Nat) (s0 : o.S × Int × List (AV o) × List (AV o) → R o) (a : o.S × Int × List (AV o) × List (AV o)) : R o :=
  bif decide (a.2.1 < (20 : Int)) then
    iter (f24_L1 o N s0) N (a.1, a.2.1, (0 : Int), a.2.2.1, a.2.2.2)
  else
    rdA a.2.2.2 0 400 fun c5 =>
    gd (m59_ok o c5) (
    wrA a.2.2.1 0 400 (m59_0 o c5) fun c6 =>
    rdA c6 0 400 fun c7 =>
    some (.tup [.agg c7, .int .i64 (m59_1 o c5)], []))
noncomputable def f24_D0 (o : FO) (vs : List (AV o)) (h : Heap o) : Option (o.S × Int × List (AV o) × List (AV o)) :=
  match vs, h with
  | [.f32 a0_0, .ptr 0 0, .ptr 1 0, .int .i64 a0_1], [.live true true a0_2, .live true true a0_3] => some (a0_0, a0_1, a0_2, a0_3)
  | _, _ => none
noncomputable def f24_E0 (o : FO) (a : o.S × Int × List (AV o) × List (AV o)) : List (AV o) × Heap o := ([.f32 a.1, .ptr 0 0, .ptr 1 0, .int .i64 a.2.1], [.live true true a.2.2.1, .live true true a.2.2.2])
theorem f24_DE0 (o : FO) : ∀ vs h a, f24_D0 o vs h = some a → f24_E0 o a = (vs, h) := by
  intro vs h a hx
  unfold f24_D0 at hx
  split at hx
  · cases hx; rfl
  · cases hx
noncomputable def f24 (o : FO) (N : Nat) (p0 : o.S) : R o :=
  bif !(amtS o p0) then
    wrA (List.replicate 400 (.f32 (o.slit 0))) 0 400 (List.replicate 400 (.f32 (o.slit 0))) fun c1 =>
    rdA c1 0 400 fun c2 =>
    some (.tup [.agg c2, .int .i64 (2 : Int)], [])
  else
    wrA (List.replicate 400 (.f32 (o.slit 0))) 0 400 (List.replicate 400 (.f32 (o.slit 0))) fun c3 =>
    iter (f24_L0 o N) N (p0, (0 : Int), List.replicate 400 (.f32 (o.slit 0)), c3)
noncomputable def c24 (o : FO) (N : Nat) : Cx o :=
  { ty := tab [(33, ty33 o), (39, ty39 o), (41, ty41 o)]
    fn := tab [(54, .pure (e54 o)), (57, .pure (e57 o)), (59, .pure (e59 o)), (64, .pure (e64 o)), (65, .pure (e65 o))]
    rounds := N, nt := 48, base := 0
    loops := [loopD [0, 2, 4, 5] (f24_D0 o) (f24_E0 o), loopD [0, 2, 4, 5, 6] (f24_D1 o) (f24_E1 o)] }
noncomputable def b24 : Code := match Try.f24.body with | some b => b | none => .skip
theorem is24 (N : Nat) : FnIs Try.prog (c24 ieee N) 24 Try.f24 b24 := ⟨by kernel_rfl, by kernel_rfl, by kernel_rfl, by kernel_rfl⟩
theorem eq24 (o : FO) (N : Nat) (p0 : o.S) : afun (c24 o N) Try.f24.results.toList b24 [.f32 p0] [] = f24 o N p0 := by kernel_rfl
theorem cok24 (N : Nat) (hN : 4096 ≤ N) : CtxOk Try.prog (c24 ieee N) := by
  refine ctxOk ?_ ?_ mixed ?_
  · intro p hp
    simp only [List.mem_cons, List.not_mem_nil, or_false] at hp
    rcases hp with rfl | rfl | rfl
    · exact tyOk33
    · exact tyOk39
    · exact tyOk41
  · intro p hp
    simp only [List.mem_cons, List.not_mem_nil, or_false] at hp
    rcases hp with rfl | rfl | rfl | rfl | rfl
    · exact ok54 N hN
    · exact ok57 N hN
    · exact ok59 N hN
    · exact ok64 N hN
    · exact ok65 N hN
  · intro p hp
    simp only [List.mem_cons, List.not_mem_nil, or_false] at hp
    rcases hp with rfl | rfl
    · exact loopD_ok _ _ _ (f24_DE0 ieee)
    · exact loopD_ok _ _ _ (f24_DE1 ieee)
noncomputable def k24 (o : FO) : R o → Bool := fun r => match r with | some (.tup [.agg _, .int .i64 _], _) => true | _ => false
theorem k24_c (o : FO) (b : Bool) (x y : R o) : k24 o (bif b then x else y) = bif b then k24 o x else k24 o y := by cases b <;> rfl
noncomputable def m24_ok (o : FO) (p0 : o.S) : Bool := k24 o (f24 o 4096 p0)
noncomputable def g24_0 (o : FO) : R o → List (AV o) := fun r => match r with | some (.tup [.agg r0, .int .i64 _], _) => r0 | _ => []
theorem g24_0c (o : FO) (b : Bool) (x y : R o) : g24_0 o (bif b then x else y) = bif b then g24_0 o x else g24_0 o y := by cases b <;> rfl
noncomputable def m24_0 (o : FO) (p0 : o.S) : List (AV o) := g24_0 o (f24 o 4096 p0)
noncomputable def g24_1 (o : FO) : R o → Int := fun r => match r with | some (.tup [.agg _, .int .i64 r1], _) => r1 | _ => 0
theorem g24_1c (o : FO) (b : Bool) (x y : R o) : g24_1 o (bif b then x else y) = bif b then g24_1 o x else g24_1 o y := by cases b <;> rfl
noncomputable def m24_1 (o : FO) (p0 : o.S) : Int := g24_1 o (f24 o 4096 p0)
noncomputable def m24_h (o : FO) (p0 : o.S) : Heap o := match f24 o 4096 p0 with | some (_, h) => h | _ => []
theorem val24 (o : FO) (p0 : o.S) (h : m24_ok o p0 = true) : f24 o 4096 p0 = some (.tup [.agg (m24_0 o p0), .int .i64 (m24_1 o p0)], m24_h o p0) := by
  unfold m24_ok k24 at h
  unfold m24_0 g24_0 m24_1 g24_1 m24_h
  generalize f24 o 4096 p0 = r at h ⊢
  split at h
  · rfl
  · cases h

noncomputable def e24 (o : FO) : List (AV o) → Tr (AV o)
  | [.f32 p0] => .br (m24_ok o p0) (.leaf (.tup [.agg (m24_0 o p0), .int .i64 (m24_1 o p0)])) .fail
  | _ => .fail
theorem ok24 (N : Nat) (hN : 4096 ≤ N) : CalOk Try.prog 24 (.pure (e24 ieee)) := by
  refine calOk_pure (cok24 4096 (by decide)) (is24 4096) ?_
  intro args av hg
  unfold e24 at hg
  split at hg
  · obtain ⟨h0, hg⟩ := br_get hg
    cases hg
    exact ⟨rfl, rfl, _, (eq24 ieee 4096 _).trans (val24 ieee _ h0)⟩
  · cases hg

/-! loop.example/g01224/impl.mass -/
noncomputable def f62 (o : FO) (p0 : Int) : R o :=
  gd (decide (0 ≤ p0)) (
  some (.f32 (o.sofi (IntKind.wrap .i64 ((1 : Int) * 2 ^ (min (p0).toNat (IntKind.bits .i64))))), []))
noncomputable def c62 (o : FO) (N : Nat) : Cx o :=
  { ty := tab [(2, ty2 o), (33, ty33 o)]
    fn := tab []
    rounds := 4096, nt := 6, base := 0
    loops := [] }
noncomputable def b62 : Code := match Try.f62.body with | some b => b | none => .skip
theorem is62 (N : Nat) : FnIs Try.prog (c62 ieee N) 62 Try.f62 b62 := ⟨by kernel_rfl, by kernel_rfl, by kernel_rfl, by kernel_rfl⟩
theorem eq62 (o : FO) (N : Nat) (p0 : Int) : afun (c62 o N) Try.f62.results.toList b62 [.int .i64 p0] [] = f62 o p0 := by kernel_rfl
theorem cok62 (N : Nat) (hN : 4096 ≤ N) : CtxOk Try.prog (c62 ieee N) := by
  refine ctxOk ?_ ?_ mixed ?_
  · intro p hp
    simp only [List.mem_cons, List.not_mem_nil, or_false] at hp
    rcases hp with rfl | rfl
    · exact tyOk2
    · exact tyOk33
  · intro p hp; cases hp
  · intro p hp; cases hp
noncomputable def m62_ok (o : FO) (p0 : Int) : Bool :=
  bif decide (0 ≤ p0) then
    true
  else
    false
noncomputable def m62_0 (o : FO) (p0 : Int) : o.S :=
  o.sofi (IntKind.wrap .i64 ((1 : Int) * 2 ^ (min (p0).toNat (IntKind.bits .i64))))
theorem val62 (o : FO) (p0 : Int) (h : m62_ok o p0 = true) : f62 o p0 = some (.f32 (m62_0 o p0), []) := by
  revert h
  unfold m62_ok f62 m62_0
  try dsimp only
  cases (decide (0 ≤ p0))
  · intro h; exact absurd h Bool.false_ne_true
  · intro _; rfl

noncomputable def e62 (o : FO) : List (AV o) → Tr (AV o)
  | [.int .i64 p0] => .br (m62_ok o p0) (.leaf (.f32 (m62_0 o p0))) .fail
  | _ => .fail
theorem ok62 (N : Nat) (hN : 4096 ≤ N) : CalOk Try.prog 62 (.pure (e62 ieee)) := by
  refine calOk_pure (cok62 4096 (by decide)) (is62 4096) ?_
  intro args av hg
  unfold e62 at hg
  split at hg
  · obtain ⟨h0, hg⟩ := br_get hg
    cases hg
    exact ⟨rfl, rfl, _, (eq62 ieee 4096 _).trans (val62 ieee _ h0)⟩
  · cases hg

/-! loop.example/g01224/impl.thirdRoot -/
noncomputable def f92_L2 (o : FO) (N : Nat) (s0 : (o.D × o.D × o.D) → R o) (s1 : (o.D × o.D × o.D) → R o) (s2 : o.D × o.D × o.D × Int → R o) (a : o.D × o.D × o.D × Int) : R o :=
  bif decide (a.2.2.2 < (6 : Int)) then
    s2 (a.1, a.2.1, o.dsub a.2.2.1 (o.ddiv (o.dsub (o.dmul (o.dmul a.2.2.1 a.2.2.1) a.2.2.1) a.1) (o.dmul (o.dmul (o.dlit 4613937818241073152) a.2.2.1) a.2.2.1)), IntKind.wrap .i64 (a.2.2.2 + (1 : Int)))
  else
    gd (o.d2sOk (o.dmul a.2.2.1 a.2.1)) (
    some (.f32 (o.d2s (o.dmul a.2.2.1 a.2.1)), []))
noncomputable def f92_D2 (o : FO) (vs : List (AV o)) (h : Heap o) : Option (o.D × o.D × o.D × Int) :=
  match vs, h with
  | [.f64 a2_0, .f64 a2_1, .f64 a2_2, .int .i64 a2_3], [] => some (a2_0, a2_1, a2_2, a2_3)
  | _, _ => none
noncomputable def f92_E2 (o : FO) (a : o.D × o.D × o.D × Int) : List (AV o) × Heap o := ([.f64 a.1, .f64 a.2.1, .f64 a.2.2.1, .int .i64 a.2.2.2], [])
theorem f92_DE2 (o : FO) : ∀ vs h a, f92_D2 o vs h = some a → f92_E2 o a = (vs, h) := by
  intro vs h a hx
  unfold f92_D2 at hx
  split at hx
  · cases hx; rfl
  · cases hx
noncomputable def f92_L1 (o : FO) (N : Nat) (s0 : (o.D × o.D × o.D) → R o) (s1 : o.D × o.D × o.D → R o) (a : o.D × o.D × o.D) : R o :=
  bif o.dlt a.1 (o.dlit 4607182418800017408) then
    s1 (o.dmul a.1 (o.dlit 4620693217682128896), o.ddiv a.2.1 (o.dlit 4611686018427387904), a.2.2)
  else
    iter (f92_L2 o N s0 s1) N (a.1, a.2.1, a.2.2, (0 : Int))
noncomputable def f92_D1 (o : FO) (vs : List (AV o)) (h : Heap o) : Option (o.D × o.D × o.D) :=
  match vs, h with
  | [.f64 a1_0, .f64 a1_1, .f64 a1_2], [] => some (a1_0, a1_1, a1_2)
  | _, _ => none
noncomputable def f92_E1 (o : FO) (a : o.D × o.D × o.D) : List (AV o) × Heap o := ([.f64 a.1, .f64 a.2.1, .f64 a.2.2], [])
theorem f92_DE1 (o : FO) : ∀ vs h a, f92_D1 o vs h = some a → f92_E1 o a = (vs, h) := by
  intro vs h a hx
  unfold f92_D1 at hx
  split at hx
  · cases hx; rfl
  · cases hx
noncomputable def f92_L0 (o : FO) (N : Nat) (s0 : o.D × o.D × o.D → R o) (a : o.D × o.D × o.D) : R o :=
  bif o.dle (o.dlit 4620693217682128896) a.1 then
    s0 (o.ddiv a.1 (o.dlit 4620693217682128896), o.dmul a.2.1 (o.dlit 4611686018427387904), a.2.2)
  else
    iter (f92_L1 o N s0) N (a.1, a.2.1, a.2.2)
noncomputable def f92_D0 (o : FO) (vs : List (AV o)) (h : Heap o) : Option (o.D × o.D × o.D) :=
  match vs, h with
  | [.f64 a0_0, .f64 a0_1, .f64 a0_2], [] => some (a0_0, a0_1, a0_2)
  | _, _ => none
noncomputable def f92_E0 (o : FO) (a : o.D × o.D × o.D) : List (AV o) × Heap o := ([.f64 a.1, .f64 a.2.1, .f64 a.2.2], [])
theorem f92_DE0 (o : FO) : ∀ vs h a, f92_D0 o vs h = some a → f92_E0 o a = (vs, h) := by
  intro vs h a hx
  unfold f92_D0 at hx
  split at hx
  · cases hx; rfl
  · cases hx
noncomputable def f92 (o : FO) (N : Nat) (p0 : o.S) : R o :=
  bif o.seq p0 (o.slit 0) then
    some (.f32 (o.slit 0), [])
  else
    iter (f92_L0 o N) N (o.s2d p0, (o.dlit 4607182418800017408), (o.dlit 4609434218613702656))
noncomputable def c92 (o : FO) (N : Nat) : Cx o :=
  { ty := tab [(33, ty33 o), (37, ty37 o)]
    fn := tab []
    rounds := N, nt := 47, base := 0
    loops := [loopD [3, 4, 5] (f92_D0 o) (f92_E0 o), loopD [3, 4, 5] (f92_D1 o) (f92_E1 o), loopD [3, 4, 5, 24] (f92_D2 o) (f92_E2 o)] }
noncomputable def b92 : Code := match Try.f92.body with | some b => b | none => .skip
theorem is92 (N : Nat) : FnIs Try.prog (c92 ieee N) 92 Try.f92 b92 := ⟨by kernel_rfl, by kernel_rfl, by kernel_rfl, by kernel_rfl⟩
theorem eq92 (o : FO) (N : Nat) (p0 : o.S) : afun (c92 o N) Try.f92.results.toList b92 [.f32 p0] [] = f92 o N p0 := by kernel_rfl
theorem cok92 (N : Nat) (hN : 4096 ≤ N) : CtxOk Try.prog (c92 ieee N) := by
  refine ctxOk ?_ ?_ mixed ?_
  · intro p hp
    simp only [List.mem_cons, List.not_mem_nil, or_false] at hp
    rcases hp with rfl | rfl
    · exact tyOk33
    · exact tyOk37
  · intro p hp; cases hp
  · intro p hp
    simp only [List.mem_cons, List.not_mem_nil, or_false] at hp
    rcases hp with rfl | rfl | rfl
    · exact loopD_ok _ _ _ (f92_DE0 ieee)
    · exact loopD_ok _ _ _ (f92_DE1 ieee)
    · exact loopD_ok _ _ _ (f92_DE2 ieee)
noncomputable def k92 (o : FO) : R o → Bool := fun r => match r with | some (.f32 _, _) => true | _ => false
theorem k92_c (o : FO) (b : Bool) (x y : R o) : k92 o (bif b then x else y) = bif b then k92 o x else k92 o y := by cases b <;> rfl
noncomputable def m92_ok (o : FO) (p0 : o.S) : Bool := k92 o (f92 o 4096 p0)
noncomputable def g92_0 (o : FO) : R o → o.S := fun r => match r with | some (.f32 r0, _) => r0 | _ => (o.slit 0)
theorem g92_0c (o : FO) (b : Bool) (x y : R o) : g92_0 o (bif b then x else y) = bif b then g92_0 o x else g92_0 o y := by cases b <;> rfl
noncomputable def m92_0 (o : FO) (p0 : o.S) : o.S := g92_0 o (f92 o 4096 p0)
noncomputable def m92_h (o : FO) (p0 : o.S) : Heap o := match f92 o 4096 p0 with | some (_, h) => h | _ => []
theorem val92 (o : FO) (p0 : o.S) (h : m92_ok o p0 = true) : f92 o 4096 p0 = some (.f32 (m92_0 o p0), m92_h o p0) := by
  unfold m92_ok k92 at h
  unfold m92_0 g92_0 m92_h
  generalize f92 o 4096 p0 = r at h ⊢
  split at h
  · rfl
  · cases h

noncomputable def e92 (o : FO) : List (AV o) → Tr (AV o)
  | [.f32 p0] => .br (m92_ok o p0) (.leaf (.f32 (m92_0 o p0))) .fail
  | _ => .fail
theorem ok92 (N : Nat) (hN : 4096 ≤ N) : CalOk Try.prog 92 (.pure (e92 ieee)) := by
  refine calOk_pure (cok92 4096 (by decide)) (is92 4096) ?_
  intro args av hg
  unfold e92 at hg
  split at hg
  · obtain ⟨h0, hg⟩ := br_get hg
    cases hg
    exact ⟨rfl, rfl, _, (eq92 ieee 4096 _).trans (val92 ieee _ h0)⟩
  · cases hg

/-! loop.example/g01224/impl.radius -/
noncomputable def f66 (o : FO) (p0 : Int) : R o :=
  gd (m62_ok o p0) (
  gd (m92_ok o (m62_0 o p0)) (
  some (.f32 (m92_0 o (m62_0 o p0)), [])))
noncomputable def c66 (o : FO) (N : Nat) : Cx o :=
  { ty := tab []
    fn := tab [(62, .pure (e62 o)), (92, .pure (e92 o))]
    rounds := 4096, nt := 6, base := 0
    loops := [] }
noncomputable def b66 : Code := match Try.f66.body with | some b => b | none => .skip
theorem is66 (N : Nat) : FnIs Try.prog (c66 ieee N) 66 Try.f66 b66 := ⟨by kernel_rfl, by kernel_rfl, by kernel_rfl, by kernel_rfl⟩
theorem eq66 (o : FO) (N : Nat) (p0 : Int) : afun (c66 o N) Try.f66.results.toList b66 [.int .i64 p0] [] = f66 o p0 := by kernel_rfl
theorem cok66 (N : Nat) (hN : 4096 ≤ N) : CtxOk Try.prog (c66 ieee N) := by
  refine ctxOk ?_ ?_ mixed ?_
  · intro p hp; cases hp
  · intro p hp
    simp only [List.mem_cons, List.not_mem_nil, or_false] at hp
    rcases hp with rfl | rfl
    · exact ok62 N hN
    · exact ok92 N hN
  · intro p hp; cases hp
noncomputable def m66_ok (o : FO) (p0 : Int) : Bool :=
  bif m62_ok o p0 then
    bif m92_ok o (m62_0 o p0) then
      true
    else
      false
  else
    false
noncomputable def m66_0 (o : FO) (p0 : Int) : o.S :=
  m92_0 o (m62_0 o p0)
theorem val66 (o : FO) (p0 : Int) (h : m66_ok o p0 = true) : f66 o p0 = some (.f32 (m66_0 o p0), []) := by
  revert h
  unfold m66_ok f66 m66_0
  try dsimp only
  cases (m62_ok o p0)
  · intro h; exact absurd h Bool.false_ne_true
  · cases (m92_ok o (m62_0 o p0))
    · intro h; exact absurd h Bool.false_ne_true
    · intro _; rfl

noncomputable def e66 (o : FO) : List (AV o) → Tr (AV o)
  | [.int .i64 p0] => .br (m66_ok o p0) (.leaf (.f32 (m66_0 o p0))) .fail
  | _ => .fail
theorem ok66 (N : Nat) (hN : 4096 ≤ N) : CalOk Try.prog 66 (.pure (e66 ieee)) := by
  refine calOk_pure (cok66 4096 (by decide)) (is66 4096) ?_
  intro args av hg
  unfold e66 at hg
  split at hg
  · obtain ⟨h0, hg⟩ := br_get hg
    cases hg
    exact ⟨rfl, rfl, _, (eq66 ieee 4096 _).trans (val66 ieee _ h0)⟩
  · cases hg

/-! loop.example/g01224/impl.fall -/
noncomputable def f56 (o : FO) (p0 : Int) : R o :=
  gd (m66_ok o p0) (
  some (.f32 (o.sdiv (o.smul (m66_0 o p0) (m66_0 o p0)) (o.sadd (o.slit 1065353216) (o.smul (o.slit 1056964608) (m66_0 o p0)))), []))
noncomputable def c56 (o : FO) (N : Nat) : Cx o :=
  { ty := tab []
    fn := tab [(66, .pure (e66 o))]
    rounds := 4096, nt := 13, base := 0
    loops := [] }
noncomputable def b56 : Code := match Try.f56.body with | some b => b | none => .skip
theorem is56 (N : Nat) : FnIs Try.prog (c56 ieee N) 56 Try.f56 b56 := ⟨by kernel_rfl, by kernel_rfl, by kernel_rfl, by kernel_rfl⟩
theorem eq56 (o : FO) (N : Nat) (p0 : Int) : afun (c56 o N) Try.f56.results.toList b56 [.int .i64 p0] [] = f56 o p0 := by kernel_rfl
theorem cok56 (N : Nat) (hN : 4096 ≤ N) : CtxOk Try.prog (c56 ieee N) := by
  refine ctxOk ?_ ?_ mixed ?_
  · intro p hp; cases hp
  · intro p hp
    simp only [List.mem_cons, List.not_mem_nil, or_false] at hp
    subst hp; exact ok66 N hN
  · intro p hp; cases hp
noncomputable def m56_ok (o : FO) (p0 : Int) : Bool :=
  bif m66_ok o p0 then
    true
  else
    false
noncomputable def m56_0 (o : FO) (p0 : Int) : o.S :=
  o.sdiv (o.smul (m66_0 o p0) (m66_0 o p0)) (o.sadd (o.slit 1065353216) (o.smul (o.slit 1056964608) (m66_0 o p0)))
theorem val56 (o : FO) (p0 : Int) (h : m56_ok o p0 = true) : f56 o p0 = some (.f32 (m56_0 o p0), []) := by
  revert h
  unfold m56_ok f56 m56_0
  try dsimp only
  cases (m66_ok o p0)
  · intro h; exact absurd h Bool.false_ne_true
  · intro _; rfl

noncomputable def e56 (o : FO) : List (AV o) → Tr (AV o)
  | [.int .i64 p0] => .br (m56_ok o p0) (.leaf (.f32 (m56_0 o p0))) .fail
  | _ => .fail
theorem ok56 (N : Nat) (hN : 4096 ≤ N) : CalOk Try.prog 56 (.pure (e56 ieee)) := by
  refine calOk_pure (cok56 4096 (by decide)) (is56 4096) ?_
  intro args av hg
  unfold e56 at hg
  split at hg
  · obtain ⟨h0, hg⟩ := br_get hg
    cases hg
    exact ⟨rfl, rfl, _, (eq56 ieee 4096 _).trans (val56 ieee _ h0)⟩
  · cases hg

/-! loop.example/g01224/impl.isFinite -/
noncomputable def f94_L0 (o : FO) (N : Nat) (s0 : Nat × Nat × Int × Int × List (AV o) → R o) (a : Nat × Nat × Int × Int × List (AV o)) : R o :=
  bif decide (a.2.2.2.1 < a.2.2.1) then
    gd (decide (0 ≤ a.2.2.2.1) && decide (a.2.2.2.1 < ((a.2.1 : Nat) : Int))) (
    rdS a.2.2.2.2 (a.1 + (((a.2.2.2.1).toNat) * 1)) fun x1 =>
    bif !(o.seq (o.ssub x1 x1) (o.slit 0)) then
      some (.bool false, [.live false true a.2.2.2.2])
    else
      s0 (a.1, a.2.1, a.2.2.1, IntKind.wrap .i64 (a.2.2.2.1 + (1 : Int)), a.2.2.2.2))
  else
    some (.bool true, [.live false true a.2.2.2.2])
noncomputable def f94_D0 (o : FO) (vs : List (AV o)) (h : Heap o) : Option (Nat × Nat × Int × Int × List (AV o)) :=
  match vs, h with
  | [.slice 0 a0_0 a0_1 1, .int .i64 a0_2, .int .i64 a0_3], [.live false true a0_4] => some (a0_0, a0_1, a0_2, a0_3, a0_4)
  | _, _ => none
noncomputable def f94_E0 (o : FO) (a : Nat × Nat × Int × Int × List (AV o)) : List (AV o) × Heap o := ([.slice 0 a.1 a.2.1 1, .int .i64 a.2.2.1, .int .i64 a.2.2.2.1], [.live false true a.2.2.2.2])
theorem f94_DE0 (o : FO) : ∀ vs h a, f94_D0 o vs h = some a → f94_E0 o a = (vs, h) := by
  intro vs h a hx
  unfold f94_D0 at hx
  split at hx
  · cases hx; rfl
  · cases hx
noncomputable def f94 (o : FO) (N : Nat) (p0 : Nat) (p1 : Nat) (p2 : List (AV o)) : R o :=
  iter (f94_L0 o N) N (p0, p1, ((p1 : Nat) : Int), (0 : Int), p2)
noncomputable def c94 (o : FO) (N : Nat) : Cx o :=
  { ty := tab [(33, ty33 o), (112, ty112 o)]
    fn := tab []
    rounds := N, nt := 16, base := 1
    loops := [loopD [5, 6, 7] (f94_D0 o) (f94_E0 o)] }
noncomputable def b94 : Code := match Try.f94.body with | some b => b | none => .skip
theorem is94 (N : Nat) : FnIs Try.prog (c94 ieee N) 94 Try.f94 b94 := ⟨by kernel_rfl, by kernel_rfl, by kernel_rfl, by kernel_rfl⟩
theorem eq94 (o : FO) (N : Nat) (p0 : Nat) (p1 : Nat) (p2 : List (AV o)) : afun (c94 o N) Try.f94.results.toList b94 [.slice 0 p0 p1 1] [.live false true p2] = f94 o N p0 p1 p2 := by kernel_rfl
theorem cok94 (N : Nat) (hN : 4096 ≤ N) : CtxOk Try.prog (c94 ieee N) := by
  refine ctxOk ?_ ?_ mixed ?_
  · intro p hp
    simp only [List.mem_cons, List.not_mem_nil, or_false] at hp
    rcases hp with rfl | rfl
    · exact tyOk33
    · exact tyOk112
  · intro p hp; cases hp
  · intro p hp
    simp only [List.mem_cons, List.not_mem_nil, or_false] at hp
    subst hp; exact loopD_ok _ _ _ (f94_DE0 ieee)


theorem step94 (o : FO) (off n i : Nat) (cs : List (AV o)) (h : segF cs off n = true) (hi : i ≤ n) (s0 : Nat × Nat × Int × Int × List (AV o) → R o) :
    (∃ x, ((cs.drop off).take n)[i]? = some (.f32 x) ∧ f94_L0 o 4096 s0 (off, n, ((n : Nat) : Int), (i : Int), cs) = bif finS o x then s0 (off, n, ((n : Nat) : Int), ((i + 1 : Nat) : Int), cs) else some (.bool false, [.live false true cs])) ∨
    (i = n ∧ f94_L0 o 4096 s0 (off, n, ((n : Nat) : Int), (i : Int), cs) = some (.bool true, [.live false true cs])) := by
  have hn : n ≤ 4000 := by
    unfold segF at h
    simp only [Bool.and_eq_true] at h
    exact Nat.le_of_ble_eq_true h.1
  unfold f94_L0
  dsimp only
  by_cases hlt : i < n
  · obtain ⟨x, hx1, hx2⟩ := segF_get h hlt
    refine .inl ⟨x, hx2, ?_⟩
    have e1 : decide ((i : Int) < (n : Int)) = true := by simp [hlt]
    have e2 : decide (0 ≤ (i : Int)) = true := by simp
    rw [e1, e2, cond_true, Bool.and_true, gd_true, rdS_of (x := x) (by simpa using hx1), wrap64 (by omega) (by omega)]
    show _ = bif o.seq (o.ssub x x) (o.slit 0) then _ else _
    cases o.seq (o.ssub x x) (o.slit 0) <;> rfl
  · have e1 : decide ((i : Int) < (n : Int)) = false := by simp [hlt]
    refine .inr ⟨by omega, ?_⟩
    rw [e1, cond_false]
theorem loop94 (o : FO) (off n : Nat) (cs : List (AV o)) (h : segF cs off n = true) : ∀ (M i : Nat), i ≤ n → n - i < M →
    iter (f94_L0 o 4096) M (off, n, ((n : Nat) : Int), (i : Int), cs) = some (.bool ((((cs.drop off).take n).drop i).all finC), [.live false true cs]) := by
  intro M
  induction M with
  | zero => intro i _ h2; omega
  | succ M ih =>
    intro i h1 h2
    rw [iter_succ]
    rcases step94 o off n i cs h h1 (iter (f94_L0 o 4096) M) with ⟨x, hx, e⟩ | ⟨hi, e⟩
    · obtain ⟨hlt, he⟩ := List.getElem?_eq_some_iff.1 hx
      have hin : i < n := by have := hlt; simp only [List.length_take] at this; omega
      rw [e, ih (i + 1) (by omega) (by omega), List.drop_eq_getElem_cons hlt, he, List.all_cons]
      show _ = some ((AV.bool (finS o x && _) : AV o), _)
      cases finS o x <;> rfl
    · subst hi
      have hnil : ((cs.drop off).take i).drop i = [] := List.drop_eq_nil_of_le (by simp; omega)
      rw [e, hnil]
      rfl
theorem val94 (o : FO) (p0 p1 : Nat) (p2 : List (AV o)) (h : segF p2 p0 p1 = true) : f94 o 4096 p0 p1 p2 = some (.bool (finSeg p2 p0 p1), [.live false true p2]) := by
  have hn : p1 ≤ 4000 := by
    unfold segF at h
    simp only [Bool.and_eq_true] at h
    exact Nat.le_of_ble_eq_true h.1
  have := loop94 o p0 p1 p2 h 4096 0 (by omega) (by omega)
  rw [List.drop_zero] at this
  exact this

noncomputable def e94 (o : FO) : List (AV o) → Heap o → Tr (AV o)
  | [.slice 0 p0 p1 1], [.live _ true p2] => .br (segF p2 p0 p1) (.leaf (.bool (finSeg p2 p0 p1))) .fail
  | _, _ => .fail
theorem ok94 (N : Nat) (hN : 4096 ≤ N) : CalOk Try.prog 94 (.ro (e94 ieee)) := by
  refine calOk_ro (cok94 4096 (by decide)) (is94 4096) ?_
  intro args h av hg
  unfold e94 at hg
  split at hg
  · obtain ⟨h0, hg⟩ := br_get hg
    cases hg
    exact ⟨rfl, _, (eq94 ieee 4096 _ _ _).trans (val94 ieee _ _ _ h0)⟩
  · cases hg

/-! loop.example/g01224/impl.isAmount -/
noncomputable def f72 (o : FO) (p0 : o.S) : R o :=
  gd (segF [.f32 p0] 0 1) (
  bif finSeg [.f32 p0] 0 1 then
    bif o.sle (o.slit 0) p0 then
      gd (o.seq p0 p0) (
      bif (o.sbits p0) != (2147483648 : Int) then
        some (.bool true, [])
      else
        some (.bool false, []))
    else
      some (.bool false, [])
  else
    some (.bool false, []))
noncomputable def c72 (o : FO) (N : Nat) : Cx o :=
  { ty := tab [(33, ty33 o), (112, ty112 o)]
    fn := tab [(89, .pure (e89 o)), (94, .ro (e94 o))]
    rounds := 4096, nt := 15, base := 0
    loops := [] }
noncomputable def b72 : Code := match Try.f72.body with | some b => b | none => .skip
theorem is72 (N : Nat) : FnIs Try.prog (c72 ieee N) 72 Try.f72 b72 := ⟨by kernel_rfl, by kernel_rfl, by kernel_rfl, by kernel_rfl⟩
theorem eq72 (o : FO) (N : Nat) (p0 : o.S) : afun (c72 o N) Try.f72.results.toList b72 [.f32 p0] [] = f72 o p0 := by kernel_rfl
theorem cok72 (N : Nat) (hN : 4096 ≤ N) : CtxOk Try.prog (c72 ieee N) := by
  refine ctxOk ?_ ?_ mixed ?_
  · intro p hp
    simp only [List.mem_cons, List.not_mem_nil, or_false] at hp
    rcases hp with rfl | rfl
    · exact tyOk33
    · exact tyOk112
  · intro p hp
    simp only [List.mem_cons, List.not_mem_nil, or_false] at hp
    rcases hp with rfl | rfl
    · exact ok89 N hN
    · exact ok94 N hN
  · intro p hp; cases hp


theorem val72 (p0 : ieee.S) : f72 ieee p0 = some (.bool (amtS ieee p0), []) := by
  have e : f72 ieee p0 = (bif (finS ieee p0 && true) then (bif ieee.sle (ieee.slit 0) p0 then gd (ieee.seq p0 p0) (bif ieee.sbits p0 != 2147483648 then some (.bool true, []) else some (.bool false, [])) else some (.bool false, [])) else some (.bool false, [])) := rfl
  rw [e, Bool.and_true, amtS_alt]
  have h := seq_of_fin p0
  revert h
  cases finS ieee p0
  · intro _; rfl
  · intro h
    rw [h rfl]
    cases ieee.sle (ieee.slit 0) p0
    · rfl
    · cases (ieee.sbits p0 != 2147483648) <;> rfl

noncomputable def e72 (o : FO) : List (AV o) → Tr (AV o)
  | [.f32 p0] => .leaf (.bool (amtS o p0))
  | _ => .fail
theorem ok72 (N : Nat) (hN : 4096 ≤ N) : CalOk Try.prog 72 (.pure (e72 ieee)) := by
  refine calOk_pure (cok72 4096 (by decide)) (is72 4096) ?_
  intro args av hg
  unfold e72 at hg
  split at hg
  · cases hg
    exact ⟨rfl, rfl, _, (eq72 ieee 4096 _).trans (val72 _)⟩
  · cases hg

/-! loop.example/g01224/impl.FallKernel$1 -/
noncomputable def f67 (o : FO) (p0 : Int) (p1 : Int) (p2 : List (AV o)) (p3 : List (AV o)) (p4 : o.S) : R o :=
  gd (decide (0 ≤ p0) && decide (p0 < ((20 : Nat) : Int))) (
  rdS p2 (0 + (((p0).toNat) * 1)) fun x1 =>
  gd (decide (0 ≤ p1) && decide (p1 < ((20 : Nat) : Int))) (
  rdS p2 (0 + (((p1).toNat) * 1)) fun x2 =>
  gd (decide (0 ≤ p0) && decide (p0 < ((20 : Nat) : Int))) (
  rdS p3 (0 + (((p0).toNat) * 1)) fun x3 =>
  gd (decide (0 ≤ p1) && decide (p1 < ((20 : Nat) : Int))) (
  rdS p3 (0 + (((p1).toNat) * 1)) fun x4 =>
  bif o.slt (o.ssub x3 x4) (o.slit 0) then
    some (.f32 (o.smul (o.smul p4 (o.smul (o.sadd x1 x2) (o.sadd x1 x2))) (o.sneg (o.ssub x3 x4))), [.live false true p2, .live false true p3, .live false true [.f32 p4]])
  else
    some (.f32 (o.smul (o.smul p4 (o.smul (o.sadd x1 x2) (o.sadd x1 x2))) (o.ssub x3 x4)), [.live false true p2, .live false true p3, .live false true [.f32 p4]])))))
noncomputable def c67 (o : FO) (N : Nat) : Cx o :=
  { ty := tab [(33, ty33 o), (51, ty51 o)]
    fn := tab []
    rounds := 4096, nt := 35, base := 3
    loops := [] }
noncomputable def b67 : Code := match Try.f67.body with | some b => b | none => .skip
theorem is67 (N : Nat) : FnIs Try.prog (c67 ieee N) 67 Try.f67 b67 := ⟨by kernel_rfl, by kernel_rfl, by kernel_rfl, by kernel_rfl⟩
theorem eq67 (o : FO) (N : Nat) (p0 : Int) (p1 : Int) (p2 : List (AV o)) (p3 : List (AV o)) (p4 : o.S) : afun (c67 o N) Try.f67.results.toList b67 [.int .i64 p0, .int .i64 p1, .ptr 0 0, .ptr 1 0, .ptr 2 0] [.live false true p2, .live false true p3, .live false true [.f32 p4]] = f67 o p0 p1 p2 p3 p4 := by kernel_rfl
theorem cok67 (N : Nat) (hN : 4096 ≤ N) : CtxOk Try.prog (c67 ieee N) := by
  refine ctxOk ?_ ?_ mixed ?_
  · intro p hp
    simp only [List.mem_cons, List.not_mem_nil, or_false] at hp
    rcases hp with rfl | rfl
    · exact tyOk33
    · exact tyOk51
  · intro p hp; cases hp
  · intro p hp; cases hp
noncomputable def k67 (o : FO) : R o → Bool := fun r => match r with | some (.f32 _, _) => true | _ => false
theorem k67_c (o : FO) (b : Bool) (x y : R o) : k67 o (bif b then x else y) = bif b then k67 o x else k67 o y := by cases b <;> rfl
noncomputable def m67_ok (o : FO) (p0 : Int) (p1 : Int) (p2 : List (AV o)) (p3 : List (AV o)) (p4 : o.S) : Bool := k67 o (f67 o p0 p1 p2 p3 p4)
noncomputable def g67_0 (o : FO) : R o → o.S := fun r => match r with | some (.f32 r0, _) => r0 | _ => (o.slit 0)
theorem g67_0c (o : FO) (b : Bool) (x y : R o) : g67_0 o (bif b then x else y) = bif b then g67_0 o x else g67_0 o y := by cases b <;> rfl
noncomputable def m67_0 (o : FO) (p0 : Int) (p1 : Int) (p2 : List (AV o)) (p3 : List (AV o)) (p4 : o.S) : o.S := g67_0 o (f67 o p0 p1 p2 p3 p4)
noncomputable def m67_h (o : FO) (p0 : Int) (p1 : Int) (p2 : List (AV o)) (p3 : List (AV o)) (p4 : o.S) : Heap o := match f67 o p0 p1 p2 p3 p4 with | some (_, h) => h | _ => []
theorem val67 (o : FO) (p0 : Int) (p1 : Int) (p2 : List (AV o)) (p3 : List (AV o)) (p4 : o.S) (h : m67_ok o p0 p1 p2 p3 p4 = true) : f67 o p0 p1 p2 p3 p4 = some (.f32 (m67_0 o p0 p1 p2 p3 p4), m67_h o p0 p1 p2 p3 p4) := by
  unfold m67_ok k67 at h
  unfold m67_0 g67_0 m67_h
  generalize f67 o p0 p1 p2 p3 p4 = r at h ⊢
  split at h
  · rfl
  · cases h

noncomputable def e67 (o : FO) : List (AV o) → Heap o → Tr (AV o)
  | [.int .i64 p0, .int .i64 p1, .ptr 0 0, .ptr 1 0, .ptr 2 0], [.live _ true p2, .live _ true p3, .live _ true [.f32 p4]] => .br (m67_ok o p0 p1 p2 p3 p4) (.leaf (.f32 (m67_0 o p0 p1 p2 p3 p4))) .fail
  | _, _ => .fail
theorem ok67 (N : Nat) (hN : 4096 ≤ N) : CalOk Try.prog 67 (.ro (e67 ieee)) := by
  refine calOk_ro (cok67 4096 (by decide)) (is67 4096) ?_
  intro args h av hg
  unfold e67 at hg
  split at hg
  · obtain ⟨h0, hg⟩ := br_get hg
    cases hg
    exact ⟨rfl, _, (eq67 ieee 4096 _ _ _ _ _).trans (val67 ieee _ _ _ _ _ h0)⟩
  · cases hg

/-! loop.example/g01224/impl.checkedKernel -/
noncomputable def f71_L0 (o : FO) (N : Nat) (s0 : Int × List (AV o) × List (AV o) → R o) (a : Int × List (AV o) × List (AV o)) : R o :=
  bif decide (a.1 < (20 : Int)) then
    gd (decide (0 ≤ a.1) && decide (a.1 < ((20 : Nat) : Int))) (
    gd ((Nat.ble ((0 + (((a.1).toNat) * 20)) + 20) ((a.2.1).length)) && true) (
    gd (segF a.2.1 ((0 + (((a.1).toNat) * 20)) + 0) 20) (
    bif !(finSeg a.2.1 ((0 + (((a.1).toNat) * 20)) + 0) 20) then
      wrA a.2.2 0 400 (List.replicate 400 (.f32 (o.slit 0))) fun c1 =>
      rdA c1 0 400 fun c2 =>
      some (.tup [.agg c2, .int .i64 (4 : Int)], [])
    else
      s0 (IntKind.wrap .i64 (a.1 + (1 : Int)), a.2.1, a.2.2))))
  else
    rdA a.2.1 0 400 fun c3 =>
    wrA a.2.2 0 400 c3 fun c4 =>
    rdA c4 0 400 fun c5 =>
    some (.tup [.agg c5, .int .i64 (0 : Int)], [])
noncomputable def f71_D0 (o : FO) (vs : List (AV o)) (h : Heap o) : Option (Int × List (AV o) × List (AV o)) :=
  match vs, h with
  | [.ptr 0 0, .ptr 1 0, .int .i64 a0_0], [.live true true a0_1, .live true true a0_2] => some (a0_0, a0_1, a0_2)
  | _, _ => none
noncomputable def f71_E0 (o : FO) (a : Int × List (AV o) × List (AV o)) : List (AV o) × Heap o := ([.ptr 0 0, .ptr 1 0, .int .i64 a.1], [.live true true a.2.1, .live true true a.2.2])
theorem f71_DE0 (o : FO) : ∀ vs h a, f71_D0 o vs h = some a → f71_E0 o a = (vs, h) := by
  intro vs h a hx
  unfold f71_D0 at hx
  split at hx
  · cases hx; rfl
  · cases hx
noncomputable def f71 (o : FO) (N : Nat) (p0 : List (AV o)) : R o :=
  iter (f71_L0 o N) N ((0 : Int), p0, List.replicate 400 (.f32 (o.slit 0)))
noncomputable def c71 (o : FO) (N : Nat) : Cx o :=
  { ty := tab [(33, ty33 o), (39, ty39 o), (41, ty41 o)]
    fn := tab [(94, .ro (e94 o))]
    rounds := N, nt := 16, base := 0
    loops := [loopD [1, 2, 5] (f71_D0 o) (f71_E0 o)] }
noncomputable def b71 : Code := match Try.f71.body with | some b => b | none => .skip
theorem is71 (N : Nat) : FnIs Try.prog (c71 ieee N) 71 Try.f71 b71 := ⟨by kernel_rfl, by kernel_rfl, by kernel_rfl, by kernel_rfl⟩
theorem eq71 (o : FO) (N : Nat) (p0 : List (AV o)) : afun (c71 o N) Try.f71.results.toList b71 [.agg p0] [] = f71 o N p0 := by kernel_rfl
theorem cok71 (N : Nat) (hN : 4096 ≤ N) : CtxOk Try.prog (c71 ieee N) := by
  refine ctxOk ?_ ?_ mixed ?_
  · intro p hp
    simp only [List.mem_cons, List.not_mem_nil, or_false] at hp
    rcases hp with rfl | rfl | rfl
    · exact tyOk33
    · exact tyOk39
    · exact tyOk41
  · intro p hp
    simp only [List.mem_cons, List.not_mem_nil, or_false] at hp
    subst hp; exact ok94 N hN
  · intro p hp
    simp only [List.mem_cons, List.not_mem_nil, or_false] at hp
    subst hp; exact loopD_ok _ _ _ (f71_DE0 ieee)
noncomputable def k71 (o : FO) : R o → Bool := fun r => match r with | some (.tup [.agg _, .int .i64 _], _) => true | _ => false
theorem k71_c (o : FO) (b : Bool) (x y : R o) : k71 o (bif b then x else y) = bif b then k71 o x else k71 o y := by cases b <;> rfl
noncomputable def m71_ok (o : FO) (p0 : List (AV o)) : Bool := k71 o (f71 o 4096 p0)
noncomputable def g71_0 (o : FO) : R o → List (AV o) := fun r => match r with | some (.tup [.agg r0, .int .i64 _], _) => r0 | _ => []
theorem g71_0c (o : FO) (b : Bool) (x y : R o) : g71_0 o (bif b then x else y) = bif b then g71_0 o x else g71_0 o y := by cases b <;> rfl
noncomputable def m71_0 (o : FO) (p0 : List (AV o)) : List (AV o) := g71_0 o (f71 o 4096 p0)
noncomputable def g71_1 (o : FO) : R o → Int := fun r => match r with | some (.tup [.agg _, .int .i64 r1], _) => r1 | _ => 0
theorem g71_1c (o : FO) (b : Bool) (x y : R o) : g71_1 o (bif b then x else y) = bif b then g71_1 o x else g71_1 o y := by cases b <;> rfl
noncomputable def m71_1 (o : FO) (p0 : List (AV o)) : Int := g71_1 o (f71 o 4096 p0)
noncomputable def m71_h (o : FO) (p0 : List (AV o)) : Heap o := match f71 o 4096 p0 with | some (_, h) => h | _ => []
theorem val71 (o : FO) (p0 : List (AV o)) (h : m71_ok o p0 = true) : f71 o 4096 p0 = some (.tup [.agg (m71_0 o p0), .int .i64 (m71_1 o p0)], m71_h o p0) := by
  unfold m71_ok k71 at h
  unfold m71_0 g71_0 m71_1 g71_1 m71_h
  generalize f71 o 4096 p0 = r at h ⊢
  split at h
  · rfl
  · cases h

noncomputable def e71 (o : FO) : List (AV o) → Tr (AV o)
  | [.agg p0] => .br (m71_ok o p0) (.leaf (.tup [.agg (m71_0 o p0), .int .i64 (m71_1 o p0)])) .fail
  | _ => .fail
theorem ok71 (N : Nat) (hN : 4096 ≤ N) : CalOk Try.prog 71 (.pure (e71 ieee)) := by
  refine calOk_pure (cok71 4096 (by decide)) (is71 4096) ?_
  intro args av hg
  unfold e71 at hg
  split at hg
  · obtain ⟨h0, hg⟩ := br_get hg
    cases hg
    exact ⟨rfl, rfl, _, (eq71 ieee 4096 _).trans (val71 ieee _ h0)⟩
  · cases hg

/-! loop.example/g01224/impl.kernelOf -/
noncomputable def f60_L1 (o : FO) (N : Nat) (s0 : (Int × List (AV o) × List (AV o) × o.S × List (AV o) × List (AV o)) → R o) (s1 : Int × Int × Int × List (AV o) × List (AV o) × o.S × List (AV o) × List (AV o) → R o) (a : Int × Int × Int × List (AV o) × List (AV o) × o.S × List (AV o) × List (AV o)) : R o :=
  bif decide (a.2.2.1 < (20 : Int)) then
    gd (m67_ok o a.1 a.2.2.1 a.2.2.2.1 a.2.2.2.2.1 a.2.2.2.2.2.1) (
    gd (decide (0 ≤ a.1) && decide (a.1 < ((20 : Nat) : Int))) (
    gd (decide (0 ≤ a.2.2.1) && decide (a.2.2.1 < ((20 : Nat) : Int))) (
    wr1 a.2.2.2.2.2.2.2 ((0 + (((a.1).toNat) * 20)) + (((a.2.2.1).toNat) * 1)) (.f32 (m67_0 o a.1 a.2.2.1 a.2.2.2.1 a.2.2.2.2.1 a.2.2.2.2.2.1)) fun c4 =>
    s1 (a.1, a.2.1, IntKind.wrap .i64 (a.2.2.1 + (1 : Int)), a.2.2.2.1, a.2.2.2.2.1, a.2.2.2.2.2.1, a.2.2.2.2.2.2.1, c4))))
  else
    s0 (IntKind.wrap .i64 (a.2.1 + (1 : Int)), a.2.2.2.1, a.2.2.2.2.1, a.2.2.2.2.2.1, a.2.2.2.2.2.2.1, a.2.2.2.2.2.2.2)
noncomputable def f60_D1 (o : FO) (vs : List (AV o)) (h : Heap o) : Option (Int × Int × Int × List (AV o) × List (AV o) × o.S × List (AV o) × List (AV o)) :=
  match vs, h with
  | [.clo 67 [(0, 0), (1, 0), (2, 0)], .ptr 3 0, .ptr 4 0, .int .i64 a1_0, .int .i64 a1_1, .int .i64 a1_2], [.live false true a1_3, .live false true a1_4, .live false true [.f32 a1_5], .live true true a1_6, .live true true a1_7] => some (a1_0, a1_1, a1_2, a1_3, a1_4, a1_5, a1_6, a1_7)
  | _, _ => none
noncomputable def f60_E1 (o : FO) (a : Int × Int × Int × List (AV o) × List (AV o) × o.S × List (AV o) × List (AV o)) : List (AV o) × Heap o := ([.clo 67 [(0, 0), (1, 0), (2, 0)], .ptr 3 0, .ptr 4 0, .int .i64 a.1, .int .i64 a.2.1, .int .i64 a.2.2.1], [.live false true a.2.2.2.1, .live false true a.2.2.2.2.1, .live false true [.f32 a.2.2.2.2.2.1], .live true true a.2.2.2.2.2.2.1, .live true true a.2.2.2.2.2.2.2])
theorem f60_DE1 (o : FO) : ∀ vs h a, f60_D1 o vs h = some a → f60_E1 o a = (vs, h) := by
  intro vs h a hx
  unfold f60_D1 at hx
  split at hx
  · cases hx; rfl
  · cases hx
noncomputable def f60_L0 (o : FO) (N : Nat) (s0 : Int × List (AV o) × List (AV o) × o.S × List (AV o) × List (AV o) → R o) (a : Int × List (AV o) × List (AV o) × o.S × List (AV o) × List (AV o)) : R o :=
  bif decide (a.1 < (20 : Int)) then
    iter (f60_L1 o N s0) N (a.1, a.1, (0 : Int), a.2.1, a.2.2.1, a.2.2.2.1, a.2.2.2.2.1, a.2.2.2.2.2)
  else
    rdA a.2.2.2.2.2 0 400 fun c5 =>
    gd (m71_ok o c5) (
    wrA a.2.2.2.2.1 0 400 (m71_0 o c5) fun c6 =>
    rdA c6 0 400 fun c7 =>
    some (.tup [.agg c7, .int .i64 (m71_1 o c5)], [.live false true a.2.1, .live false true a.2.2.1, .live false true [.f32 a.2.2.2.1]]))
noncomputable def f60_D0 (o : FO) (vs : List (AV o)) (h : Heap o) : Option (Int × List (AV o) × List (AV o) × o.S × List (AV o) × List (AV o)) :=
  match vs, h with
  | [.clo 67 [(0, 0), (1, 0), (2, 0)], .ptr 3 0, .ptr 4 0, .int .i64 a0_0], [.live false true a0_1, .live false true a0_2, .live false true [.f32 a0_3], .live true true a0_4, .live true true a0_5] => some (a0_0, a0_1, a0_2, a0_3, a0_4, a0_5)
  | _, _ => none
noncomputable def f60_E0 (o : FO) (a : Int × List (AV o) × List (AV o) × o.S × List (AV o) × List (AV o)) : List (AV o) × Heap o := ([.clo 67 [(0, 0), (1, 0), (2, 0)], .ptr 3 0, .ptr 4 0, .int .i64 a.1], [.live false true a.2.1, .live false true a.2.2.1, .live false true [.f32 a.2.2.2.1], .live true true a.2.2.2.2.1, .live true true a.2.2.2.2.2])
theorem f60_DE0 (o : FO) : ∀ vs h a, f60_D0 o vs h = some a → f60_E0 o a = (vs, h) := by
  intro vs h a hx
  unfold f60_D0 at hx
  split at hx
  · cases hx; rfl
  · cases hx
noncomputable def f60 (o : FO) (N : Nat) (p0 : o.S) (p1 : List (AV o)) (p2 : List (AV o)) (p3 : o.S) : R o :=
  bif !(amtS o p0) then
    wrA (List.replicate 400 (.f32 (o.slit 0))) 0 400 (List.replicate 400 (.f32 (o.slit 0))) fun c1 =>
    rdA c1 0 400 fun c2 =>
    some (.tup [.agg c2, .int .i64 (2 : Int)], [.live false true p1, .live false true p2, .live false true [.f32 p3]])
  else
    wrA (List.replicate 400 (.f32 (o.slit 0))) 0 400 (List.replicate 400 (.f32 (o.slit 0))) fun c3 =>
    iter (f60_L0 o N) N ((0 : Int), p1, p2, p3, List.replicate 400 (.f32 (o.slit 0)), c3)
noncomputable def c60 (o : FO) (N : Nat) : Cx o :=
  { ty := tab [(33, ty33 o), (39, ty39 o), (41, ty41 o)]
    fn := tab [(67, .ro (e67 o)), (71, .pure (e71 o)), (72, .pure (e72 o))]
    rounds := N, nt := 34, base := 3
    loops := [loopD [1, 4, 6, 14] (f60_D0 o) (f60_E0 o), loopD [1, 4, 6, 7, 14, 17] (f60_D1 o) (f60_E1 o)] }
noncomputable def b60 : Code := match Try.f60.body with | some b => b | none => .skip
theorem is60 (N : Nat) : FnIs Try.prog (c60 ieee N) 60 Try.f60 b60 := ⟨by kernel_rfl, by kernel_rfl, by kernel_rfl, by kernel_rfl⟩
theorem eq60 (o : FO) (N : Nat) (p0 : o.S) (p1 : List (AV o)) (p2 : List (AV o)) (p3 : o.S) : afun (c60 o N) Try.f60.results.toList b60 [.f32 p0, .clo 67 [(0, 0), (1, 0), (2, 0)]] [.live false true p1, .live false true p2, .live false true [.f32 p3]] = f60 o N p0 p1 p2 p3 := by kernel_rfl
theorem cok60 (N : Nat) (hN : 4096 ≤ N) : CtxOk Try.prog (c60 ieee N) := by
  refine ctxOk ?_ ?_ mixed ?_
  · intro p hp
    simp only [List.mem_cons, List.not_mem_nil, or_false] at hp
    rcases hp with rfl | rfl | rfl
    · exact tyOk33
    · exact tyOk39
    · exact tyOk41
  · intro p hp
    simp only [List.mem_cons, List.not_mem_nil, or_false] at hp
    rcases hp with rfl | rfl | rfl
    · exact ok67 N hN
    · exact ok71 N hN
    · exact ok72 N hN
  · intro p hp
    simp only [List.mem_cons, List.not_mem_nil, or_false] at hp
    rcases hp with rfl | rfl
    · exact loopD_ok _ _ _ (f60_DE0 ieee)
    · exact loopD_ok _ _ _ (f60_DE1 ieee)
noncomputable def k60 (o : FO) : R o → Bool := fun r => match r with | some (.tup [.agg _, .int .i64 _], _) => true | _ => false
theorem k60_c (o : FO) (b : Bool) (x y : R o) : k60 o (bif b then x else y) = bif b then k60 o x else k60 o y := by cases b <;> rfl
noncomputable def m60_ok (o : FO) (p0 : o.S) (p1 : List (AV o)) (p2 : List (AV o)) (p3 : o.S) : Bool := k60 o (f60 o 4096 p0 p1 p2 p3)
noncomputable def g60_0 (o : FO) : R o → List (AV o) := fun r => match r with | some (.tup [.agg r0, .int .i64 _], _) => r0 | _ => []
theorem g60_0c (o : FO) (b : Bool) (x y : R o) : g60_0 o (bif b then x else y) = bif b then g60_0 o x else g60_0 o y := by cases b <;> rfl
noncomputable def m60_0 (o : FO) (p0 : o.S) (p1 : List (AV o)) (p2 : List (AV o)) (p3 : o.S) : List (AV o) := g60_0 o (f60 o 4096 p0 p1 p2 p3)
noncomputable def g60_1 (o : FO) : R o → Int := fun r => match r with | some (.tup [.agg _, .int .i64 r1], _) => r1 | _ => 0
theorem g60_1c (o : FO) (b : Bool) (x y : R o) : g60_1 o (bif b then x else y) = bif b then g60_1 o x else g60_1 o y := by cases b <;> rfl
noncomputable def m60_1 (o : FO) (p0 : o.S) (p1 : List (AV o)) (p2 : List (AV o)) (p3 : o.S) : Int := g60_1 o (f60 o 4096 p0 p1 p2 p3)
noncomputable def m60_h (o : FO) (p0 : o.S) (p1 : List (AV o)) (p2 : List (AV o)) (p3 : o.S) : Heap o := match f60 o 4096 p0 p1 p2 p3 with | some (_, h) => h | _ => []
theorem val60 (o : FO) (p0 : o.S) (p1 : List (AV o)) (p2 : List (AV o)) (p3 : o.S) (h : m60_ok o p0 p1 p2 p3 = true) : f60 o 4096 p0 p1 p2 p3 = some (.tup [.agg (m60_0 o p0 p1 p2 p3), .int .i64 (m60_1 o p0 p1 p2 p3)], m60_h o p0 p1 p2 p3) := by
  unfold m60_ok k60 at h
  unfold m60_0 g60_0 m60_1 g60_1 m60_h
  generalize f60 o 4096 p0 p1 p2 p3 = r at h ⊢
  split at h
  · rfl
  · cases h

noncomputable def e60 (o : FO) : List (AV o) → Heap o → Tr (AV o)
  | [.f32 p0, .clo 67 [(0, 0), (1, 0), (2, 0)]], [.live _ true p1, .live _ true p2, .live _ true [.f32 p3]] => .br (m60_ok o p0 p1 p2 p3) (.leaf (.tup [.agg (m60_0 o p0 p1 p2 p3), .int .i64 (m60_1 o p0 p1 p2 p3)])) .fail
  | _, _ => .fail
theorem ok60 (N : Nat) (hN : 4096 ≤ N) : CalOk Try.prog 60 (.ro (e60 ieee)) := by
  refine calOk_ro (cok60 4096 (by decide)) (is60 4096) ?_
  intro args h av hg
  unfold e60 at hg
  split at hg
  · obtain ⟨h0, hg⟩ := br_get hg
    cases hg
    exact ⟨rfl, _, (eq60 ieee 4096 _ _ _ _).trans (val60 ieee _ _ _ _ h0)⟩
  · cases hg

/-! loop.example/g01224/impl.FallKernel -/
noncomputable def f25_L0 (o : FO) (N : Nat) (s0 : Int × o.S × List (AV o) × List (AV o) × List (AV o) → R o) (a : Int × o.S × List (AV o) × List (AV o) × List (AV o)) : R o :=
  bif decide (a.1 < (20 : Int)) then
    gd (m66_ok o a.1) (
    gd (m56_ok o a.1) (
    gd (decide (0 ≤ a.1) && decide (a.1 < ((20 : Nat) : Int))) (
    wr1 a.2.2.2.1 (0 + (((a.1).toNat) * 1)) (.f32 (m66_0 o a.1)) fun c3 =>
    gd (decide (0 ≤ a.1) && decide (a.1 < ((20 : Nat) : Int))) (
    wr1 a.2.2.2.2 (0 + (((a.1).toNat) * 1)) (.f32 (m56_0 o a.1)) fun c4 =>
    s0 (IntKind.wrap .i64 (a.1 + (1 : Int)), a.2.1, a.2.2.1, c3, c4)))))
  else
    gd (m60_ok o a.2.1 a.2.2.2.1 a.2.2.2.2 a.2.1) (
    wrA a.2.2.1 0 400 (m60_0 o a.2.1 a.2.2.2.1 a.2.2.2.2 a.2.1) fun c5 =>
    rdA c5 0 400 fun c6 =>
    some (.tup [.agg c6, .int .i64 (m60_1 o a.2.1 a.2.2.2.1 a.2.2.2.2 a.2.1)], []))
noncomputable def f25_D0 (o : FO) (vs : List (AV o)) (h : Heap o) : Option (Int × o.S × List (AV o) × List (AV o) × List (AV o)) :=
  match vs, h with
  | [.ptr 0 0, .ptr 1 0, .ptr 2 0, .ptr 3 0, .int .i64 a0_0], [.live true true [.f32 a0_1], .live true true a0_2, .live true true a0_3, .live true true a0_4] => some (a0_0, a0_1, a0_2, a0_3, a0_4)
  | _, _ => none
noncomputable def f25_E0 (o : FO) (a : Int × o.S × List (AV o) × List (AV o) × List (AV o)) : List (AV o) × Heap o := ([.ptr 0 0, .ptr 1 0, .ptr 2 0, .ptr 3 0, .int .i64 a.1], [.live true true [.f32 a.2.1], .live true true a.2.2.1, .live true true a.2.2.2.1, .live true true a.2.2.2.2])
theorem f25_DE0 (o : FO) : ∀ vs h a, f25_D0 o vs h = some a → f25_E0 o a = (vs, h) := by
  intro vs h a hx
  unfold f25_D0 at hx
  split at hx
  · cases hx; rfl
  · cases hx
noncomputable def f25 (o : FO) (N : Nat) (p0 : o.S) : R o :=
  wrA (List.replicate 20 (.f32 (o.slit 0))) 0 20 (List.replicate 20 (.f32 (o.slit 0))) fun c1 =>
  wrA (List.replicate 20 (.f32 (o.slit 0))) 0 20 (List.replicate 20 (.f32 (o.slit 0))) fun c2 =>
  iter (f25_L0 o N) N ((0 : Int), p0, List.replicate 400 (.f32 (o.slit 0)), c1, c2)
noncomputable def c25 (o : FO) (N : Nat) : Cx o :=
  { ty := tab [(33, ty33 o), (41, ty41 o), (51, ty51 o)]
    fn := tab [(56, .pure (e56 o)), (60, .ro (e60 o)), (66, .pure (e66 o))]
    rounds := N, nt := 26, base := 0
    loops := [loopD [1, 2, 4, 5, 9] (f25_D0 o) (f25_E0 o)] }
noncomputable def b25 : Code := match Try.f25.body with | some b => b | none => .skip
theorem is25 (N : Nat) : FnIs Try.prog (c25 ieee N) 25 Try.f25 b25 := ⟨by kernel_rfl, by kernel_rfl, by kernel_rfl, by kernel_rfl⟩
theorem eq25 (o : FO) (N : Nat) (p0 : o.S) : afun (c25 o N) Try.f25.results.toList b25 [.f32 p0] [] = f25 o N p0 := by kernel_rfl
theorem cok25 (N : Nat) (hN : 4096 ≤ N) : CtxOk Try.prog (c25 ieee N) := by
  refine ctxOk ?_ ?_ mixed ?_
  · intro p hp
    simp only [List.mem_cons, List.not_mem_nil, or_false] at hp
    rcases hp with rfl | rfl | rfl
    · exact tyOk33
    · exact tyOk41
    · exact tyOk51
  · intro p hp
    simp only [List.mem_cons, List.not_mem_nil, or_false] at hp
    rcases hp with rfl | rfl | rfl
    · exact ok56 N hN
    · exact ok60 N hN
    · exact ok66 N hN
  · intro p hp
    simp only [List.mem_cons, List.not_mem_nil, or_false] at hp
    subst hp; exact loopD_ok _ _ _ (f25_DE0 ieee)
noncomputable def k25 (o : FO) : R o → Bool := fun r => match r with | some (.tup [.agg _, .int .i64 _], _) => true | _ => false
theorem k25_c (o : FO) (b : Bool) (x y : R o) : k25 o (bif b then x else y) = bif b then k25 o x else k25 o y := by cases b <;> rfl
noncomputable def m25_ok (o : FO) (p0 : o.S) : Bool := k25 o (f25 o 4096 p0)
noncomputable def g25_0 (o : FO) : R o → List (AV o) := fun r => match r with | some (.tup [.agg r0, .int .i64 _], _) => r0 | _ => []
theorem g25_0c (o : FO) (b : Bool) (x y : R o) : g25_0 o (bif b then x else y) = bif b then g25_0 o x else g25_0 o y := by cases b <;> rfl
noncomputable def m25_0 (o : FO) (p0 : o.S) : List (AV o) := g25_0 o (f25 o 4096 p0)
noncomputable def g25_1 (o : FO) : R o → Int := fun r => match r with | some (.tup [.agg _, .int .i64 r1], _) => r1 | _ => 0
theorem g25_1c (o : FO) (b : Bool) (x y : R o) : g25_1 o (bif b then x else y) = bif b then g25_1 o x else g25_1 o y := by cases b <;> rfl
noncomputable def m25_1 (o : FO) (p0 : o.S) : Int := g25_1 o (f25 o 4096 p0)
noncomputable def m25_h (o : FO) (p0 : o.S) : Heap o := match f25 o 4096 p0 with | some (_, h) => h | _ => []
theorem val25 (o : FO) (p0 : o.S) (h : m25_ok o p0 = true) : f25 o 4096 p0 = some (.tup [.agg (m25_0 o p0), .int .i64 (m25_1 o p0)], m25_h o p0) := by
  unfold m25_ok k25 at h
  unfold m25_0 g25_0 m25_1 g25_1 m25_h
  generalize f25 o 4096 p0 = r at h ⊢
  split at h
  · rfl
  · cases h

noncomputable def e25 (o : FO) : List (AV o) → Tr (AV o)
  | [.f32 p0] => .br (m25_ok o p0) (.leaf (.tup [.agg (m25_0 o p0), .int .i64 (m25_1 o p0)])) .fail
  | _ => .fail
theorem ok25 (N : Nat) (hN : 4096 ≤ N) : CalOk Try.prog 25 (.pure (e25 ieee)) := by
  refine calOk_pure (cok25 4096 (by decide)) (is25 4096) ?_
  intro args av hg
  unfold e25 at hg
  split at hg
  · obtain ⟨h0, hg⟩ := br_get hg
    cases hg
    exact ⟨rfl, rfl, _, (eq25 ieee 4096 _).trans (val25 ieee _ h0)⟩
  · cases hg

/-! loop.example/g01224/laws.sameFloat -/
noncomputable def f20 (o : FO) (p0 : o.D) (p1 : o.D) : R o :=
  let v1 : Bool := !(o.deq p0 p0)
  bif v1 then
    bif v1 then
      bif !(o.deq p1 p1) then
        some (.bool true, [])
      else
        some (.bool false, [])
    else
      some (.bool false, [])
  else
    let v2 : Bool := !(o.deq p1 p1)
    bif v2 then
      bif v1 then
        bif v2 then
          some (.bool true, [])
        else
          some (.bool false, [])
      else
        some (.bool false, [])
    else
      bif o.deq p0 (o.dlit 0) then
        bif o.deq p1 (o.dlit 0) then
          some (.bool ((o.dlt (o.dlit 0) (o.ddiv (o.dlit 4607182418800017408) p0)) == (o.dlt (o.dlit 0) (o.ddiv (o.dlit 4607182418800017408) p1))), [])
        else
          some (.bool (o.deq p0 p1), [])
      else
        some (.bool (o.deq p0 p1), [])
noncomputable def c20 (o : FO) (N : Nat) : Cx o :=
  { ty := tab [(4, ty4 o)]
    fn := tab []
    rounds := 4096, nt := 37, base := 0
    loops := [] }
noncomputable def b20 : Code := match Try.f20.body with | some b => b | none => .skip
theorem is20 (N : Nat) : FnIs Try.prog (c20 ieee N) 20 Try.f20 b20 := ⟨by kernel_rfl, by kernel_rfl, by kernel_rfl, by kernel_rfl⟩
theorem eq20 (o : FO) (N : Nat) (p0 : o.D) (p1 : o.D) : afun (c20 o N) Try.f20.results.toList b20 [.f64 p0, .f64 p1] [] = f20 o p0 p1 := by kernel_rfl
theorem cok20 (N : Nat) (hN : 4096 ≤ N) : CtxOk Try.prog (c20 ieee N) := by
  refine ctxOk ?_ ?_ mixed ?_
  · intro p hp
    simp only [List.mem_cons, List.not_mem_nil, or_false] at hp
    subst hp; exact tyOk4
  · intro p hp; cases hp
  · intro p hp; cases hp
noncomputable def m20_0 (o : FO) (p0 : o.D) (p1 : o.D) : Bool :=
  bif o.deq p0 p0 then
    bif o.deq p1 p1 then
      bif o.deq p0 (o.dlit 0) then
        bif o.deq p1 (o.dlit 0) then
          (o.dlt (o.dlit 0) (o.ddiv (o.dlit 4607182418800017408) p0)) == (o.dlt (o.dlit 0) (o.ddiv (o.dlit 4607182418800017408) p1))
        else
          o.deq p0 p1
      else
        o.deq p0 p1
    else
      false
  else
    bif o.deq p1 p1 then
      false
    else
      true
theorem val20 (o : FO) (p0 : o.D) (p1 : o.D) : f20 o p0 p1 = some (.bool (m20_0 o p0 p1), []) := by
  unfold f20 m20_0
  try dsimp only
  cases (o.deq p0 p0)
  · cases (o.deq p1 p1)
    · rfl
    · rfl
  · cases (o.deq p1 p1)
    · rfl
    · cases (o.deq p0 (o.dlit 0))
      · rfl
      · cases (o.deq p1 (o.dlit 0))
        · rfl
        · rfl

noncomputable def e20 (o : FO) : List (AV o) → Tr (AV o)
  | [.f64 p0, .f64 p1] => .leaf (.bool (m20_0 o p0 p1))
  | _ => .fail
theorem ok20 (N : Nat) (hN : 4096 ≤ N) : CalOk Try.prog 20 (.pure (e20 ieee)) := by
  refine calOk_pure (cok20 4096 (by decide)) (is20 4096) ?_
  intro args av hg
  unfold e20 at hg
  split at hg
  · cases hg
    exact ⟨rfl, rfl, _, (eq20 ieee 4096 _ _).trans (val20 ieee _ _)⟩
  · cases hg

/-! loop.example/g01224/laws.eqFloat32A20 -/
noncomputable def f63_L0 (o : FO) (N : Nat) (s0 : Int × List (AV o) × List (AV o) → R o) (a : Int × List (AV o) × List (AV o)) : R o :=
  bif decide (a.1 < (20 : Int)) then
    gd (decide (0 ≤ a.1) && decide (a.1 < ((20 : Nat) : Int))) (
    rdS a.2.1 (0 + (((a.1).toNat) * 1)) fun x1 =>
    gd (decide (0 ≤ a.1) && decide (a.1 < ((20 : Nat) : Int))) (
    rdS a.2.2 (0 + (((a.1).toNat) * 1)) fun x2 =>
    bif !(m20_0 o (o.s2d x1) (o.s2d x2)) then
      some (.bool false, [])
    else
      s0 (IntKind.wrap .i64 (a.1 + (1 : Int)), a.2.1, a.2.2)))
  else
    some (.bool true, [])
noncomputable def f63_D0 (o : FO) (vs : List (AV o)) (h : Heap o) : Option (Int × List (AV o) × List (AV o)) :=
  match vs, h with
  | [.ptr 0 0, .ptr 1 0, .int .i64 a0_0], [.live true true a0_1, .live true true a0_2] => some (a0_0, a0_1, a0_2)
  | _, _ => none
noncomputable def f63_E0 (o : FO) (a : Int × List (AV o) × List (AV o)) : List (AV o) × Heap o := ([.ptr 0 0, .ptr 1 0, .int .i64 a.1], [.live true true a.2.1, .live true true a.2.2])
theorem f63_DE0 (o : FO) : ∀ vs h a, f63_D0 o vs h = some a → f63_E0 o a = (vs, h) := by
  intro vs h a hx
  unfold f63_D0 at hx
  split at hx
  · cases hx; rfl
  · cases hx
noncomputable def f63 (o : FO) (N : Nat) (p0 : List (AV o)) (p1 : List (AV o)) : R o :=
  iter (f63_L0 o N) N ((0 : Int), p0, p1)
noncomputable def c63 (o : FO) (N : Nat) : Cx o :=
  { ty := tab [(33, ty33 o), (37, ty37 o), (39, ty39 o)]
    fn := tab [(20, .pure (e20 o))]
    rounds := N, nt := 20, base := 0
    loops := [loopD [2, 3, 5] (f63_D0 o) (f63_E0 o)] }
noncomputable def b63 : Code := match Try.f63.body with | some b => b | none => .skip
theorem is63 (N : Nat) : FnIs Try.prog (c63 ieee N) 63 Try.f63 b63 := ⟨by kernel_rfl, by kernel_rfl, by kernel_rfl, by kernel_rfl⟩
theorem eq63 (o : FO) (N : Nat) (p0 : List (AV o)) (p1 : List (AV o)) : afun (c63 o N) Try.f63.results.toList b63 [.agg p0, .agg p1] [] = f63 o N p0 p1 := by kernel_rfl
theorem cok63 (N : Nat) (hN : 4096 ≤ N) : CtxOk Try.prog (c63 ieee N) := by
  refine ctxOk ?_ ?_ mixed ?_
  · intro p hp
    simp only [List.mem_cons, List.not_mem_nil, or_false] at hp
    rcases hp with rfl | rfl | rfl
    · exact tyOk33
    · exact tyOk37
    · exact tyOk39
  · intro p hp
    simp only [List.mem_cons, List.not_mem_nil, or_false] at hp
    subst hp; exact ok20 N hN
  · intro p hp
    simp only [List.mem_cons, List.not_mem_nil, or_false] at hp
    subst hp; exact loopD_ok _ _ _ (f63_DE0 ieee)
noncomputable def k63 (o : FO) : R o → Bool := fun r => match r with | some (.bool _, _) => true | _ => false
theorem k63_c (o : FO) (b : Bool) (x y : R o) : k63 o (bif b then x else y) = bif b then k63 o x else k63 o y := by cases b <;> rfl
noncomputable def m63_ok (o : FO) (p0 : List (AV o)) (p1 : List (AV o)) : Bool := k63 o (f63 o 4096 p0 p1)
noncomputable def g63_0 (o : FO) : R o → Bool := fun r => match r with | some (.bool r0, _) => r0 | _ => false
theorem g63_0c (o : FO) (b : Bool) (x y : R o) : g63_0 o (bif b then x else y) = bif b then g63_0 o x else g63_0 o y := by cases b <;> rfl
noncomputable def m63_0 (o : FO) (p0 : List (AV o)) (p1 : List (AV o)) : Bool := g63_0 o (f63 o 4096 p0 p1)
noncomputable def m63_h (o : FO) (p0 : List (AV o)) (p1 : List (AV o)) : Heap o := match f63 o 4096 p0 p1 with | some (_, h) => h | _ => []
theorem val63 (o : FO) (p0 : List (AV o)) (p1 : List (AV o)) (h : m63_ok o p0 p1 = true) : f63 o 4096 p0 p1 = some (.bool (m63_0 o p0 p1), m63_h o p0 p1) := by
  unfold m63_ok k63 at h
  unfold m63_0 g63_0 m63_h
  generalize f63 o 4096 p0 p1 = r at h ⊢
  split at h
  · rfl
  · cases h

noncomputable def e63 (o : FO) : List (AV o) → Tr (AV o)
  | [.agg p0, .agg p1] => .br (m63_ok o p0 p1) (.leaf (.bool (m63_0 o p0 p1))) .fail
  | _ => .fail
theorem ok63 (N : Nat) (hN : 4096 ≤ N) : CalOk Try.prog 63 (.pure (e63 ieee)) := by
  refine calOk_pure (cok63 4096 (by decide)) (is63 4096) ?_
  intro args av hg
  unfold e63 at hg
  split at hg
  · obtain ⟨h0, hg⟩ := br_get hg
    cases hg
    exact ⟨rfl, rfl, _, (eq63 ieee 4096 _ _).trans (val63 ieee _ _ h0)⟩
  · cases hg

/-! loop.example/g01224/laws.eqKernel -/
noncomputable def f23_L0 (o : FO) (N : Nat) (s0 : Int × List (AV o) × List (AV o) → R o) (a : Int × List (AV o) × List (AV o)) : R o :=
  bif decide (a.1 < (20 : Int)) then
    gd (decide (0 ≤ a.1) && decide (a.1 < ((20 : Nat) : Int))) (
    rdA a.2.1 (0 + (((a.1).toNat) * 20)) 20 fun c1 =>
    gd (decide (0 ≤ a.1) && decide (a.1 < ((20 : Nat) : Int))) (
    rdA a.2.2 (0 + (((a.1).toNat) * 20)) 20 fun c2 =>
    gd (m63_ok o c1 c2) (
    bif !(m63_0 o c1 c2) then
      some (.bool false, [])
    else
      s0 (IntKind.wrap .i64 (a.1 + (1 : Int)), a.2.1, a.2.2))))
  else
    some (.bool true, [])
noncomputable def f23_D0 (o : FO) (vs : List (AV o)) (h : Heap o) : Option (Int × List (AV o) × List (AV o)) :=
  match vs, h with
  | [.ptr 0 0, .ptr 1 0, .int .i64 a0_0], [.live true true a0_1, .live true true a0_2] => some (a0_0, a0_1, a0_2)
  | _, _ => none
noncomputable def f23_E0 (o : FO) (a : Int × List (AV o) × List (AV o)) : List (AV o) × Heap o := ([.ptr 0 0, .ptr 1 0, .int .i64 a.1], [.live true true a.2.1, .live true true a.2.2])
theorem f23_DE0 (o : FO) : ∀ vs h a, f23_D0 o vs h = some a → f23_E0 o a = (vs, h) := by
  intro vs h a hx
  unfold f23_D0 at hx
  split at hx
  · cases hx; rfl
  · cases hx
noncomputable def f23 (o : FO) (N : Nat) (p0 : List (AV o)) (p1 : List (AV o)) : R o :=
  iter (f23_L0 o N) N ((0 : Int), p0, p1)
noncomputable def c23 (o : FO) (N : Nat) : Cx o :=
  { ty := tab [(39, ty39 o), (41, ty41 o)]
    fn := tab [(63, .pure (e63 o))]
    rounds := N, nt := 18, base := 0
    loops := [loopD [2, 3, 5] (f23_D0 o) (f23_E0 o)] }
noncomputable def b23 : Code := match Try.f23.body with | some b => b | none => .skip
theorem is23 (N : Nat) : FnIs Try.prog (c23 ieee N) 23 Try.f23 b23 := ⟨by kernel_rfl, by kernel_rfl, by kernel_rfl, by kernel_rfl⟩
theorem eq23 (o : FO) (N : Nat) (p0 : List (AV o)) (p1 : List (AV o)) : afun (c23 o N) Try.f23.results.toList b23 [.agg p0, .agg p1] [] = f23 o N p0 p1 := by kernel_rfl
theorem cok23 (N : Nat) (hN : 4096 ≤ N) : CtxOk Try.prog (c23 ieee N) := by
  refine ctxOk ?_ ?_ mixed ?_
  · intro p hp
    simp only [List.mem_cons, List.not_mem_nil, or_false] at hp
    rcases hp with rfl | rfl
    · exact tyOk39
    · exact tyOk41
  · intro p hp
    simp only [List.mem_cons, List.not_mem_nil, or_false] at hp
    subst hp; exact ok63 N hN
  · intro p hp
    simp only [List.mem_cons, List.not_mem_nil, or_false] at hp
    subst hp; exact loopD_ok _ _ _ (f23_DE0 ieee)
noncomputable def k23 (o : FO) : R o → Bool := fun r => match r with | some (.bool _, _) => true | _ => false
theorem k23_c (o : FO) (b : Bool) (x y : R o) : k23 o (bif b then x else y) = bif b then k23 o x else k23 o y := by cases b <;> rfl
noncomputable def m23_ok (o : FO) (p0 : List (AV o)) (p1 : List (AV o)) : Bool := k23 o (f23 o 4096 p0 p1)
noncomputable def g23_0 (o : FO) : R o → Bool := fun r => match r with | some (.bool r0, _) => r0 | _ => false
theorem g23_0c (o : FO) (b : Bool) (x y : R o) : g23_0 o (bif b then x else y) = bif b then g23_0 o x else g23_0 o y := by cases b <;> rfl
noncomputable def m23_0 (o : FO) (p0 : List (AV o)) (p1 : List (AV o)) : Bool := g23_0 o (f23 o 4096 p0 p1)
noncomputable def m23_h (o : FO) (p0 : List (AV o)) (p1 : List (AV o)) : Heap o := match f23 o 4096 p0 p1 with | some (_, h) => h | _ => []
theorem val23 (o : FO) (p0 : List (AV o)) (p1 : List (AV o)) (h : m23_ok o p0 p1 = true) : f23 o 4096 p0 p1 = some (.bool (m23_0 o p0 p1), m23_h o p0 p1) := by
  unfold m23_ok k23 at h
  unfold m23_0 g23_0 m23_h
  generalize f23 o 4096 p0 p1 = r at h ⊢
  split at h
  · rfl
  · cases h

noncomputable def e23 (o : FO) : List (AV o) → Tr (AV o)
  | [.agg p0, .agg p1] => .br (m23_ok o p0 p1) (.leaf (.bool (m23_0 o p0 p1))) .fail
  | _ => .fail
theorem ok23 (N : Nat) (hN : 4096 ≤ N) : CalOk Try.prog 23 (.pure (e23 ieee)) := by
  refine calOk_pure (cok23 4096 (by decide)) (is23 4096) ?_
  intro args av hg
  unfold e23 at hg
  split at hg
  · obtain ⟨h0, hg⟩ := br_get hg
    cases hg
    exact ⟨rfl, rfl, _, (eq23 ieee 4096 _ _).trans (val23 ieee _ _ h0)⟩
  · cases hg

/-! loop.example/g01224/laws.FnExactFallKernel -/
noncomputable def f6 (o : FO) (p0 : o.S) : R o :=
  gd (m24_ok o p0) (
  wrA (List.replicate 400 (.f32 (o.slit 0))) 0 400 (m24_0 o p0) fun c1 =>
  gd (m25_ok o p0) (
  wrA (List.replicate 400 (.f32 (o.slit 0))) 0 400 (m25_0 o p0) fun c2 =>
  rdA c2 0 400 fun c3 =>
  rdA c1 0 400 fun c4 =>
  gd (m23_ok o c3 c4) (
  bif m23_0 o c3 c4 then
    bif (m25_1 o p0) != (m24_1 o p0) then
      some (.bool false, [])
    else
      some (.bool true, [])
  else
    some (.bool false, []))))
noncomputable def c6 (o : FO) (N : Nat) : Cx o :=
  { ty := tab [(41, ty41 o)]
    fn := tab [(23, .pure (e23 o)), (24, .pure (e24 o)), (25, .pure (e25 o))]
    rounds := 4096, nt := 26, base := 0
    loops := [] }
noncomputable def b6 : Code := match Try.f6.body with | some b => b | none => .skip
theorem is6 (N : Nat) : FnIs Try.prog (c6 ieee N) 6 Try.f6 b6 := ⟨by kernel_rfl, by kernel_rfl, by kernel_rfl, by kernel_rfl⟩
theorem eq6 (o : FO) (N : Nat) (p0 : o.S) : afun (c6 o N) Try.f6.results.toList b6 [.f32 p0] [] = f6 o p0 := by kernel_rfl
theorem cok6 (N : Nat) (hN : 4096 ≤ N) : CtxOk Try.prog (c6 ieee N) := by
  refine ctxOk ?_ ?_ mixed ?_
  · intro p hp
    simp only [List.mem_cons, List.not_mem_nil, or_false] at hp
    subst hp; exact tyOk41
  · intro p hp
    simp only [List.mem_cons, List.not_mem_nil, or_false] at hp
    rcases hp with rfl | rfl | rfl
    · exact ok23 N hN
    · exact ok24 N hN
    · exact ok25 N hN
  · intro p hp; cases hp
noncomputable def k6 (o : FO) : R o → Bool := fun r => match r with | some (.bool _, _) => true | _ => false
theorem k6_c (o : FO) (b : Bool) (x y : R o) : k6 o (bif b then x else y) = bif b then k6 o x else k6 o y := by cases b <;> rfl
noncomputable def m6_ok (o : FO) (p0 : o.S) : Bool := k6 o (f6 o p0)
noncomputable def g6_0 (o : FO) : R o → Bool := fun r => match r with | some (.bool r0, _) => r0 | _ => false
theorem g6_0c (o : FO) (b : Bool) (x y : R o) : g6_0 o (bif b then x else y) = bif b then g6_0 o x else g6_0 o y := by cases b <;> rfl
noncomputable def m6_0 (o : FO) (p0 : o.S) : Bool := g6_0 o (f6 o p0)
noncomputable def m6_h (o : FO) (p0 : o.S) : Heap o := match f6 o p0 with | some (_, h) => h | _ => []
theorem val6 (o : FO) (p0 : o.S) (h : m6_ok o p0 = true) : f6 o p0 = some (.bool (m6_0 o p0), m6_h o p0) := by
  unfold m6_ok k6 at h
  unfold m6_0 g6_0 m6_h
  generalize f6 o p0 = r at h ⊢
  split at h
  · rfl
  · cases h

noncomputable def e6 (o : FO) : List (AV o) → Tr (AV o)
  | [.f32 p0] => .br (m6_ok o p0) (.leaf (.bool (m6_0 o p0))) .fail
  | _ => .fail
theorem ok6 (N : Nat) (hN : 4096 ≤ N) : CalOk Try.prog 6 (.pure (e6 ieee)) := by
  refine calOk_pure (cok6 4096 (by decide)) (is6 4096) ?_
  intro args av hg
  unfold e6 at hg
  split at hg
  · obtain ⟨h0, hg⟩ := br_get hg
    cases hg
    exact ⟨rfl, rfl, _, (eq6 ieee 4096 _).trans (val6 ieee _ h0)⟩
  · cases hg

end Go.Proofs.Ytbmakfcooonogaa
