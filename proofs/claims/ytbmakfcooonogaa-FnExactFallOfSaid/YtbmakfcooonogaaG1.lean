import Derived.Test.YtbmakfcooonogaaG0
set_option linter.unusedVariables false
set_option maxRecDepth 100000
namespace Go.Proofs.Ytbmakfcooonogaa
open Go.Ab Go.RowKit

/-! loop.example/g01224/spec.l00In -/
noncomputable def f82 (o : FO) (p0 : Int) (p1 : Int) (p2 : Int) : R o :=
  bif decide (p0 ≥ p1) then
    bif decide (p0 ≤ p2) then
      some (.bool true, [])
    else
      some (.bool false, [])
  else
    some (.bool false, [])
noncomputable def c82 (o : FO) (N : Nat) : Cx o :=
  { ty := tab []
    fn := tab []
    rounds := 4096, nt := 15, base := 0
    loops := [] }
noncomputable def b82 : Code := match Try.f82.body with | some b => b | none => .skip
theorem is82 (N : Nat) : FnIs Try.prog (c82 ieee N) 82 Try.f82 b82 := ⟨by kernel_rfl, by kernel_rfl, by kernel_rfl, by kernel_rfl⟩
theorem eq82 (o : FO) (N : Nat) (p0 : Int) (p1 : Int) (p2 : Int) : afun (c82 o N) Try.f82.results.toList b82 [.int .i64 p0, .int .i64 p1, .int .i64 p2] [] = f82 o p0 p1 p2 := by kernel_rfl
theorem cok82 (N : Nat) (hN : 4096 ≤ N) : CtxOk Try.prog (c82 ieee N) := by
  refine ctxOk ?_ ?_ mixed ?_
  · intro p hp; cases hp
  · intro p hp; cases hp
  · intro p hp; cases hp
noncomputable def m82_0 (o : FO) (p0 : Int) (p1 : Int) (p2 : Int) : Bool :=
  bif decide (p0 ≥ p1) then
    decide (p0 ≤ p2)
  else
    false
theorem val82 (o : FO) (p0 : Int) (p1 : Int) (p2 : Int) : f82 o p0 p1 p2 = some (.bool (m82_0 o p0 p1 p2), []) := by
  unfold f82 m82_0
  try dsimp only
  cases (decide (p0 ≥ p1))
  · rfl
  · cases (decide (p0 ≤ p2))
    · rfl
    · rfl

noncomputable def e82 (o : FO) : List (AV o) → Tr (AV o)
  | [.int .i64 p0, .int .i64 p1, .int .i64 p2] => .leaf (.bool (m82_0 o p0 p1 p2))
  | _ => .fail
theorem ok82 (N : Nat) (hN : 4096 ≤ N) : CalOk Try.prog 82 (.pure (e82 ieee)) := by
  refine calOk_pure (cok82 4096 (Nat.le_refl _)) (is82 4096) ?_
  intro args av hg
  unfold e82 at hg
  split at hg
  · cases hg
    exact ⟨rfl, rfl, _, (eq82 ieee 4096 _ _ _).trans (val82 ieee _ _ _)⟩
  · cases hg

/-! loop.example/g01224/spec.l01Class -/
noncomputable def f53 (o : FO) (p0 : Int) : R o :=
  some (.bool (m82_0 o p0 (0 : Int) (19 : Int)), [])
noncomputable def c53 (o : FO) (N : Nat) : Cx o :=
  { ty := tab []
    fn := tab [(82, .pure (e82 o))]
    rounds := 4096, nt := 5, base := 0
    loops := [] }
noncomputable def b53 : Code := match Try.f53.body with | some b => b | none => .skip
theorem is53 (N : Nat) : FnIs Try.prog (c53 ieee N) 53 Try.f53 b53 := ⟨by kernel_rfl, by kernel_rfl, by kernel_rfl, by kernel_rfl⟩
theorem eq53 (o : FO) (N : Nat) (p0 : Int) : afun (c53 o N) Try.f53.results.toList b53 [.int .i64 p0] [] = f53 o p0 := by kernel_rfl
theorem cok53 (N : Nat) (hN : 4096 ≤ N) : CtxOk Try.prog (c53 ieee N) := by
  refine ctxOk ?_ ?_ mixed ?_
  · intro p hp; cases hp
  · intro p hp
    simp only [List.mem_cons, List.not_mem_nil, or_false] at hp
    subst hp; exact ok82 N hN
  · intro p hp; cases hp
noncomputable def m53_0 (o : FO) (p0 : Int) : Bool :=
  m82_0 o p0 (0 : Int) (19 : Int)
theorem val53 (o : FO) (p0 : Int) : f53 o p0 = some (.bool (m53_0 o p0), []) := by
  unfold f53 m53_0
  rfl

noncomputable def e53 (o : FO) : List (AV o) → Tr (AV o)
  | [.int .i64 p0] => .leaf (.bool (m53_0 o p0))
  | _ => .fail
theorem ok53 (N : Nat) (hN : 4096 ≤ N) : CalOk Try.prog 53 (.pure (e53 ieee)) := by
  refine calOk_pure (cok53 4096 (Nat.le_refl _)) (is53 4096) ?_
  intro args av hg
  unfold e53 at hg
  split at hg
  · cases hg
    exact ⟨rfl, rfl, _, (eq53 ieee 4096 _).trans (val53 ieee _)⟩
  · cases hg

/-! loop.example/g01224/spec.l01Mass -/
noncomputable def f58 (o : FO) (p0 : Int) : R o :=
  gd (decide (0 ≤ (IntKind.wrap .u64 p0))) (
  some (.f32 (o.sofi (IntKind.wrap .i64 ((1 : Int) * 2 ^ (min ((IntKind.wrap .u64 p0)).toNat (IntKind.bits .i64))))), []))
noncomputable def c58 (o : FO) (N : Nat) : Cx o :=
  { ty := tab [(2, ty2 o), (33, ty33 o), (78, ty78 o)]
    fn := tab []
    rounds := 4096, nt := 7, base := 0
    loops := [] }
noncomputable def b58 : Code := match Try.f58.body with | some b => b | none => .skip
theorem is58 (N : Nat) : FnIs Try.prog (c58 ieee N) 58 Try.f58 b58 := ⟨by kernel_rfl, by kernel_rfl, by kernel_rfl, by kernel_rfl⟩
theorem eq58 (o : FO) (N : Nat) (p0 : Int) : afun (c58 o N) Try.f58.results.toList b58 [.int .i64 p0] [] = f58 o p0 := by kernel_rfl
theorem cok58 (N : Nat) (hN : 4096 ≤ N) : CtxOk Try.prog (c58 ieee N) := by
  refine ctxOk ?_ ?_ mixed ?_
  · intro p hp
    simp only [List.mem_cons, List.not_mem_nil, or_false] at hp
    rcases hp with rfl | rfl | rfl
    · exact tyOk2
    · exact tyOk33
    · exact tyOk78
  · intro p hp; cases hp
  · intro p hp; cases hp
noncomputable def m58_ok (o : FO) (p0 : Int) : Bool :=
  bif decide (0 ≤ (IntKind.wrap .u64 p0)) then
    true
  else
    false
noncomputable def m58_0 (o : FO) (p0 : Int) : o.S :=
  o.sofi (IntKind.wrap .i64 ((1 : Int) * 2 ^ (min ((IntKind.wrap .u64 p0)).toNat (IntKind.bits .i64))))
theorem val58 (o : FO) (p0 : Int) (h : m58_ok o p0 = true) : f58 o p0 = some (.f32 (m58_0 o p0), []) := by
  revert h
  unfold m58_ok f58 m58_0
  try dsimp only
  cases (decide (0 ≤ (IntKind.wrap .u64 p0)))
  · intro h; exact absurd h Bool.false_ne_true
  · intro _; rfl

noncomputable def e58 (o : FO) : List (AV o) → Tr (AV o)
  | [.int .i64 p0] => .br (m58_ok o p0) (.leaf (.f32 (m58_0 o p0))) .fail
  | _ => .fail
theorem ok58 (N : Nat) (hN : 4096 ≤ N) : CalOk Try.prog 58 (.pure (e58 ieee)) := by
  refine calOk_pure (cok58 4096 (Nat.le_refl _)) (is58 4096) ?_
  intro args av hg
  unfold e58 at hg
  split at hg
  · obtain ⟨h0, hg⟩ := br_get hg
    cases hg
    exact ⟨rfl, rfl, _, (eq58 ieee 4096 _).trans (val58 ieee _ h0)⟩
  · cases hg

/-! loop.example/g01224/spec.l01Third -/
noncomputable def f90_L2 (o : FO) (N : Nat) (s0 : (o.D × o.D) → R o) (s1 : (o.D × o.D) → R o) (s2 : o.D × o.D × o.D × Int → R o) (a : o.D × o.D × o.D × Int) : R o :=
  bif decide (a.2.2.2 < (6 : Int)) then
    s2 (a.1, a.2.1, o.dsub a.2.2.1 (o.ddiv (o.dsub (o.dmul (o.dmul a.2.2.1 a.2.2.1) a.2.2.1) a.1) (o.dmul (o.dmul (o.dlit 4613937818241073152) a.2.2.1) a.2.2.1)), IntKind.wrap .i64 (a.2.2.2 + (1 : Int)))
  else
    gd (o.d2sOk (o.dmul a.2.2.1 a.2.1)) (
    some (.f32 (o.d2s (o.dmul a.2.2.1 a.2.1)), []))
noncomputable def f90_D2 (o : FO) (vs : List (AV o)) (h : Heap o) : Option (o.D × o.D × o.D × Int) :=
  match vs, h with
  | [.f64 a2_0, .f64 a2_1, .f64 a2_2, .int .i64 a2_3], [] => some (a2_0, a2_1, a2_2, a2_3)
  | _, _ => none
noncomputable def f90_E2 (o : FO) (a : o.D × o.D × o.D × Int) : List (AV o) × Heap o := ([.f64 a.1, .f64 a.2.1, .f64 a.2.2.1, .int .i64 a.2.2.2], [])
theorem f90_DE2 (o : FO) : ∀ vs h a, f90_D2 o vs h = some a → f90_E2 o a = (vs, h) := by
  intro vs h a hx
  unfold f90_D2 at hx
  split at hx
  · cases hx; rfl
  · cases hx
noncomputable def f90_L1 (o : FO) (N : Nat) (s0 : (o.D × o.D) → R o) (s1 : o.D × o.D → R o) (a : o.D × o.D) : R o :=
  bif o.dlt a.1 (o.dlit 4607182418800017408) then
    s1 (o.dmul a.1 (o.dlit 4620693217682128896), o.ddiv a.2 (o.dlit 4611686018427387904))
  else
    iter (f90_L2 o N s0 s1) N (a.1, a.2, (o.dlit 4609434218613702656), (0 : Int))
noncomputable def f90_D1 (o : FO) (vs : List (AV o)) (h : Heap o) : Option (o.D × o.D) :=
  match vs, h with
  | [.f64 a1_0, .f64 a1_1], [] => some (a1_0, a1_1)
  | _, _ => none
noncomputable def f90_E1 (o : FO) (a : o.D × o.D) : List (AV o) × Heap o := ([.f64 a.1, .f64 a.2], [])
theorem f90_DE1 (o : FO) : ∀ vs h a, f90_D1 o vs h = some a → f90_E1 o a = (vs, h) := by
  intro vs h a hx
  unfold f90_D1 at hx
  split at hx
  · cases hx; rfl
  · cases hx
noncomputable def f90_L0 (o : FO) (N : Nat) (s0 : o.D × o.D → R o) (a : o.D × o.D) : R o :=
  bif o.dle (o.dlit 4620693217682128896) a.1 then
    s0 (o.ddiv a.1 (o.dlit 4620693217682128896), o.dmul a.2 (o.dlit 4611686018427387904))
  else
    iter (f90_L1 o N s0) N (a.1, a.2)
noncomputable def f90_D0 (o : FO) (vs : List (AV o)) (h : Heap o) : Option (o.D × o.D) :=
  match vs, h with
  | [.f64 a0_0, .f64 a0_1], [] => some (a0_0, a0_1)
  | _, _ => none
noncomputable def f90_E0 (o : FO) (a : o.D × o.D) : List (AV o) × Heap o := ([.f64 a.1, .f64 a.2], [])
theorem f90_DE0 (o : FO) : ∀ vs h a, f90_D0 o vs h = some a → f90_E0 o a = (vs, h) := by
  intro vs h a hx
  unfold f90_D0 at hx
  split at hx
  · cases hx; rfl
  · cases hx
noncomputable def f90 (o : FO) (N : Nat) (p0 : o.S) : R o :=
  bif o.seq p0 (o.slit 0) then
    some (.f32 (o.slit 0), [])
  else
    iter (f90_L0 o N) N (o.s2d p0, (o.dlit 4607182418800017408))
noncomputable def c90 (o : FO) (N : Nat) : Cx o :=
  { ty := tab [(33, ty33 o), (37, ty37 o)]
    fn := tab []
    rounds := N, nt := 47, base := 0
    loops := [loopD [3, 4] (f90_D0 o) (f90_E0 o), loopD [3, 4] (f90_D1 o) (f90_E1 o), loopD [3, 4, 5, 6] (f90_D2 o) (f90_E2 o)] }
noncomputable def b90 : Code := match Try.f90.body with | some b => b | none => .skip
theorem is90 (N : Nat) : FnIs Try.prog (c90 ieee N) 90 Try.f90 b90 := ⟨by kernel_rfl, by kernel_rfl, by kernel_rfl, by kernel_rfl⟩
theorem eq90 (o : FO) (N : Nat) (p0 : o.S) : afun (c90 o N) Try.f90.results.toList b90 [.f32 p0] [] = f90 o N p0 := by kernel_rfl
theorem cok90 (N : Nat) (hN : 4096 ≤ N) : CtxOk Try.prog (c90 ieee N) := by
  refine ctxOk ?_ ?_ mixed ?_
  · intro p hp
    simp only [List.mem_cons, List.not_mem_nil, or_false] at hp
    rcases hp with rfl | rfl
    · exact tyOk33
    · exact tyOk37
  · intro p hp; cases hp
  · intro p hp
    simp only [List.mem_cons, List.not_mem_nil, or_false] at hp
    rcases hp with rfl | rfl | rfl
    · exact loopD_ok _ _ _ (f90_DE0 ieee)
    · exact loopD_ok _ _ _ (f90_DE1 ieee)
    · exact loopD_ok _ _ _ (f90_DE2 ieee)
noncomputable def k90 (o : FO) : R o → Bool := fun r => match r with | some (.f32 _, _) => true | _ => false
theorem k90_c (o : FO) (b : Bool) (x y : R o) : k90 o (bif b then x else y) = bif b then k90 o x else k90 o y := by cases b <;> rfl
noncomputable def m90_ok (o : FO) (p0 : o.S) : Bool := k90 o (f90 o 4096 p0)
noncomputable def g90_0 (o : FO) : R o → o.S := fun r => match r with | some (.f32 r0, _) => r0 | _ => (o.slit 0)
theorem g90_0c (o : FO) (b : Bool) (x y : R o) : g90_0 o (bif b then x else y) = bif b then g90_0 o x else g90_0 o y := by cases b <;> rfl
noncomputable def m90_0 (o : FO) (p0 : o.S) : o.S := g90_0 o (f90 o 4096 p0)
noncomputable def m90_h (o : FO) (p0 : o.S) : Heap o := match f90 o 4096 p0 with | some (_, h) => h | _ => []
theorem val90 (o : FO) (p0 : o.S) (h : m90_ok o p0 = true) : f90 o 4096 p0 = some (.f32 (m90_0 o p0), m90_h o p0) := by
  unfold m90_ok k90 at h
  unfold m90_0 g90_0 m90_h
  generalize f90 o 4096 p0 = r at h ⊢
  split at h
  · rfl
  · cases h

noncomputable def e90 (o : FO) : List (AV o) → Tr (AV o)
  | [.f32 p0] => .br (m90_ok o p0) (.leaf (.f32 (m90_0 o p0))) .fail
  | _ => .fail
theorem ok90 (N : Nat) (hN : 4096 ≤ N) : CalOk Try.prog 90 (.pure (e90 ieee)) := by
  refine calOk_pure (cok90 4096 (Nat.le_refl _)) (is90 4096) ?_
  intro args av hg
  unfold e90 at hg
  split at hg
  · obtain ⟨h0, hg⟩ := br_get hg
    cases hg
    exact ⟨rfl, rfl, _, (eq90 ieee 4096 _).trans (val90 ieee _ h0)⟩
  · cases hg

/-! loop.example/g01224/spec.l01Radius -/
noncomputable def f64 (o : FO) (p0 : Int) : R o :=
  gd (m58_ok o p0) (
  gd (m90_ok o (m58_0 o p0)) (
  some (.f32 (m90_0 o (m58_0 o p0)), [])))
noncomputable def c64 (o : FO) (N : Nat) : Cx o :=
  { ty := tab []
    fn := tab [(58, .pure (e58 o)), (90, .pure (e90 o))]
    rounds := 4096, nt := 6, base := 0
    loops := [] }
noncomputable def b64 : Code := match Try.f64.body with | some b => b | none => .skip
theorem is64 (N : Nat) : FnIs Try.prog (c64 ieee N) 64 Try.f64 b64 := ⟨by kernel_rfl, by kernel_rfl, by kernel_rfl, by kernel_rfl⟩
theorem eq64 (o : FO) (N : Nat) (p0 : Int) : afun (c64 o N) Try.f64.results.toList b64 [.int .i64 p0] [] = f64 o p0 := by kernel_rfl
theorem cok64 (N : Nat) (hN : 4096 ≤ N) : CtxOk Try.prog (c64 ieee N) := by
  refine ctxOk ?_ ?_ mixed ?_
  · intro p hp; cases hp
  · intro p hp
    simp only [List.mem_cons, List.not_mem_nil, or_false] at hp
    rcases hp with rfl | rfl
    · exact ok58 N hN
    · exact ok90 N hN
  · intro p hp; cases hp
noncomputable def m64_ok (o : FO) (p0 : Int) : Bool :=
  bif m58_ok o p0 then
    bif m90_ok o (m58_0 o p0) then
      true
    else
      false
  else
    false
noncomputable def m64_0 (o : FO) (p0 : Int) : o.S :=
  m90_0 o (m58_0 o p0)
theorem val64 (o : FO) (p0 : Int) (h : m64_ok o p0 = true) : f64 o p0 = some (.f32 (m64_0 o p0), []) := by
  revert h
  unfold m64_ok f64 m64_0
  try dsimp only
  cases (m58_ok o p0)
  · intro h; exact absurd h Bool.false_ne_true
  · cases (m90_ok o (m58_0 o p0))
    · intro h; exact absurd h Bool.false_ne_true
    · intro _; rfl

noncomputable def e64 (o : FO) : List (AV o) → Tr (AV o)
  | [.int .i64 p0] => .br (m64_ok o p0) (.leaf (.f32 (m64_0 o p0))) .fail
  | _ => .fail
theorem ok64 (N : Nat) (hN : 4096 ≤ N) : CalOk Try.prog 64 (.pure (e64 ieee)) := by
  refine calOk_pure (cok64 4096 (Nat.le_refl _)) (is64 4096) ?_
  intro args av hg
  unfold e64 at hg
  split at hg
  · obtain ⟨h0, hg⟩ := br_get hg
    cases hg
    exact ⟨rfl, rfl, _, (eq64 ieee 4096 _).trans (val64 ieee _ h0)⟩
  · cases hg

/-! loop.example/g01224/spec.l03Fall -/
noncomputable def f54 (o : FO) (p0 : Int) : R o :=
  gd (m64_ok o p0) (
  some (.f32 (o.sdiv (o.smul (m64_0 o p0) (m64_0 o p0)) (o.sadd (o.slit 1065353216) (o.smul (o.slit 1056964608) (m64_0 o p0)))), []))
noncomputable def c54 (o : FO) (N : Nat) : Cx o :=
  { ty := tab []
    fn := tab [(64, .pure (e64 o))]
    rounds := 4096, nt := 13, base := 0
    loops := [] }
noncomputable def b54 : Code := match Try.f54.body with | some b => b | none => .skip
theorem is54 (N : Nat) : FnIs Try.prog (c54 ieee N) 54 Try.f54 b54 := ⟨by kernel_rfl, by kernel_rfl, by kernel_rfl, by kernel_rfl⟩
theorem eq54 (o : FO) (N : Nat) (p0 : Int) : afun (c54 o N) Try.f54.results.toList b54 [.int .i64 p0] [] = f54 o p0 := by kernel_rfl
theorem cok54 (N : Nat) (hN : 4096 ≤ N) : CtxOk Try.prog (c54 ieee N) := by
  refine ctxOk ?_ ?_ mixed ?_
  · intro p hp; cases hp
  · intro p hp
    simp only [List.mem_cons, List.not_mem_nil, or_false] at hp
    subst hp; exact ok64 N hN
  · intro p hp; cases hp
noncomputable def m54_ok (o : FO) (p0 : Int) : Bool :=
  bif m64_ok o p0 then
    true
  else
    false
noncomputable def m54_0 (o : FO) (p0 : Int) : o.S :=
  o.sdiv (o.smul (m64_0 o p0) (m64_0 o p0)) (o.sadd (o.slit 1065353216) (o.smul (o.slit 1056964608) (m64_0 o p0)))
theorem val54 (o : FO) (p0 : Int) (h : m54_ok o p0 = true) : f54 o p0 = some (.f32 (m54_0 o p0), []) := by
  revert h
  unfold m54_ok f54 m54_0
  try dsimp only
  cases (m64_ok o p0)
  · intro h; exact absurd h Bool.false_ne_true
  · intro _; rfl

noncomputable def e54 (o : FO) : List (AV o) → Tr (AV o)
  | [.int .i64 p0] => .br (m54_ok o p0) (.leaf (.f32 (m54_0 o p0))) .fail
  | _ => .fail
theorem ok54 (N : Nat) (hN : 4096 ≤ N) : CalOk Try.prog 54 (.pure (e54 ieee)) := by
  refine calOk_pure (cok54 4096 (Nat.le_refl _)) (is54 4096) ?_
  intro args av hg
  unfold e54 at hg
  split at hg
  · obtain ⟨h0, hg⟩ := br_get hg
    cases hg
    exact ⟨rfl, rfl, _, (eq54 ieee 4096 _).trans (val54 ieee _ h0)⟩
  · cases hg

/-! loop.example/g01224/spec.FallOf -/
noncomputable def f18 (o : FO) (p0 : Int) : R o :=
  bif !(m53_0 o p0) then
    some (.tup [.f32 (o.slit 0), .int .i64 (2 : Int)], [])
  else
    gd (m54_ok o p0) (
    some (.tup [.f32 (m54_0 o p0), .int .i64 (0 : Int)], []))
noncomputable def c18 (o : FO) (N : Nat) : Cx o :=
  { ty := tab []
    fn := tab [(53, .pure (e53 o)), (54, .pure (e54 o))]
    rounds := 4096, nt := 9, base := 0
    loops := [] }
noncomputable def b18 : Code := match Try.f18.body with | some b => b | none => .skip
theorem is18 (N : Nat) : FnIs Try.prog (c18 ieee N) 18 Try.f18 b18 := ⟨by kernel_rfl, by kernel_rfl, by kernel_rfl, by kernel_rfl⟩
theorem eq18 (o : FO) (N : Nat) (p0 : Int) : afun (c18 o N) Try.f18.results.toList b18 [.int .i64 p0] [] = f18 o p0 := by kernel_rfl
theorem cok18 (N : Nat) (hN : 4096 ≤ N) : CtxOk Try.prog (c18 ieee N) := by
  refine ctxOk ?_ ?_ mixed ?_
  · intro p hp; cases hp
  · intro p hp
    simp only [List.mem_cons, List.not_mem_nil, or_false] at hp
    rcases hp with rfl | rfl
    · exact ok53 N hN
    · exact ok54 N hN
  · intro p hp; cases hp
noncomputable def m18_ok (o : FO) (p0 : Int) : Bool :=
  bif m53_0 o p0 then
    bif m54_ok o p0 then
      true
    else
      false
  else
    true
noncomputable def m18_0 (o : FO) (p0 : Int) : o.S :=
  bif m53_0 o p0 then
    m54_0 o p0
  else
    (o.slit 0)
noncomputable def m18_1 (o : FO) (p0 : Int) : Int :=
  bif m53_0 o p0 then
    (0 : Int)
  else
    (2 : Int)
theorem val18 (o : FO) (p0 : Int) (h : m18_ok o p0 = true) : f18 o p0 = some (.tup [.f32 (m18_0 o p0), .int .i64 (m18_1 o p0)], []) := by
  revert h
  unfold m18_ok f18 m18_0 m18_1
  try dsimp only
  cases (m53_0 o p0)
  · intro _; rfl
  · cases (m54_ok o p0)
    · intro h; exact absurd h Bool.false_ne_true
    · intro _; rfl

noncomputable def e18 (o : FO) : List (AV o) → Tr (AV o)
  | [.int .i64 p0] => .br (m18_ok o p0) (.leaf (.tup [.f32 (m18_0 o p0), .int .i64 (m18_1 o p0)])) .fail
  | _ => .fail
theorem ok18 (N : Nat) (hN : 4096 ≤ N) : CalOk Try.prog 18 (.pure (e18 ieee)) := by
  refine calOk_pure (cok18 4096 (Nat.le_refl _)) (is18 4096) ?_
  intro args av hg
  unfold e18 at hg
  split at hg
  · obtain ⟨h0, hg⟩ := br_get hg
    cases hg
    exact ⟨rfl, rfl, _, (eq18 ieee 4096 _).trans (val18 ieee _ h0)⟩
  · cases hg

/-! loop.example/g01224/impl.within -/
noncomputable def f84 (o : FO) (p0 : Int) (p1 : Int) (p2 : Int) : R o :=
  bif decide (p0 ≥ p1) then
    bif decide (p0 ≤ p2) then
      some (.bool true, [])
    else
      some (.bool false, [])
  else
    some (.bool false, [])
noncomputable def c84 (o : FO) (N : Nat) : Cx o :=
  { ty := tab []
    fn := tab []
    rounds := 4096, nt := 15, base := 0
    loops := [] }
noncomputable def b84 : Code := match Try.f84.body with | some b => b | none => .skip
theorem is84 (N : Nat) : FnIs Try.prog (c84 ieee N) 84 Try.f84 b84 := ⟨by kernel_rfl, by kernel_rfl, by kernel_rfl, by kernel_rfl⟩
theorem eq84 (o : FO) (N : Nat) (p0 : Int) (p1 : Int) (p2 : Int) : afun (c84 o N) Try.f84.results.toList b84 [.int .i64 p0, .int .i64 p1, .int .i64 p2] [] = f84 o p0 p1 p2 := by kernel_rfl
theorem cok84 (N : Nat) (hN : 4096 ≤ N) : CtxOk Try.prog (c84 ieee N) := by
  refine ctxOk ?_ ?_ mixed ?_
  · intro p hp; cases hp
  · intro p hp; cases hp
  · intro p hp; cases hp
noncomputable def m84_0 (o : FO) (p0 : Int) (p1 : Int) (p2 : Int) : Bool :=
  bif decide (p0 ≥ p1) then
    decide (p0 ≤ p2)
  else
    false
theorem val84 (o : FO) (p0 : Int) (p1 : Int) (p2 : Int) : f84 o p0 p1 p2 = some (.bool (m84_0 o p0 p1 p2), []) := by
  unfold f84 m84_0
  try dsimp only
  cases (decide (p0 ≥ p1))
  · rfl
  · cases (decide (p0 ≤ p2))
    · rfl
    · rfl

noncomputable def e84 (o : FO) : List (AV o) → Tr (AV o)
  | [.int .i64 p0, .int .i64 p1, .int .i64 p2] => .leaf (.bool (m84_0 o p0 p1 p2))
  | _ => .fail
theorem ok84 (N : Nat) (hN : 4096 ≤ N) : CalOk Try.prog 84 (.pure (e84 ieee)) := by
  refine calOk_pure (cok84 4096 (Nat.le_refl _)) (is84 4096) ?_
  intro args av hg
  unfold e84 at hg
  split at hg
  · cases hg
    exact ⟨rfl, rfl, _, (eq84 ieee 4096 _ _ _).trans (val84 ieee _ _ _)⟩
  · cases hg

/-! loop.example/g01224/impl.isClass -/
noncomputable def f55 (o : FO) (p0 : Int) : R o :=
  some (.bool (m84_0 o p0 (0 : Int) (19 : Int)), [])
noncomputable def c55 (o : FO) (N : Nat) : Cx o :=
  { ty := tab []
    fn := tab [(84, .pure (e84 o))]
    rounds := 4096, nt := 5, base := 0
    loops := [] }
noncomputable def b55 : Code := match Try.f55.body with | some b => b | none => .skip
theorem is55 (N : Nat) : FnIs Try.prog (c55 ieee N) 55 Try.f55 b55 := ⟨by kernel_rfl, by kernel_rfl, by kernel_rfl, by kernel_rfl⟩
theorem eq55 (o : FO) (N : Nat) (p0 : Int) : afun (c55 o N) Try.f55.results.toList b55 [.int .i64 p0] [] = f55 o p0 := by kernel_rfl
theorem cok55 (N : Nat) (hN : 4096 ≤ N) : CtxOk Try.prog (c55 ieee N) := by
  refine ctxOk ?_ ?_ mixed ?_
  · intro p hp; cases hp
  · intro p hp
    simp only [List.mem_cons, List.not_mem_nil, or_false] at hp
    subst hp; exact ok84 N hN
  · intro p hp; cases hp
noncomputable def m55_0 (o : FO) (p0 : Int) : Bool :=
  m84_0 o p0 (0 : Int) (19 : Int)
theorem val55 (o : FO) (p0 : Int) : f55 o p0 = some (.bool (m55_0 o p0), []) := by
  unfold f55 m55_0
  rfl

noncomputable def e55 (o : FO) : List (AV o) → Tr (AV o)
  | [.int .i64 p0] => .leaf (.bool (m55_0 o p0))
  | _ => .fail
theorem ok55 (N : Nat) (hN : 4096 ≤ N) : CalOk Try.prog 55 (.pure (e55 ieee)) := by
  refine calOk_pure (cok55 4096 (Nat.le_refl _)) (is55 4096) ?_
  intro args av hg
  unfold e55 at hg
  split at hg
  · cases hg
    exact ⟨rfl, rfl, _, (eq55 ieee 4096 _).trans (val55 ieee _)⟩
  · cases hg

/-! loop.example/g01224/impl.mass -/
noncomputable def f62 (o : FO) (p0 : Int) : R o :=
  gd (decide (0 ≤ p0)) (
  some (.f32 (o.sofi (IntKind.wrap .i64 ((1 : Int) * 2 ^ (min (p0).toNat (IntKind.bits .i64))))), []))
noncomputable def c62 (o : FO) (N : Nat) : Cx o :=
  { ty := tab [(2, ty2 o), (33, ty33 o)]
    fn := tab []
    rounds := 4096, nt := 6, base := 0
    loops := [] }
noncomputable def b62 : Code := match Try.f62.body with | some b => b | none => .skip
theorem is62 (N : Nat) : FnIs Try.prog (c62 ieee N) 62 Try.f62 b62 := ⟨by kernel_rfl, by kernel_rfl, by kernel_rfl, by kernel_rfl⟩
theorem eq62 (o : FO) (N : Nat) (p0 : Int) : afun (c62 o N) Try.f62.results.toList b62 [.int .i64 p0] [] = f62 o p0 := by kernel_rfl
theorem cok62 (N : Nat) (hN : 4096 ≤ N) : CtxOk Try.prog (c62 ieee N) := by
  refine ctxOk ?_ ?_ mixed ?_
  · intro p hp
    simp only [List.mem_cons, List.not_mem_nil, or_false] at hp
    rcases hp with rfl | rfl
    · exact tyOk2
    · exact tyOk33
  · intro p hp; cases hp
  · intro p hp; cases hp
noncomputable def m62_ok (o : FO) (p0 : Int) : Bool :=
  bif decide (0 ≤ p0) then
    true
  else
    false
noncomputable def m62_0 (o : FO) (p0 : Int) : o.S :=
  o.sofi (IntKind.wrap .i64 ((1 : Int) * 2 ^ (min (p0).toNat (IntKind.bits .i64))))
theorem val62 (o : FO) (p0 : Int) (h : m62_ok o p0 = true) : f62 o p0 = some (.f32 (m62_0 o p0), []) := by
  revert h
  unfold m62_ok f62 m62_0
  try dsimp only
  cases (decide (0 ≤ p0))
  · intro h; exact absurd h Bool.false_ne_true
  · intro _; rfl

noncomputable def e62 (o : FO) : List (AV o) → Tr (AV o)
  | [.int .i64 p0] => .br (m62_ok o p0) (.leaf (.f32 (m62_0 o p0))) .fail
  | _ => .fail
theorem ok62 (N : Nat) (hN : 4096 ≤ N) : CalOk Try.prog 62 (.pure (e62 ieee)) := by
  refine calOk_pure (cok62 4096 (Nat.le_refl _)) (is62 4096) ?_
  intro args av hg
  unfold e62 at hg
  split at hg
  · obtain ⟨h0, hg⟩ := br_get hg
    cases hg
    exact ⟨rfl, rfl, _, (eq62 ieee 4096 _).trans (val62 ieee _ h0)⟩
  · cases hg

/-! loop.example/g01224/impl.thirdRoot -/
noncomputable def f92_L2 (o : FO) (N : Nat) (s0 : (o.D × o.D × o.D) → R o) (s1 : (o.D × o.D × o.D) → R o) (s2 : o.D × o.D × o.D × Int → R o) (a : o.D × o.D × o.D × Int) : R o :=
  bif decide (a.2.2.2 < (6 : Int)) then
    s2 (a.1, a.2.1, o.dsub a.2.2.1 (o.ddiv (o.dsub (o.dmul (o.dmul a.2.2.1 a.2.2.1) a.2.2.1) a.1) (o.dmul (o.dmul (o.dlit 4613937818241073152) a.2.2.1) a.2.2.1)), IntKind.wrap .i64 (a.2.2.2 + (1 : Int)))
  else
    gd (o.d2sOk (o.dmul a.2.2.1 a.2.1)) (
    some (.f32 (o.d2s (o.dmul a.2.2.1 a.2.1)), []))
noncomputable def f92_D2 (o : FO) (vs : List (AV o)) (h : Heap o) : Option (o.D × o.D × o.D × Int) :=
  match vs, h with
  | [.f64 a2_0, .f64 a2_1, .f64 a2_2, .int .i64 a2_3], [] => some (a2_0, a2_1, a2_2, a2_3)
  | _, _ => none
noncomputable def f92_E2 (o : FO) (a : o.D × o.D × o.D × Int) : List (AV o) × Heap o := ([.f64 a.1, .f64 a.2.1, .f64 a.2.2.1, .int .i64 a.2.2.2], [])
theorem f92_DE2 (o : FO) : ∀ vs h a, f92_D2 o vs h = some a → f92_E2 o a = (vs, h) := by
  intro vs h a hx
  unfold f92_D2 at hx
  split at hx
  · cases hx; rfl
  · cases hx
noncomputable def f92_L1 (o : FO) (N : Nat) (s0 : (o.D × o.D × o.D) → R o) (s1 : o.D × o.D × o.D → R o) (a : o.D × o.D × o.D) : R o :=
  bif o.dlt a.1 (o.dlit 4607182418800017408) then
    s1 (o.dmul a.1 (o.dlit 4620693217682128896), o.ddiv a.2.1 (o.dlit 4611686018427387904), a.2.2)
  else
    iter (f92_L2 o N s0 s1) N (a.1, a.2.1, a.2.2, (0 : Int))
noncomputable def f92_D1 (o : FO) (vs : List (AV o)) (h : Heap o) : Option (o.D × o.D × o.D) :=
  match vs, h with
  | [.f64 a1_0, .f64 a1_1, .f64 a1_2], [] => some (a1_0, a1_1, a1_2)
  | _, _ => none
noncomputable def f92_E1 (o : FO) (a : o.D × o.D × o.D) : List (AV o) × Heap o := ([.f64 a.1, .f64 a.2.1, .f64 a.2.2], [])
theorem f92_DE1 (o : FO) : ∀ vs h a, f92_D1 o vs h = some a → f92_E1 o a = (vs, h) := by
  intro vs h a hx
  unfold f92_D1 at hx
  split at hx
  · cases hx; rfl
  · cases hx
noncomputable def f92_L0 (o : FO) (N : Nat) (s0 : o.D × o.D × o.D → R o) (a : o.D × o.D × o.D) : R o :=
  bif o.dle (o.dlit 4620693217682128896) a.1 then
    s0 (o.ddiv a.1 (o.dlit 4620693217682128896), o.dmul a.2.1 (o.dlit 4611686018427387904), a.2.2)
  else
    iter (f92_L1 o N s0) N (a.1, a.2.1, a.2.2)
noncomputable def f92_D0 (o : FO) (vs : List (AV o)) (h : Heap o) : Option (o.D × o.D × o.D) :=
  match vs, h with
  | [.f64 a0_0, .f64 a0_1, .f64 a0_2], [] => some (a0_0, a0_1, a0_2)
  | _, _ => none
noncomputable def f92_E0 (o : FO) (a : o.D × o.D × o.D) : List (AV o) × Heap o := ([.f64 a.1, .f64 a.2.1, .f64 a.2.2], [])
theorem f92_DE0 (o : FO) : ∀ vs h a, f92_D0 o vs h = some a → f92_E0 o a = (vs, h) := by
  intro vs h a hx
  unfold f92_D0 at hx
  split at hx
  · cases hx; rfl
  · cases hx
noncomputable def f92 (o : FO) (N : Nat) (p0 : o.S) : R o :=
  bif o.seq p0 (o.slit 0) then
    some (.f32 (o.slit 0), [])
  else
    iter (f92_L0 o N) N (o.s2d p0, (o.dlit 4607182418800017408), (o.dlit 4609434218613702656))
noncomputable def c92 (o : FO) (N : Nat) : Cx o :=
  { ty := tab [(33, ty33 o), (37, ty37 o)]
    fn := tab []
    rounds := N, nt := 47, base := 0
    loops := [loopD [3, 4, 5] (f92_D0 o) (f92_E0 o), loopD [3, 4, 5] (f92_D1 o) (f92_E1 o), loopD [3, 4, 5, 24] (f92_D2 o) (f92_E2 o)] }
noncomputable def b92 : Code := match Try.f92.body with | some b => b | none => .skip
theorem is92 (N : Nat) : FnIs Try.prog (c92 ieee N) 92 Try.f92 b92 := ⟨by kernel_rfl, by kernel_rfl, by kernel_rfl, by kernel_rfl⟩
theorem eq92 (o : FO) (N : Nat) (p0 : o.S) : afun (c92 o N) Try.f92.results.toList b92 [.f32 p0] [] = f92 o N p0 := by kernel_rfl
theorem cok92 (N : Nat) (hN : 4096 ≤ N) : CtxOk Try.prog (c92 ieee N) := by
  refine ctxOk ?_ ?_ mixed ?_
  · intro p hp
    simp only [List.mem_cons, List.not_mem_nil, or_false] at hp
    rcases hp with rfl | rfl
    · exact tyOk33
    · exact tyOk37
  · intro p hp; cases hp
  · intro p hp
    simp only [List.mem_cons, List.not_mem_nil, or_false] at hp
    rcases hp with rfl | rfl | rfl
    · exact loopD_ok _ _ _ (f92_DE0 ieee)
    · exact loopD_ok _ _ _ (f92_DE1 ieee)
    · exact loopD_ok _ _ _ (f92_DE2 ieee)
noncomputable def k92 (o : FO) : R o → Bool := fun r => match r with | some (.f32 _, _) => true | _ => false
theorem k92_c (o : FO) (b : Bool) (x y : R o) : k92 o (bif b then x else y) = bif b then k92 o x else k92 o y := by cases b <;> rfl
noncomputable def m92_ok (o : FO) (p0 : o.S) : Bool := k92 o (f92 o 4096 p0)
noncomputable def g92_0 (o : FO) : R o → o.S := fun r => match r with | some (.f32 r0, _) => r0 | _ => (o.slit 0)
theorem g92_0c (o : FO) (b : Bool) (x y : R o) : g92_0 o (bif b then x else y) = bif b then g92_0 o x else g92_0 o y := by cases b <;> rfl
noncomputable def m92_0 (o : FO) (p0 : o.S) : o.S := g92_0 o (f92 o 4096 p0)
noncomputable def m92_h (o : FO) (p0 : o.S) : Heap o := match f92 o 4096 p0 with | some (_, h) => h | _ => []
theorem val92 (o : FO) (p0 : o.S) (h : m92_ok o p0 = true) : f92 o 4096 p0 = some (.f32 (m92_0 o p0), m92_h o p0) := by
  unfold m92_ok k92 at h
  unfold m92_0 g92_0 m92_h
  generalize f92 o 4096 p0 = r at h ⊢
  split at h
  · rfl
  · cases h

noncomputable def e92 (o : FO) : List (AV o) → Tr (AV o)
  | [.f32 p0] => .br (m92_ok o p0) (.leaf (.f32 (m92_0 o p0))) .fail
  | _ => .fail
theorem ok92 (N : Nat) (hN : 4096 ≤ N) : CalOk Try.prog 92 (.pure (e92 ieee)) := by
  refine calOk_pure (cok92 4096 (Nat.le_refl _)) (is92 4096) ?_
  intro args av hg
  unfold e92 at hg
  split at hg
  · obtain ⟨h0, hg⟩ := br_get hg
    cases hg
    exact ⟨rfl, rfl, _, (eq92 ieee 4096 _).trans (val92 ieee _ h0)⟩
  · cases hg

/-! loop.example/g01224/impl.radius -/
noncomputable def f66 (o : FO) (p0 : Int) : R o :=
  gd (m62_ok o p0) (
  gd (m92_ok o (m62_0 o p0)) (
  some (.f32 (m92_0 o (m62_0 o p0)), [])))
noncomputable def c66 (o : FO) (N : Nat) : Cx o :=
  { ty := tab []
    fn := tab [(62, .pure (e62 o)), (92, .pure (e92 o))]
    rounds := 4096, nt := 6, base := 0
    loops := [] }
noncomputable def b66 : Code := match Try.f66.body with | some b => b | none => .skip
theorem is66 (N : Nat) : FnIs Try.prog (c66 ieee N) 66 Try.f66 b66 := ⟨by kernel_rfl, by kernel_rfl, by kernel_rfl, by kernel_rfl⟩
theorem eq66 (o : FO) (N : Nat) (p0 : Int) : afun (c66 o N) Try.f66.results.toList b66 [.int .i64 p0] [] = f66 o p0 := by kernel_rfl
theorem cok66 (N : Nat) (hN : 4096 ≤ N) : CtxOk Try.prog (c66 ieee N) := by
  refine ctxOk ?_ ?_ mixed ?_
  · intro p hp; cases hp
  · intro p hp
    simp only [List.mem_cons, List.not_mem_nil, or_false] at hp
    rcases hp with rfl | rfl
    · exact ok62 N hN
    · exact ok92 N hN
  · intro p hp; cases hp
noncomputable def m66_ok (o : FO) (p0 : Int) : Bool :=
  bif m62_ok o p0 then
    bif m92_ok o (m62_0 o p0) then
      true
    else
      false
  else
    false
noncomputable def m66_0 (o : FO) (p0 : Int) : o.S :=
  m92_0 o (m62_0 o p0)
theorem val66 (o : FO) (p0 : Int) (h : m66_ok o p0 = true) : f66 o p0 = some (.f32 (m66_0 o p0), []) := by
  revert h
  unfold m66_ok f66 m66_0
  try dsimp only
  cases (m62_ok o p0)
  · intro h; exact absurd h Bool.false_ne_true
  · cases (m92_ok o (m62_0 o p0))
    · intro h; exact absurd h Bool.false_ne_true
    · intro _; rfl

noncomputable def e66 (o : FO) : List (AV o) → Tr (AV o)
  | [.int .i64 p0] => .br (m66_ok o p0) (.leaf (.f32 (m66_0 o p0))) .fail
  | _ => .fail
theorem ok66 (N : Nat) (hN : 4096 ≤ N) : CalOk Try.prog 66 (.pure (e66 ieee)) := by
  refine calOk_pure (cok66 4096 (Nat.le_refl _)) (is66 4096) ?_
  intro args av hg
  unfold e66 at hg
  split at hg
  · obtain ⟨h0, hg⟩ := br_get hg
    cases hg
    exact ⟨rfl, rfl, _, (eq66 ieee 4096 _).trans (val66 ieee _ h0)⟩
  · cases hg

/-! loop.example/g01224/impl.fall -/
noncomputable def f56 (o : FO) (p0 : Int) : R o :=
  gd (m66_ok o p0) (
  some (.f32 (o.sdiv (o.smul (m66_0 o p0) (m66_0 o p0)) (o.sadd (o.slit 1065353216) (o.smul (o.slit 1056964608) (m66_0 o p0)))), []))
noncomputable def c56 (o : FO) (N : Nat) : Cx o :=
  { ty := tab []
    fn := tab [(66, .pure (e66 o))]
    rounds := 4096, nt := 13, base := 0
    loops := [] }
noncomputable def b56 : Code := match Try.f56.body with | some b => b | none => .skip
theorem is56 (N : Nat) : FnIs Try.prog (c56 ieee N) 56 Try.f56 b56 := ⟨by kernel_rfl, by kernel_rfl, by kernel_rfl, by kernel_rfl⟩
theorem eq56 (o : FO) (N : Nat) (p0 : Int) : afun (c56 o N) Try.f56.results.toList b56 [.int .i64 p0] [] = f56 o p0 := by kernel_rfl
theorem cok56 (N : Nat) (hN : 4096 ≤ N) : CtxOk Try.prog (c56 ieee N) := by
  refine ctxOk ?_ ?_ mixed ?_
  · intro p hp; cases hp
  · intro p hp
    simp only [List.mem_cons, List.not_mem_nil, or_false] at hp
    subst hp; exact ok66 N hN
  · intro p hp; cases hp
noncomputable def m56_ok (o : FO) (p0 : Int) : Bool :=
  bif m66_ok o p0 then
    true
  else
    false
noncomputable def m56_0 (o : FO) (p0 : Int) : o.S :=
  o.sdiv (o.smul (m66_0 o p0) (m66_0 o p0)) (o.sadd (o.slit 1065353216) (o.smul (o.slit 1056964608) (m66_0 o p0)))
theorem val56 (o : FO) (p0 : Int) (h : m56_ok o p0 = true) : f56 o p0 = some (.f32 (m56_0 o p0), []) := by
  revert h
  unfold m56_ok f56 m56_0
  try dsimp only
  cases (m66_ok o p0)
  · intro h; exact absurd h Bool.false_ne_true
  · intro _; rfl

noncomputable def e56 (o : FO) : List (AV o) → Tr (AV o)
  | [.int .i64 p0] => .br (m56_ok o p0) (.leaf (.f32 (m56_0 o p0))) .fail
  | _ => .fail
theorem ok56 (N : Nat) (hN : 4096 ≤ N) : CalOk Try.prog 56 (.pure (e56 ieee)) := by
  refine calOk_pure (cok56 4096 (Nat.le_refl _)) (is56 4096) ?_
  intro args av hg
  unfold e56 at hg
  split at hg
  · obtain ⟨h0, hg⟩ := br_get hg
    cases hg
    exact ⟨rfl, rfl, _, (eq56 ieee 4096 _).trans (val56 ieee _ h0)⟩
  · cases hg

/-! loop.example/g01224/impl.FallOf -/
noncomputable def f19 (o : FO) (p0 : Int) : R o :=
  bif !(m55_0 o p0) then
    some (.tup [.f32 (o.slit 0), .int .i64 (2 : Int)], [])
  else
    gd (m56_ok o p0) (
    some (.tup [.f32 (m56_0 o p0), .int .i64 (0 : Int)], []))
noncomputable def c19 (o : FO) (N : Nat) : Cx o :=
  { ty := tab []
    fn := tab [(55, .pure (e55 o)), (56, .pure (e56 o))]
    rounds := 4096, nt := 9, base := 0
    loops := [] }
noncomputable def b19 : Code := match Try.f19.body with | some b => b | none => .skip
theorem is19 (N : Nat) : FnIs Try.prog (c19 ieee N) 19 Try.f19 b19 := ⟨by kernel_rfl, by kernel_rfl, by kernel_rfl, by kernel_rfl⟩
theorem eq19 (o : FO) (N : Nat) (p0 : Int) : afun (c19 o N) Try.f19.results.toList b19 [.int .i64 p0] [] = f19 o p0 := by kernel_rfl
theorem cok19 (N : Nat) (hN : 4096 ≤ N) : CtxOk Try.prog (c19 ieee N) := by
  refine ctxOk ?_ ?_ mixed ?_
  · intro p hp; cases hp
  · intro p hp
    simp only [List.mem_cons, List.not_mem_nil, or_false] at hp
    rcases hp with rfl | rfl
    · exact ok55 N hN
    · exact ok56 N hN
  · intro p hp; cases hp
noncomputable def m19_ok (o : FO) (p0 : Int) : Bool :=
  bif m55_0 o p0 then
    bif m56_ok o p0 then
      true
    else
      false
  else
    true
noncomputable def m19_0 (o : FO) (p0 : Int) : o.S :=
  bif m55_0 o p0 then
    m56_0 o p0
  else
    (o.slit 0)
noncomputable def m19_1 (o : FO) (p0 : Int) : Int :=
  bif m55_0 o p0 then
    (0 : Int)
  else
    (2 : Int)
theorem val19 (o : FO) (p0 : Int) (h : m19_ok o p0 = true) : f19 o p0 = some (.tup [.f32 (m19_0 o p0), .int .i64 (m19_1 o p0)], []) := by
  revert h
  unfold m19_ok f19 m19_0 m19_1
  try dsimp only
  cases (m55_0 o p0)
  · intro _; rfl
  · cases (m56_ok o p0)
    · intro h; exact absurd h Bool.false_ne_true
    · intro _; rfl

noncomputable def e19 (o : FO) : List (AV o) → Tr (AV o)
  | [.int .i64 p0] => .br (m19_ok o p0) (.leaf (.tup [.f32 (m19_0 o p0), .int .i64 (m19_1 o p0)])) .fail
  | _ => .fail
theorem ok19 (N : Nat) (hN : 4096 ≤ N) : CalOk Try.prog 19 (.pure (e19 ieee)) := by
  refine calOk_pure (cok19 4096 (Nat.le_refl _)) (is19 4096) ?_
  intro args av hg
  unfold e19 at hg
  split at hg
  · obtain ⟨h0, hg⟩ := br_get hg
    cases hg
    exact ⟨rfl, rfl, _, (eq19 ieee 4096 _).trans (val19 ieee _ h0)⟩
  · cases hg

/-! loop.example/g01224/laws.sameFloat -/
noncomputable def f20 (o : FO) (p0 : o.D) (p1 : o.D) : R o :=
  let v1 : Bool := !(o.deq p0 p0)
  bif v1 then
    bif v1 then
      bif !(o.deq p1 p1) then
        some (.bool true, [])
      else
        some (.bool false, [])
    else
      some (.bool false, [])
  else
    let v2 : Bool := !(o.deq p1 p1)
    bif v2 then
      bif v1 then
        bif v2 then
          some (.bool true, [])
        else
          some (.bool false, [])
      else
        some (.bool false, [])
    else
      bif o.deq p0 (o.dlit 0) then
        bif o.deq p1 (o.dlit 0) then
          some (.bool ((o.dlt (o.dlit 0) (o.ddiv (o.dlit 4607182418800017408) p0)) == (o.dlt (o.dlit 0) (o.ddiv (o.dlit 4607182418800017408) p1))), [])
        else
          some (.bool (o.deq p0 p1), [])
      else
        some (.bool (o.deq p0 p1), [])
noncomputable def c20 (o : FO) (N : Nat) : Cx o :=
  { ty := tab [(4, ty4 o)]
    fn := tab []
    rounds := 4096, nt := 37, base := 0
    loops := [] }
noncomputable def b20 : Code := match Try.f20.body with | some b => b | none => .skip
theorem is20 (N : Nat) : FnIs Try.prog (c20 ieee N) 20 Try.f20 b20 := ⟨by kernel_rfl, by kernel_rfl, by kernel_rfl, by kernel_rfl⟩
theorem eq20 (o : FO) (N : Nat) (p0 : o.D) (p1 : o.D) : afun (c20 o N) Try.f20.results.toList b20 [.f64 p0, .f64 p1] [] = f20 o p0 p1 := by kernel_rfl
theorem cok20 (N : Nat) (hN : 4096 ≤ N) : CtxOk Try.prog (c20 ieee N) := by
  refine ctxOk ?_ ?_ mixed ?_
  · intro p hp
    simp only [List.mem_cons, List.not_mem_nil, or_false] at hp
    subst hp; exact tyOk4
  · intro p hp; cases hp
  · intro p hp; cases hp
noncomputable def m20_0 (o : FO) (p0 : o.D) (p1 : o.D) : Bool :=
  bif o.deq p0 p0 then
    bif o.deq p1 p1 then
      bif o.deq p0 (o.dlit 0) then
        bif o.deq p1 (o.dlit 0) then
          (o.dlt (o.dlit 0) (o.ddiv (o.dlit 4607182418800017408) p0)) == (o.dlt (o.dlit 0) (o.ddiv (o.dlit 4607182418800017408) p1))
        else
          o.deq p0 p1
      else
        o.deq p0 p1
    else
      false
  else
    bif o.deq p1 p1 then
      false
    else
      true
theorem val20 (o : FO) (p0 : o.D) (p1 : o.D) : f20 o p0 p1 = some (.bool (m20_0 o p0 p1), []) := by
  unfold f20 m20_0
  try dsimp only
  cases (o.deq p0 p0)
  · cases (o.deq p1 p1)
    · rfl
    · rfl
  · cases (o.deq p1 p1)
    · rfl
    · cases (o.deq p0 (o.dlit 0))
      · rfl
      · cases (o.deq p1 (o.dlit 0))
        · rfl
        · rfl

noncomputable def e20 (o : FO) : List (AV o) → Tr (AV o)
  | [.f64 p0, .f64 p1] => .leaf (.bool (m20_0 o p0 p1))
  | _ => .fail
theorem ok20 (N : Nat) (hN : 4096 ≤ N) : CalOk Try.prog 20 (.pure (e20 ieee)) := by
  refine calOk_pure (cok20 4096 (Nat.le_refl _)) (is20 4096) ?_
  intro args av hg
  unfold e20 at hg
  split at hg
  · cases hg
    exact ⟨rfl, rfl, _, (eq20 ieee 4096 _ _).trans (val20 ieee _ _)⟩
  · cases hg

/-! loop.example/g01224/laws.FnExactFallOf -/
noncomputable def f4 (o : FO) (p0 : Int) : R o :=
  gd (m18_ok o p0) (
  gd (m19_ok o p0) (
  bif m20_0 o (o.s2d (m19_0 o p0)) (o.s2d (m18_0 o p0)) then
    bif (m19_1 o p0) != (m18_1 o p0) then
      some (.bool false, [])
    else
      some (.bool true, [])
  else
    some (.bool false, [])))
noncomputable def c4 (o : FO) (N : Nat) : Cx o :=
  { ty := tab [(33, ty33 o), (37, ty37 o)]
    fn := tab [(18, .pure (e18 o)), (19, .pure (e19 o)), (20, .pure (e20 o))]
    rounds := 4096, nt := 28, base := 0
    loops := [] }
noncomputable def b4 : Code := match Try.f4.body with | some b => b | none => .skip
theorem is4 (N : Nat) : FnIs Try.prog (c4 ieee N) 4 Try.f4 b4 := ⟨by kernel_rfl, by kernel_rfl, by kernel_rfl, by kernel_rfl⟩
theorem eq4 (o : FO) (N : Nat) (p0 : Int) : afun (c4 o N) Try.f4.results.toList b4 [.int .i64 p0] [] = f4 o p0 := by kernel_rfl
theorem cok4 (N : Nat) (hN : 4096 ≤ N) : CtxOk Try.prog (c4 ieee N) := by
  refine ctxOk ?_ ?_ mixed ?_
  · intro p hp
    simp only [List.mem_cons, List.not_mem_nil, or_false] at hp
    rcases hp with rfl | rfl
    · exact tyOk33
    · exact tyOk37
  · intro p hp
    simp only [List.mem_cons, List.not_mem_nil, or_false] at hp
    rcases hp with rfl | rfl | rfl
    · exact ok18 N hN
    · exact ok19 N hN
    · exact ok20 N hN
  · intro p hp; cases hp
noncomputable def m4_ok (o : FO) (p0 : Int) : Bool :=
  bif m18_ok o p0 then
    bif m19_ok o p0 then
      bif m20_0 o (o.s2d (m19_0 o p0)) (o.s2d (m18_0 o p0)) then
        true
      else
        true
    else
      false
  else
    false
noncomputable def m4_0 (o : FO) (p0 : Int) : Bool :=
  bif m20_0 o (o.s2d (m19_0 o p0)) (o.s2d (m18_0 o p0)) then
    bif (m19_1 o p0) != (m18_1 o p0) then
      false
    else
      true
  else
    false
theorem val4 (o : FO) (p0 : Int) (h : m4_ok o p0 = true) : f4 o p0 = some (.bool (m4_0 o p0), []) := by
  revert h
  unfold m4_ok f4 m4_0
  try dsimp only
  cases (m18_ok o p0)
  · intro h; exact absurd h Bool.false_ne_true
  · cases (m19_ok o p0)
    · intro h; exact absurd h Bool.false_ne_true
    · cases (m20_0 o (o.s2d (m19_0 o p0)) (o.s2d (m18_0 o p0)))
      · intro _; rfl
      · cases ((m19_1 o p0) != (m18_1 o p0))
        · intro _; rfl
        · intro _; rfl

noncomputable def e4 (o : FO) : List (AV o) → Tr (AV o)
  | [.int .i64 p0] => .br (m4_ok o p0) (.leaf (.bool (m4_0 o p0))) .fail
  | _ => .fail
theorem ok4 (N : Nat) (hN : 4096 ≤ N) : CalOk Try.prog 4 (.pure (e4 ieee)) := by
  refine calOk_pure (cok4 4096 (Nat.le_refl _)) (is4 4096) ?_
  intro args av hg
  unfold e4 at hg
  split at hg
  · obtain ⟨h0, hg⟩ := br_get hg
    cases hg
    exact ⟨rfl, rfl, _, (eq4 ieee 4096 _).trans (val4 ieee _ h0)⟩
  · cases hg

end Go.Proofs.Ytbmakfcooonogaa
