/- Own work: a part of the library under the claims of this seat. -/
/-
The soundness of the abstract machine's operations on numbers.
-/
import Derived.Test.YtihmppdnglfjnaaAbOps
import Derived.Laws.Cover3
namespace Go.Ab
open Go.RowKit

section
variable {P : Program} {γ : Gam}

/-- eqGuard is silent but at two nil interfaces and at two aggregates -/
theorem run_eqGuard {op : BinOp} {t : TypeId} {x y : Operand} {u v : Value} (hu : ∀ cs, u ≠ .agg cs) (hn : u ≠ .nilIface) (w : World) : (eqGuard op t x y u v).run P w = .ok () w := by
  unfold eqGuard
  cases u <;> first | exact (hn rfl).elim | exact (hu _ rfl).elim | (cases op <;> rfl)

theorem ibin_sound {op : BinOp} {q : IntKind} {m n : Int} {k : A → R ieee} {r : A × Heap ieee} (hs : isShift op = false) (h : ibin op q m n k = some r) (t : TypeId) (w : World) :
    ∃ av v, k av = some r ∧ (binOp op t (.int q m) (.int q n)).run P w = .ok v w ∧ VRel γ av v := by
  cases op <;> simp only [ibin] at h
  case add => exact ⟨_, _, h, by simp [binOp, Op.intArith], rfl⟩
  case sub => exact ⟨_, _, h, by simp [binOp, Op.intArith], rfl⟩
  case mul => exact ⟨_, _, h, by simp [binOp, Op.intArith], rfl⟩
  case quo =>
    obtain ⟨h1, h2⟩ := gd_some h
    have hz : ¬ n = 0 := by simpa using h1
    exact ⟨_, _, h2, by simp only [binOp, ne_eq, not_true_eq_false, if_false, Op.intDiv, hz]; rfl, rfl⟩
  case rem =>
    obtain ⟨h1, h2⟩ := gd_some h
    have hz : ¬ n = 0 := by simpa using h1
    exact ⟨_, _, h2, by simp only [binOp, ne_eq, not_true_eq_false, if_false, Op.intDiv, hz]; rfl, rfl⟩
  case and => exact ⟨_, _, h, by simp [binOp, Op.intBits, show ∀ a b, ieee.iand q a b = q.wrap ((BitVec.ofInt q.bits a &&& BitVec.ofInt q.bits b).toNat) from fun _ _ => rfl], rfl⟩
  case or => exact ⟨_, _, h, by simp [binOp, Op.intBits, show ∀ a b, ieee.ior q a b = q.wrap ((BitVec.ofInt q.bits a ||| BitVec.ofInt q.bits b).toNat) from fun _ _ => rfl], rfl⟩
  case xor => exact ⟨_, _, h, by simp [binOp, Op.intBits, show ∀ a b, ieee.ixor q a b = q.wrap ((BitVec.ofInt q.bits a ^^^ BitVec.ofInt q.bits b).toNat) from fun _ _ => rfl], rfl⟩
  case eql => exact ⟨_, _, h, by simp [binOp, Op.intCmp], rfl⟩
  case neq => exact ⟨_, _, h, by simp [binOp, Op.intCmp], rfl⟩
  case lss => exact ⟨_, _, h, by simp [binOp, Op.intCmp], rfl⟩
  case leq => exact ⟨_, _, h, by simp [binOp, Op.intCmp], rfl⟩
  case gtr => exact ⟨_, _, h, by simp [binOp, Op.intCmp], rfl⟩
  case geq => exact ⟨_, _, h, by simp [binOp, Op.intCmp], rfl⟩
  all_goals first | cases h | (cases hs)

theorem shf_sound {op : BinOp} {q q' : IntKind} {m n : Int} {k : A → R ieee} {r : A × Heap ieee} (h : shf op q m n k = some r) (t : TypeId) (w : World) :
    ∃ av v, k av = some r ∧ (binOp op t (.int q m) (.int q' n)).run P w = .ok v w ∧ VRel γ av v := by
  obtain ⟨h1, h2⟩ := gd_some h
  have hn : ¬ n < 0 := by have := of_decide_eq_true h1; omega
  cases op <;> simp only at h2
  case shl => exact ⟨_, _, h2, by simp only [binOp, Op.shift, hn, if_false]; rfl, rfl⟩
  case shr => exact ⟨_, _, h2, by simp only [binOp, Op.shift, hn, if_false]; rfl, rfl⟩
  all_goals cases h2

theorem sbin_sound {op : BinOp} {x y : ieee.S} {a b : Nat} (ha : can .f32 a = x.1) (hb : can .f32 b = y.1) {k : A → R ieee} {r : A × Heap ieee} (h : sbin op x y k = some r) (t : TypeId) (w : World) :
    ∃ av v w', k av = some r ∧ (binOp op t (.float .f32 a) (.float .f32 b)).run P w = .ok v w' ∧ VRel γ av v ∧ Drawn w w' := by
  have ar : ∀ (op' : BinOp) (res : Option Nat), (binOp op' t (.float .f32 a) (.float .f32 b) = Op.floatArith op' .f32 a b) →
      (op' = .add ∧ res = FloatKind.f32.format.add a b ∨ op' = .sub ∧ res = FloatKind.f32.format.sub a b ∨ op' = .mul ∧ res = FloatKind.f32.format.mul a b ∨ op' = .quo ∧ res = FloatKind.f32.format.div a b) →
      ∃ c w', (binOp op' t (.float .f32 a) (.float .f32 b)).run P w = .ok (.float .f32 c) w' ∧ can .f32 c = far .f32 res ∧ Drawn w w' := by
    intro op' res e hop
    rw [e]
    exact run_farith op' .f32 a b w res hop
  have cm : ∀ (op' : BinOp) (res : Bool), (binOp op' t (.float .f32 a) (.float .f32 b) = Op.floatCmp op' .f32 a b) →
      (op' = .eql ∧ res = (FloatKind.f32.format.order a b == some .eq) ∨ op' = .neq ∧ res = !(FloatKind.f32.format.order a b == some .eq) ∨ op' = .lss ∧ res = (FloatKind.f32.format.order a b == some .lt) ∨
      op' = .leq ∧ res = (FloatKind.f32.format.order a b == some .lt || FloatKind.f32.format.order a b == some .eq) ∨ op' = .gtr ∧ res = (FloatKind.f32.format.order b a == some .lt) ∨
      op' = .geq ∧ res = (FloatKind.f32.format.order b a == some .lt || FloatKind.f32.format.order b a == some .eq)) →
      (binOp op' t (.float .f32 a) (.float .f32 b)).run P w = .ok (.bool res) w := by
    intro op' res e hop
    rw [e]
    exact run_fcmp op' .f32 a b w res hop
  have o1 : Ieee.single.order x.1 y.1 = FloatKind.f32.format.order a b := by rw [← ha, ← hb]; exact order_can .f32 a b
  have o2 : Ieee.single.order y.1 x.1 = FloatKind.f32.format.order b a := by rw [← ha, ← hb]; exact order_can .f32 b a
  cases op <;> simp only [sbin] at h
  case add =>
    obtain ⟨c, w', h1, h2, h3⟩ := ar .add _ (by simp [binOp]) (.inl ⟨rfl, rfl⟩)
    exact ⟨_, _, w', h, h1, ⟨c, rfl, by rw [h2]; refine Eq.trans ?_ (toW_far (k := .f32) (r := Ieee.single.add x.1 y.1) ⟨_, rfl⟩).symm; rw [← ha, ← hb]; exact congrArg (far .f32) (add_can .f32 a b).symm⟩, h3⟩
  case sub =>
    obtain ⟨c, w', h1, h2, h3⟩ := ar .sub _ (by simp [binOp]) (.inr (.inl ⟨rfl, rfl⟩))
    exact ⟨_, _, w', h, h1, ⟨c, rfl, by rw [h2]; refine Eq.trans ?_ (toW_far (k := .f32) (r := Ieee.single.sub x.1 y.1) ⟨_, rfl⟩).symm; rw [← ha, ← hb]; exact congrArg (far .f32) (sub_can .f32 a b).symm⟩, h3⟩
  case mul =>
    obtain ⟨c, w', h1, h2, h3⟩ := ar .mul _ (by simp [binOp]) (.inr (.inr (.inl ⟨rfl, rfl⟩)))
    exact ⟨_, _, w', h, h1, ⟨c, rfl, by rw [h2]; refine Eq.trans ?_ (toW_far (k := .f32) (r := Ieee.single.mul x.1 y.1) ⟨_, rfl⟩).symm; rw [← ha, ← hb]; exact congrArg (far .f32) (mul_can .f32 a b).symm⟩, h3⟩
  case quo =>
    obtain ⟨c, w', h1, h2, h3⟩ := ar .quo _ (by simp [binOp]) (.inr (.inr (.inr ⟨rfl, rfl⟩)))
    exact ⟨_, _, w', h, h1, ⟨c, rfl, by rw [h2]; refine Eq.trans ?_ (toW_far (k := .f32) (r := Ieee.single.div x.1 y.1) ⟨_, rfl⟩).symm; rw [← ha, ← hb]; exact congrArg (far .f32) (div_can .f32 a b).symm⟩, h3⟩
  case eql => exact ⟨_, _, w, h, cm .eql _ (by simp [binOp]) (.inl ⟨rfl, rfl⟩), by rw [← o1]; rfl, Drawn.refl w⟩
  case neq => exact ⟨_, _, w, h, cm .neq _ (by simp [binOp]) (.inr (.inl ⟨rfl, rfl⟩)), by rw [← o1]; rfl, Drawn.refl w⟩
  case lss => exact ⟨_, _, w, h, cm .lss _ (by simp [binOp]) (.inr (.inr (.inl ⟨rfl, rfl⟩))), by rw [← o1]; rfl, Drawn.refl w⟩
  case leq => exact ⟨_, _, w, h, cm .leq _ (by simp [binOp]) (.inr (.inr (.inr (.inl ⟨rfl, rfl⟩)))), by rw [← o1]; rfl, Drawn.refl w⟩
  case gtr => exact ⟨_, _, w, h, cm .gtr _ (by simp [binOp]) (.inr (.inr (.inr (.inr (.inl ⟨rfl, rfl⟩))))), by rw [← o2]; rfl, Drawn.refl w⟩
  case geq => exact ⟨_, _, w, h, cm .geq _ (by simp [binOp]) (.inr (.inr (.inr (.inr (.inr ⟨rfl, rfl⟩))))), by rw [← o2]; rfl, Drawn.refl w⟩
  all_goals cases h

theorem dbin_sound {op : BinOp} {x y : ieee.D} {a b : Nat} (ha : can .f64 a = x.1) (hb : can .f64 b = y.1) {k : A → R ieee} {r : A × Heap ieee} (h : dbin op x y k = some r) (t : TypeId) (w : World) :
    ∃ av v w', k av = some r ∧ (binOp op t (.float .f64 a) (.float .f64 b)).run P w = .ok v w' ∧ VRel γ av v ∧ Drawn w w' := by
  have ar : ∀ (op' : BinOp) (res : Option Nat), (binOp op' t (.float .f64 a) (.float .f64 b) = Op.floatArith op' .f64 a b) →
      (op' = .add ∧ res = FloatKind.f64.format.add a b ∨ op' = .sub ∧ res = FloatKind.f64.format.sub a b ∨ op' = .mul ∧ res = FloatKind.f64.format.mul a b ∨ op' = .quo ∧ res = FloatKind.f64.format.div a b) →
      ∃ c w', (binOp op' t (.float .f64 a) (.float .f64 b)).run P w = .ok (.float .f64 c) w' ∧ can .f64 c = far .f64 res ∧ Drawn w w' := by
    intro op' res e hop
    rw [e]
    exact run_farith op' .f64 a b w res hop
  have cm : ∀ (op' : BinOp) (res : Bool), (binOp op' t (.float .f64 a) (.float .f64 b) = Op.floatCmp op' .f64 a b) →
      (op' = .eql ∧ res = (FloatKind.f64.format.order a b == some .eq) ∨ op' = .neq ∧ res = !(FloatKind.f64.format.order a b == some .eq) ∨ op' = .lss ∧ res = (FloatKind.f64.format.order a b == some .lt) ∨
      op' = .leq ∧ res = (FloatKind.f64.format.order a b == some .lt || FloatKind.f64.format.order a b == some .eq) ∨ op' = .gtr ∧ res = (FloatKind.f64.format.order b a == some .lt) ∨
      op' = .geq ∧ res = (FloatKind.f64.format.order b a == some .lt || FloatKind.f64.format.order b a == some .eq)) →
      (binOp op' t (.float .f64 a) (.float .f64 b)).run P w = .ok (.bool res) w := by
    intro op' res e hop
    rw [e]
    exact run_fcmp op' .f64 a b w res hop
  have o1 : Ieee.double.order x.1 y.1 = FloatKind.f64.format.order a b := by rw [← ha, ← hb]; exact order_can .f64 a b
  have o2 : Ieee.double.order y.1 x.1 = FloatKind.f64.format.order b a := by rw [← ha, ← hb]; exact order_can .f64 b a
  cases op <;> simp only [dbin] at h
  case add =>
    obtain ⟨c, w', h1, h2, h3⟩ := ar .add _ (by simp [binOp]) (.inl ⟨rfl, rfl⟩)
    exact ⟨_, _, w', h, h1, ⟨c, rfl, by rw [h2]; refine Eq.trans ?_ (toW_far (k := .f64) (r := Ieee.double.add x.1 y.1) ⟨_, rfl⟩).symm; rw [← ha, ← hb]; exact congrArg (far .f64) (add_can .f64 a b).symm⟩, h3⟩
  case sub =>
    obtain ⟨c, w', h1, h2, h3⟩ := ar .sub _ (by simp [binOp]) (.inr (.inl ⟨rfl, rfl⟩))
    exact ⟨_, _, w', h, h1, ⟨c, rfl, by rw [h2]; refine Eq.trans ?_ (toW_far (k := .f64) (r := Ieee.double.sub x.1 y.1) ⟨_, rfl⟩).symm; rw [← ha, ← hb]; exact congrArg (far .f64) (sub_can .f64 a b).symm⟩, h3⟩
  case mul =>
    obtain ⟨c, w', h1, h2, h3⟩ := ar .mul _ (by simp [binOp]) (.inr (.inr (.inl ⟨rfl, rfl⟩)))
    exact ⟨_, _, w', h, h1, ⟨c, rfl, by rw [h2]; refine Eq.trans ?_ (toW_far (k := .f64) (r := Ieee.double.mul x.1 y.1) ⟨_, rfl⟩).symm; rw [← ha, ← hb]; exact congrArg (far .f64) (mul_can .f64 a b).symm⟩, h3⟩
  case quo =>
    obtain ⟨c, w', h1, h2, h3⟩ := ar .quo _ (by simp [binOp]) (.inr (.inr (.inr ⟨rfl, rfl⟩)))
    exact ⟨_, _, w', h, h1, ⟨c, rfl, by rw [h2]; refine Eq.trans ?_ (toW_far (k := .f64) (r := Ieee.double.div x.1 y.1) ⟨_, rfl⟩).symm; rw [← ha, ← hb]; exact congrArg (far .f64) (div_can .f64 a b).symm⟩, h3⟩
  case eql => exact ⟨_, _, w, h, cm .eql _ (by simp [binOp]) (.inl ⟨rfl, rfl⟩), by rw [← o1]; rfl, Drawn.refl w⟩
  case neq => exact ⟨_, _, w, h, cm .neq _ (by simp [binOp]) (.inr (.inl ⟨rfl, rfl⟩)), by rw [← o1]; rfl, Drawn.refl w⟩
  case lss => exact ⟨_, _, w, h, cm .lss _ (by simp [binOp]) (.inr (.inr (.inl ⟨rfl, rfl⟩))), by rw [← o1]; rfl, Drawn.refl w⟩
  case leq => exact ⟨_, _, w, h, cm .leq _ (by simp [binOp]) (.inr (.inr (.inr (.inl ⟨rfl, rfl⟩)))), by rw [← o1]; rfl, Drawn.refl w⟩
  case gtr => exact ⟨_, _, w, h, cm .gtr _ (by simp [binOp]) (.inr (.inr (.inr (.inr (.inl ⟨rfl, rfl⟩))))), by rw [← o2]; rfl, Drawn.refl w⟩
  case geq => exact ⟨_, _, w, h, cm .geq _ (by simp [binOp]) (.inr (.inr (.inr (.inr (.inr ⟨rfl, rfl⟩))))), by rw [← o2]; rfl, Drawn.refl w⟩
  all_goals cases h

theorem bool_equal (t : TypeId) (h : P.underlying t = some .bool) (a b : Bool) (w : World) : (Op.equal t (.bool a) (.bool b)).run P w = .ok (a == b) w := run_equal_bool w t a b h

/-- both operands as they are -/
theorem abin_sound {op : BinOp} {t : TypeId} {x y : A} {vx vy : Value} (hx : VRel γ x vx) (hy : VRel γ y vy) {k : A → R ieee} {r : A × Heap ieee} (h : abin op x y k = some r)
    (hbool : ∀ b, x = .bool b → P.underlying t = some .bool) (hslice : (∃ b i n es, x = .slice b i n es) ∨ x = .nilslice → ∃ el, P.underlying t = some (.slice el)) (ox oy : Operand) (w : World) :
    ∃ av v w', k av = some r ∧ (do eqGuard op t ox oy vx vy; binOp op t vx vy : Sem Value).run P w = .ok v w' ∧ VRel γ av v ∧ Drawn w w' := by
  unfold abin at h
  split at h
  · rename_i q m q' n
    have e1 : vx = .int q m := hx
    have e2 : vy = .int q' n := hy
    subst e1; subst e2
    have hg := run_eqGuard (P := P) (op := op) (t := t) (x := ox) (y := oy) (u := .int q m) (v := .int q' n) (by intro cs hc; cases hc) (by intro hc; cases hc) w
    cases hs : isShift op with
    | true =>
      rw [hs] at h
      obtain ⟨av, v, h1, h2, h3⟩ := shf_sound (γ := γ) (P := P) (q' := q') h t w
      exact ⟨av, v, w, h1, by rw [Sem.run_bind, hg, Result.andThen_ok]; exact h2, h3, Drawn.refl w⟩
    | false =>
      rw [hs] at h
      obtain ⟨hk, h'⟩ := gd_some h
      have hk' : q = q' := of_decide_eq_true hk
      subst hk'
      obtain ⟨av, v, h1, h2, h3⟩ := ibin_sound (γ := γ) (P := P) hs h' t w
      exact ⟨av, v, w, h1, by rw [Sem.run_bind, hg, Result.andThen_ok]; exact h2, h3, Drawn.refl w⟩
  · obtain ⟨a, rfl, ha⟩ := hx
    obtain ⟨b, rfl, hb⟩ := hy
    have hg := run_eqGuard (P := P) (op := op) (t := t) (x := ox) (y := oy) (u := .float .f32 a) (v := .float .f32 b) (by intro cs hc; cases hc) (by intro hc; cases hc) w
    obtain ⟨av, v, w', h1, h2, h3, h4⟩ := sbin_sound (γ := γ) (P := P) ha hb h t w
    exact ⟨av, v, w', h1, by rw [Sem.run_bind, hg, Result.andThen_ok]; exact h2, h3, h4⟩
  · obtain ⟨a, rfl, ha⟩ := hx
    obtain ⟨b, rfl, hb⟩ := hy
    have hg := run_eqGuard (P := P) (op := op) (t := t) (x := ox) (y := oy) (u := .float .f64 a) (v := .float .f64 b) (by intro cs hc; cases hc) (by intro hc; cases hc) w
    obtain ⟨av, v, w', h1, h2, h3, h4⟩ := dbin_sound (γ := γ) (P := P) ha hb h t w
    exact ⟨av, v, w', h1, by rw [Sem.run_bind, hg, Result.andThen_ok]; exact h2, h3, h4⟩
  · rename_i a b
    have e1 : vx = .bool a := hx
    have e2 : vy = .bool b := hy
    subst e1; subst e2
    have ht := hbool a rfl
    have hg := run_eqGuard (P := P) (op := op) (t := t) (x := ox) (y := oy) (u := .bool a) (v := .bool b) (by intro cs hc; cases hc) (by intro hc; cases hc) w
    cases op <;> simp only [bbin] at h
    case eql => exact ⟨_, _, w, h, by rw [Sem.run_bind, hg, Result.andThen_ok]; simp only [binOp, Sem.run_bind, bool_equal t ht, Result.andThen_ok, Sem.run_pure], rfl, Drawn.refl w⟩
    case neq => exact ⟨_, _, w, h, by rw [Sem.run_bind, hg, Result.andThen_ok]; simp only [binOp, Sem.run_bind, bool_equal t ht, Result.andThen_ok, Sem.run_pure], rfl, Drawn.refl w⟩
    all_goals cases h
  · rename_i a b
    have e1 : vx = .string a := hx
    have e2 : vy = .string b := hy
    subst e1; subst e2
    have hg := run_eqGuard (P := P) (op := op) (t := t) (x := ox) (y := oy) (u := .string a) (v := .string b) (by intro cs hc; cases hc) (by intro hc; cases hc) w
    cases op <;> simp only [strbin] at h
    case add =>
      obtain ⟨h1, h2⟩ := gd_some h
      have hle := Nat.le_of_ble_eq_true h1
      have hmax : IntKind.i64.max = 9223372036854775807 := by decide
      have hno : ¬ (((a.size + b.size : Nat) : Int) > IntKind.i64.max) := by rw [hmax]; omega
      exact ⟨_, _, w, h2, by rw [Sem.run_bind, hg, Result.andThen_ok]; simp only [binOp, Op.stringOp, hno, if_false]; rfl, rfl, Drawn.refl w⟩
    case eql => exact ⟨_, _, w, h, by rw [Sem.run_bind, hg, Result.andThen_ok]; rfl, rfl, Drawn.refl w⟩
    case neq => exact ⟨_, _, w, h, by rw [Sem.run_bind, hg, Result.andThen_ok]; rfl, rfl, Drawn.refl w⟩
    all_goals cases h
  · rename_i b i n es
    obtain ⟨el, hu⟩ := hslice (.inl ⟨_, _, _, _, rfl⟩)
    obtain ⟨rf, co, cap, hg0, rfl, _⟩ := hx
    have e2 : vy = .slice none 0 0 := hy
    subst e2
    have hg := run_eqGuard (P := P) (op := op) (t := t) (x := ox) (y := oy) (u := .slice (some ⟨rf.block, co, none⟩) n cap) (v := .slice none 0 0) (by intro cs hc; cases hc) (by intro hc; cases hc) w
    cases op <;> simp only [nilbin] at h
    case eql => exact ⟨_, _, w, h, by rw [Sem.run_bind, hg, Result.andThen_ok]; simp only [binOp, Sem.run_bind, run_equal_slice_nil w t el _ _ _ hu, Result.andThen_ok, Sem.run_pure]; rfl, rfl, Drawn.refl w⟩
    case neq => exact ⟨_, _, w, h, by rw [Sem.run_bind, hg, Result.andThen_ok]; simp only [binOp, Sem.run_bind, run_equal_slice_nil w t el _ _ _ hu, Result.andThen_ok, Sem.run_pure]; rfl, rfl, Drawn.refl w⟩
    all_goals cases h
  · obtain ⟨el, hu⟩ := hslice (.inr rfl)
    have e1 : vx = .slice none 0 0 := hx
    have e2 : vy = .slice none 0 0 := hy
    subst e1; subst e2
    have hg := run_eqGuard (P := P) (op := op) (t := t) (x := ox) (y := oy) (u := .slice none 0 0) (v := .slice none 0 0) (by intro cs hc; cases hc) (by intro hc; cases hc) w
    cases op <;> simp only [nilbin] at h
    case eql => exact ⟨_, _, w, h, by rw [Sem.run_bind, hg, Result.andThen_ok]; simp only [binOp, Sem.run_bind, run_equal_slice_nil w t el _ _ _ hu, Result.andThen_ok, Sem.run_pure]; rfl, rfl, Drawn.refl w⟩
    case neq => exact ⟨_, _, w, h, by rw [Sem.run_bind, hg, Result.andThen_ok]; simp only [binOp, Sem.run_bind, run_equal_slice_nil w t el _ _ _ hu, Result.andThen_ok, Sem.run_pure]; rfl, rfl, Drawn.refl w⟩
    all_goals cases h
  · cases h

theorem aun_sound {op : UnOp} {x : A} {vx : Value} (hx : VRel γ x vx) {k : A → R ieee} {r : A × Heap ieee} (h : aun op x k = some r) (w : World) :
    ∃ av v, k av = some r ∧ (Op.unary op vx).run P w = .ok v w ∧ VRel γ av v := by
  unfold aun at h
  split at h
  · have e : vx = .bool _ := hx
    subst e
    exact ⟨_, _, h, rfl, rfl⟩
  · have e : vx = .int _ _ := hx
    subst e
    exact ⟨_, _, h, rfl, rfl⟩
  · obtain ⟨a, rfl, ha⟩ := hx
    refine ⟨_, _, h, rfl, _, rfl, ?_⟩
    refine Eq.trans ?_ (toW_neg _).symm
    rw [← ha]; exact (can_neg .f32 a).symm
  · obtain ⟨a, rfl, ha⟩ := hx
    refine ⟨_, _, h, rfl, _, rfl, ?_⟩
    refine Eq.trans ?_ (toW_neg _).symm
    rw [← ha]; exact (can_neg .f64 a).symm
  · cases h

end
end Go.Ab
