/- Own work: a part of the library under the claims of this seat. -/
/-
The soundness of calls, and of one step of a region.
-/
import Derived.Test.YtihmppdnglfjnaaAbExec3
namespace Go.Ab
open Go.RowKit

section
variable {P : Program} {c : Cx ieee}

theorem run_some {α β : Type} {t : Tr α} {k : α → Option β} {r : β} (h : t.run k = some r) : ∃ a, t.get = some a ∧ k a = some r := by
  rw [Tr.run_eq] at h
  cases hg : t.get with
  | none => rw [hg] at h; cases h
  | some a => rw [hg] at h; exact ⟨a, rfl, h⟩

theorem call_sound (hc : CtxOk P c) {g : FuncId} {args : List A} {h : Heap ieee} {k : A → Heap ieee → R ieee} {r : A × Heap ieee} (hx : call c g args h k = some r)
    {γ : Gam} {vargs : Array Value} {w w0 : World} {S : Nat → Prop} (hi : Inv w0 S γ h w) (ha : L2 (VRel γ) args vargs.toList) :
    ∃ Q, Invoke P g vargs w Q ∧ ∀ v w', Q v w' → ∃ av h' γ', k av h' = some r ∧ Sub γ γ' ∧ VRel γ' av v ∧ Inv w0 S γ' h' w' := by
  unfold call at hx
  split at hx
  · cases hx
  · rename_i m hf
    obtain ⟨av, e1, e2⟩ := run_some hx
    exact ⟨_, hc.fn g _ hf args av e1 γ vargs w ha, fun v w' ⟨q1, q2⟩ => ⟨av, h, γ, e2, Sub.refl γ, q1.mono (Sub.nil γ), hi.ext q2⟩⟩
  · rename_i m hf
    obtain ⟨g1, g2⟩ := gd_some hx
    obtain ⟨hs, e1, e2, e3⟩ := subHeap_some g2
    obtain ⟨av, e4, e5⟩ := run_some e1
    have hn : (roots1 [] args).Nodup := nodup_roots1 List.nodup_nil
    have hsr := sub_hrel hi.hr hn e2 e3
    have har := args_ren ha g1
    exact ⟨_, hc.fn g _ hf _ hs av e4 _ vargs w hsr har, fun v w' ⟨q1, q2⟩ => ⟨av, h, γ, e5, Sub.refl γ, q1.mono (Sub.nil γ), hi.ext q2⟩⟩
  · rename_i m hf
    obtain ⟨g1, g2⟩ := gd_some hx
    obtain ⟨hs, e1, e2, e3⟩ := subHeap_some g2
    obtain ⟨⟨av, h'⟩, e4, e5⟩ := run_some e1
    have hn : (roots1 [] args).Nodup := nodup_roots1 List.nodup_nil
    have hsr := sub_hrel hi.hr hn e2 e3
    have har := args_ren ha g1
    refine ⟨_, hc.fn g _ hf _ hs av h' e4 _ vargs w hsr har, ?_⟩
    rintro v w' ⟨γ', q1, q2, q3⟩
    obtain ⟨b1, b2, b3⟩ := back_inv hi e2 e3 q1 q3
    exact ⟨_, _, _, e5, b2, q2.ren b3, b1⟩

theorem builtin_sound (hc : CtxOk P c) {b : Builtin} {ts : List TypeId} {args : List A} {h : Heap ieee} {k : A → Heap ieee → R ieee} {r : A × Heap ieee} (hx : builtin c b ts args h k = some r)
    {γ : Gam} {vargs : Array Value} {w w0 : World} {S : Nat → Prop} (hi : Inv w0 S γ h w) (ha : L2 (VRel γ) args vargs.toList) (type : TypeId) (consts : Array Bool) :
    ∃ av h' γ' v w', k av h' = some r ∧ Sub γ γ' ∧ VRel γ' av v ∧ Inv w0 S γ' h' w' ∧ (Go.builtin b ts.toArray type consts vargs).run P w = .ok (.value v) w' := by
  have one : ∀ x, args = [x] → ∃ v, vargs = #[v] ∧ VRel γ x v := by
    intro x hx
    subst hx
    obtain ⟨v, m, e1, e2, e3⟩ := ha.uncons
    have := e3.nil_iff
    subst this
    exact ⟨v, by apply Array.ext'; simpa using e1, e2⟩
  have two : ∀ x y, args = [x, y] → ∃ u v, vargs = #[u, v] ∧ VRel γ x u ∧ VRel γ y v := by
    intro x y hx
    subst hx
    obtain ⟨u, m, e1, e2, e3⟩ := ha.uncons
    obtain ⟨v, m', rfl, e4, e5⟩ := e3.uncons
    have := e5.nil_iff
    subst this
    exact ⟨u, v, by apply Array.ext'; simpa using e1, e2, e4⟩
  have out : ∀ {av : A} {v : Value} {w' : World}, k av h = some r → VRel γ av v → Drawn w w' → (Go.builtin b ts.toArray type consts vargs).run P w = .ok (.value v) w' →
      ∃ av h' γ' v w', k av h' = some r ∧ Sub γ γ' ∧ VRel γ' av v ∧ Inv w0 S γ' h' w' ∧ (Go.builtin b ts.toArray type consts vargs).run P w = .ok (.value v) w' :=
    fun h1 h2 h3 h4 => ⟨_, _, γ, _, _, h1, Sub.refl γ, h2, hi.drawn h3, h4⟩
  unfold builtin at hx
  split at hx
  · rename_i x
    obtain ⟨v, rfl, hv⟩ := one x rfl
    split at hx
    · rename_i t
      obtain ⟨ti, hti, h2⟩ := withTy_some hx
      have hkd := (hc.ty t ti hti).kind
      split at h2
      · rename_i el b' i' n es hk
        rw [hk] at hkd
        obtain ⟨rf, co, cap, hg, rfl, _⟩ := hv
        have hu : P.underlying t = some (.slice el) := hkd
        exact out h2 (v := .int .i64 n) rfl (Drawn.refl w) (by simp [Go.builtin, Builtin.len_, run_underlying hu, goInt])
      · rename_i el hk
        rw [hk] at hkd
        have e : v = .slice none 0 0 := hv
        subst e
        have hu : P.underlying t = some (.slice el) := hkd
        exact out h2 (v := .int .i64 0) rfl (Drawn.refl w) (by simp [Go.builtin, Builtin.len_, run_underlying hu, goInt])
      · rename_i s hk
        rw [hk] at hkd
        have e : v = .string s := hv
        subst e
        have hu : P.underlying t = some .string := hkd
        exact out h2 (v := .int .i64 s.size) rfl (Drawn.refl w) (by simp [Go.builtin, Builtin.len_, run_underlying hu, goInt])
      · rename_i n el hk
        rw [hk] at hkd
        have hu : P.underlying t = some (.array n el) := hkd
        exact out h2 (v := .int .i64 n) rfl (Drawn.refl w) (by simp [Go.builtin, Builtin.len_, run_underlying hu, goInt])
      · cases h2
    · cases hx
  · rename_i x y
    obtain ⟨u, v, rfl, ⟨a, rfl, ha'⟩, ⟨b, rfl, hb'⟩⟩ := two _ _ rfl
    obtain ⟨c', w', e1, e2, e3⟩ := run_fmin (P := P) .f32 a b w
    exact out hx (v := .float .f32 c') ⟨c', rfl, by rw [e2, ha', hb']; exact (toW_fmin _ _).symm⟩ e3 (by simp [Go.builtin, Builtin.min_, e1])
  · rename_i x y
    obtain ⟨u, v, rfl, ⟨a, rfl, ha'⟩, ⟨b, rfl, hb'⟩⟩ := two _ _ rfl
    obtain ⟨c', w', e1, e2, e3⟩ := run_fmax (P := P) .f32 a b w
    exact out hx (v := .float .f32 c') ⟨c', rfl, by rw [e2, ha', hb']; exact (toW_fmax _ _).symm⟩ e3 (by simp [Go.builtin, Builtin.max_, e1])
  · rename_i q x q' y
    obtain ⟨g1, g2⟩ := gd_some hx
    obtain ⟨u, v, rfl, h1, h2⟩ := two _ _ rfl
    have e1 : u = .int q x := h1
    have e2 : v = .int q' y := h2
    subst e1; subst e2
    exact out g2 (v := .int q (if y < x then y else x)) rfl (Drawn.refl w) (by simp only [Go.builtin, Sem.run_bind, run_min_int2, Result.andThen_ok, Sem.run_pure])
  · rename_i q x q' y
    obtain ⟨g1, g2⟩ := gd_some hx
    obtain ⟨u, v, rfl, h1, h2⟩ := two _ _ rfl
    have e1 : u = .int q x := h1
    have e2 : v = .int q' y := h2
    subst e1; subst e2
    exact out g2 (v := .int q (if y > x then y else x)) rfl (Drawn.refl w) (by simp only [Go.builtin, Sem.run_bind, run_max_int2, Result.andThen_ok, Sem.run_pure])
  · rename_i x y
    obtain ⟨u, v, rfl, ⟨a, rfl, ha'⟩, ⟨b, rfl, hb'⟩⟩ := two _ _ rfl
    exact out hx (v := .complex .f32 a b) ⟨a, b, rfl, ha', hb'⟩ (Drawn.refl w) (by simp only [Go.builtin, Sem.run_bind, run_complex, Result.andThen_ok, Sem.run_pure])
  · rename_i x y
    obtain ⟨u, v, rfl, ⟨a, rfl, ha'⟩, ⟨b, rfl, hb'⟩⟩ := two _ _ rfl
    exact out hx (v := .complex .f64 a b) ⟨a, b, rfl, ha', hb'⟩ (Drawn.refl w) (by simp only [Go.builtin, Sem.run_bind, run_complex, Result.andThen_ok, Sem.run_pure])
  · rename_i x y
    obtain ⟨v, rfl, ⟨a, b, rfl, ha', hb'⟩⟩ := one _ rfl
    exact out hx (v := .float .f32 a) ⟨a, rfl, ha'⟩ (Drawn.refl w) (by simp only [Go.builtin, Sem.run_bind, run_real, Result.andThen_ok, Sem.run_pure])
  · rename_i x y
    obtain ⟨v, rfl, ⟨a, b, rfl, ha', hb'⟩⟩ := one _ rfl
    exact out hx (v := .float .f32 b) ⟨b, rfl, hb'⟩ (Drawn.refl w) (by simp only [Go.builtin, Sem.run_bind, run_imag, Result.andThen_ok, Sem.run_pure])
  · rename_i x y
    obtain ⟨v, rfl, ⟨a, b, rfl, ha', hb'⟩⟩ := one _ rfl
    exact out hx (v := .float .f64 a) ⟨a, rfl, ha'⟩ (Drawn.refl w) (by simp only [Go.builtin, Sem.run_bind, run_real, Result.andThen_ok, Sem.run_pure])
  · rename_i x y
    obtain ⟨v, rfl, ⟨a, b, rfl, ha', hb'⟩⟩ := one _ rfl
    exact out hx (v := .float .f64 b) ⟨b, rfl, hb'⟩ (Drawn.refl w) (by simp only [Go.builtin, Sem.run_bind, run_imag, Result.andThen_ok, Sem.run_pure])
  · cases hx

theorem builtin_append {ts : Array TypeId} {type : TypeId} {consts : Array Bool} {vargs : Array Value} {v : Value} {w w' : World} (h : (Builtin.append_ ts type vargs).run P w = .ok v w') : (Go.builtin .append ts type consts vargs).run P w = .ok (.value v) w' := by
  have e : Go.builtin .append ts type consts vargs = (do pure (.value (← Builtin.append_ ts type vargs))) := rfl
  rw [e]
  simp only [Sem.run_bind, h, Result.andThen_ok, Sem.run_pure]
theorem builtin_copy {ts : Array TypeId} {type : TypeId} {consts : Array Bool} {vargs : Array Value} {v : Value} {w w' : World} (h : (Builtin.copy_ ts type vargs).run P w = .ok v w') : (Go.builtin .copy ts type consts vargs).run P w = .ok (.value v) w' := by
  have e : Go.builtin .copy ts type consts vargs = (do pure (.value (← Builtin.copy_ ts type vargs))) := rfl
  rw [e]
  simp only [Sem.run_bind, h, Result.andThen_ok, Sem.run_pure]

theorem bltn_sound (hc : CtxOk P c) {b : Builtin} {ts : List TypeId} {args : List A} {h : Heap ieee} {k : A → Heap ieee → R ieee} {r : A × Heap ieee} (hx : bltn c b ts args h k = some r)
    {γ : Gam} {vargs : Array Value} {w w0 : World} {S : Nat → Prop} (hi : Inv w0 S γ h w) (ha : L2 (VRel γ) args vargs.toList) (type : TypeId) (consts : Array Bool) :
    ∃ av h' γ' v w', k av h' = some r ∧ Sub γ γ' ∧ VRel γ' av v ∧ Inv w0 S γ' h' w' ∧ (Go.builtin b ts.toArray type consts vargs).run P w = .ok (.value v) w' := by
  unfold bltn at hx
  split at hx
  · obtain ⟨av, h', γ', v, w', q1, q2, q3, q4, q5⟩ := append_sound hc hx hi ha type
    exact ⟨av, h', γ', v, w', q1, q2, q3, q4, builtin_append q5⟩
  · obtain ⟨av, h', γ', v, w', q1, q2, q3, q4, q5⟩ := copy_sound hc hx hi ha type
    exact ⟨av, h', γ', v, w', q1, q2, q3, q4, builtin_copy q5⟩
  · exact builtin_sound hc hx hi ha type consts

theorem args_rel {γ : Gam} {nt : Nat} {e : Env ieee} {a : Act} (he : ERel γ nt e a) (xs : Array Operand) : L2 (VRel γ) (xs.toList.map (ev e)) (xs.map a.eval).toList := by
  rw [Array.toList_map]
  refine ⟨by simp, ?_⟩
  intro i x y hx hy
  rw [List.getElem?_map] at hx hy
  cases hz : xs.toList[i]? with
  | none => rw [hz] at hx; cases hx
  | some z =>
    rw [hz] at hx hy; cases hx; cases hy
    exact ev_rel he z

/-- one operation, calls and all -/
theorem exec_sound (hc : CtxOk P c) {o : Oper} {e : Env ieee} {h : Heap ieee} {k : A → Heap ieee → R ieee} {r : A × Heap ieee} (hx : exec c o.op e h k = some r)
    {γ : Gam} {a : Act} {w w0 : World} {S : Nat → Prop} (he : ERel γ c.nt e a) (hi : Inv w0 S γ h w) {K : Act → World → Prop} {Q : Exit → Act → World → Prop}
    (hk : ∀ av h' γ' v w', k av h' = some r → Sub γ γ' → VRel γ' av v → Inv w0 S γ' h' w' → K (a.put o.dst v) w') : o.wp P a w K Q := by
  obtain ⟨dst, op, type, pos, after, guard⟩ := o
  by_cases hq : ∃ q, op = .call q
  · obtain ⟨q, rfl⟩ := hq
    simp only [exec] at hx
    unfold Oper.wp
    split at hx
    · rename_i f hcal
      have hfr := ev_rel he f
      split at hx
      · rename_i g cap heq
        rw [heq] at hfr
        obtain ⟨vs, hv, hl⟩ := hfr
        have har : L2 (VRel γ) (q.args.toList.map (ev e) ++ cap.map fun p => .ptr p.1 p.2) (q.args.map a.eval ++ vs).toList := by
          rw [Array.toList_append]
          refine (args_rel he q.args).append ?_
          have := hl.map (Q' := VRel γ) (f := fun p : Nat × Nat => (AV.ptr p.1 p.2 : A)) (g := id) (fun p v h => (show SRel γ (.ptr p.1 p.2) v from h).toV)
          simpa using this
        obtain ⟨Q', hin, hq'⟩ := call_sound hc hx hi har
        have hrun : (execOp a.eval ⟨dst, .call q, type, pos, after, guard⟩).run P w = (callFunc g (q.args.map a.eval ++ vs)).run P w := by
          simp only [execOp, resolve, hcal, hv, Deferred.ofValue, Sem.run_bind, Sem.run_pure, Result.andThen_ok, invoke, Array.empty_append]
        rw [hrun]
        rcases hin with ⟨e1, e2⟩ | ⟨v, w', e1, e2⟩
        · rw [e1]
          show Calls P g _ w _
          refine e2.mono ?_
          rintro en w' ⟨v, rfl, hQ⟩
          obtain ⟨av, h', γ', q1, q2, q3, q4⟩ := hq' v w' hQ
          exact hk av h' γ' v w' q1 q2 q3 q4
        · rw [e1]
          obtain ⟨av, h', γ', q1, q2, q3, q4⟩ := hq' v w' e2
          exact hk av h' γ' v w' q1 q2 q3 q4
      · cases hx
    · rename_i b hcal
      have hx' := bltn_sound hc hx hi (args_rel he q.args) type (q.args.map fun | .const _ => true | _ => false)
      obtain ⟨av, h', γ', v, w', q1, q2, q3, q4, q5⟩ := hx'
      have hrun : (execOp a.eval ⟨dst, .call q, type, pos, after, guard⟩).run P w = .ok (.value v) w' := by
        rw [← q5]
        simp only [execOp, resolve, hcal, Sem.run_bind, Sem.run_pure, Result.andThen_ok, invoke]
        rfl
      rw [hrun]
      exact hk av h' γ' v w' q1 q2 q3 q4
    · cases hx
  · obtain ⟨av, h', γ', v, w', q1, q2, q3, q4, q5⟩ := (exec_value hc hx (fun q e => hq ⟨q, e⟩) he hi).ex
    unfold Oper.wp
    rcases q5 dst type pos after guard with e1 | ⟨e1, rfl⟩
    · rw [e1]; exact hk av h' γ' v w' q1 q2 q3 q4
    · rw [e1]; exact hk av h' γ' undef w' q1 q2 q3 q4

end
end Go.Ab
