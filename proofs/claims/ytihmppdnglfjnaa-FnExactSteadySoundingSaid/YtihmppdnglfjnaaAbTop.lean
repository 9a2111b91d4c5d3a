/- Own work: a part of the library under the claims of this seat. -/
/-
The soundness of a call: from the abstract machine's answer to the model's 'Calls', and to the callees' table.
-/
import Derived.Test.YtihmppdnglfjnaaAbFun
namespace Go.Ab
open Go.RowKit

section
variable {P : Program} {c : Cx ieee}

def resSem (tmps : Array Value) : ResultVar → Sem Value
  | .tmp t => Pure.pure (tmps.getD t undef)
  | .cell b t => do loadVar t (← asAddr (tmps.getD b undef))
theorem results_eq (fn : Func) (tmps : Array Value) : results fn tmps = (do
    let vs ← fn.results.mapM (resSem tmps)
    Pure.pure (if h : vs.size = 1 then vs[0] else .tuple vs)) := by
  unfold results
  congr 2

theorem resv_some {γ : Gam} {nt : Nat} {e : Env ieee} {a : Act} {h : Heap ieee} {w : World} (hty : ∀ t i, c.ty t = some i → TyOk P t i) (he : ERel γ nt e a) (hr : HRel γ h w) :
    ∀ (rs : List ResultVar) {k : List A → R ieee} {r : A × Heap ieee}, resv c rs e h k = some r →
    ∃ avs vs, k avs = some r ∧ (rs.mapM (resSem a.tmps)).run P w = .ok vs w ∧
      L2 (fun x v => VRel γ x v ∧ x.noTup = true) avs vs
  | [], k, r, hx => ⟨[], [], hx, rfl, L2.nil _⟩
  | q :: rs, k, r, hx => by
    have hx' : res1 c e h q (fun v => gd v.noTup (resv c rs e h fun vs => k (v :: vs))) = some r := hx
    have one : ∃ av v, gd av.noTup (resv c rs e h fun vs => k (av :: vs)) = some r ∧ VRel γ av v ∧
        (resSem a.tmps q).run P w = .ok v w := by
      cases q with
      | tmp t => exact ⟨_, _, hx', he.val t, rfl⟩
      | cell b t =>
        simp only [res1] at hx'
        obtain ⟨ti, hti, h2⟩ := withTy_some hx'
        have hb := he.val b
        split at h2
        · rename_i bb i heq
          rw [heq] at hb
          obtain ⟨rf, hg, hv⟩ := hb
          obtain ⟨wr, fl, cs, h3, h4⟩ := ldv_some h2
          obtain ⟨av, v, e1, e2, e3⟩ := load_sound (hty t ti hti) hr h3 hg h4
          refine ⟨av, v, e1, e3, ?_⟩
          simp only [resSem, hv, asAddr, Sem.run_bind, Sem.run_pure, Result.andThen_ok]
          exact e2
        · cases h2
    obtain ⟨av, v, g1, g2, g3⟩ := one
    obtain ⟨g4, g5⟩ := gd_some g1
    obtain ⟨avs, vs, e1, e2, e3⟩ := resv_some hty he hr rs g5
    refine ⟨av :: avs, v :: vs, e1, ?_, L2.cons ⟨g2, g4⟩ e3⟩
    rw [List.mapM_cons]
    simp only [Sem.run_bind, g3, Result.andThen_ok, e2, Sem.run_pure]

theorem afun_sound (hc : CtxOk P c) {f : FuncId} {fn : Func} {body : Code} (hf : P.funcs[f]? = some fn) (hb : fn.body = some body) (hnt : fn.ntmps = c.nt) {args : List A} {h h' : Heap ieee} {av : A}
    (hx : afun c fn.results.toList body args h = some (av, h')) {γ : Gam} {vargs : Array Value} {w : World} (hr : HRel γ h w) (ha : L2 (VRel γ) args vargs.toList) :
    Calls P f vargs w fun en w' => ∃ v, en = .returned v ∧ ∃ γ', Sub γ γ' ∧ VRel γ' av v ∧ Inv w (wset γ h) γ' h' w' := by
  obtain ⟨h0, h2⟩ := gd_some hx
  obtain ⟨h1, hbs⟩ := (Bool.and_eq_true _ _).mp h0
  have hbase : c.base = h.length := Nat.eq_of_beq_eq_true hbs
  have hle : vargs.size ≤ c.nt := by
    have := Nat.le_of_ble_eq_true h1
    have e := ha.1
    simp at e
    omega
  refine calls_of_wp hf hb ?_
  have he : ERel γ c.nt (env0 args) { tmps := vargs ++ Array.replicate (fn.ntmps - vargs.size) undef, defers := [] } := by
    refine ⟨rfl, by simp [hnt]; omega, ?_⟩
    intro t
    unfold env0
    simp only [Array.getD_eq_getD_getElem?]
    cases hg : args[t]? with
    | some a =>
      obtain ⟨v, hv, hr⟩ := ha.get hg
      have hlt : t < vargs.size := by have := (List.getElem?_eq_some_iff.1 hv).1; simpa using this
      rw [Array.getElem?_append_left hlt]
      have : vargs[t]? = some v := by simpa using hv
      rw [this]
      exact hr
    | none =>
      have hge : vargs.size ≤ t := by
        have h1 := List.getElem?_eq_none_iff.1 hg
        have h2 := ha.1
        simp at h2
        omega
      rw [Array.getElem?_append_right hge]
      show VRel γ .undef _
      cases hq : (Array.replicate (fn.ntmps - vargs.size) undef)[t - vargs.size]? with
      | none => rfl
      | some u =>
        have := (Array.getElem?_eq_some_iff.1 hq).2
        simp at this
        subst this
        rfl
  have hi : Inv w (wset γ h) γ h w := ⟨hr, rfl, rfl, rfl, Nat.le_refl _, fun _ _ _ => rfl, fun k r fl cs e1 e2 => .inl ⟨k, r, fl, cs, e1, e2, rfl⟩⟩
  refine code_sound hc (γ0 := γ) (by rw [hbase, hr.len]; exact Nat.le_refl _) body 0 h2 (Sub.refl γ) he hi ?_
  intro ex e' hh γ' a' w' g1 g2 g3 g4
  -- the end, by whichever way
  have fin : resv c fn.results.toList e' hh (fun vs => done h.length (one1 vs) hh) = some (av, h') →
      a'.defers = [] ∧ ∃ v, (results fn a'.tmps).run P w' = .ok v w' ∧ ∃ v', (Ending.returned v : Ending) = .returned v' ∧ ∃ γ', Sub γ γ' ∧ VRel γ' av v' ∧ Inv w (wset γ h) γ' h' w' := by
    intro g5
    obtain ⟨avs, vs, e1, e2, e3⟩ := resv_some hc.ty g3 g4.hr fn.results.toList g5
    have hd : done h.length (one1 avs) hh = some (av, h') := e1
    -- the value
    have hres : ∃ v, (results fn a'.tmps).run P w' = .ok v w' ∧ VRel γ' (one1 avs) v := by
      have hrun : (results fn a'.tmps).run P w' = .ok (if hh : vs.toArray.size = 1 then vs.toArray[0] else .tuple vs.toArray) w' := by
        rw [results_eq, Array.mapM_eq_mapM_toList]
        simp only [Sem.run_bind, Sem.run_map, e2, Result.andThen_ok, Sem.run_pure]
      refine ⟨_, hrun, ?_⟩
      have hW : ∀ (x : A) (v : Value), (VRel γ' x v ∧ x.noTup = true) → WRel γ' x v := by
        rintro x v ⟨q1, q2⟩
        cases x with
        | tup l => simp [AV.noTup] at q2
        | _ => exact q1
      match avs, vs, e3 with
      | [], vs, e3 =>
        have := e3.nil_iff
        subst this
        exact ⟨#[], rfl, L2.nil _⟩
      | [x], vs, e3 =>
        obtain ⟨v, m, rfl, q1, q2⟩ := e3.uncons
        have := q2.nil_iff
        subst this
        exact q1.1
      | x :: y :: avs, vs, e3 =>
        obtain ⟨v, m, rfl, q1, q2⟩ := e3.uncons
        obtain ⟨v', m', rfl, q3, q4⟩ := q2.uncons
        rw [dif_neg (by simp)]
        exact ⟨_, rfl, e3.mono hW⟩
    obtain ⟨v, hv1, hv2⟩ := hres
    refine ⟨g3.dfr, v, hv1, v, rfl, ?_⟩
    unfold done at hd
    simp only [Option.some.injEq, Prod.mk.injEq] at hd
    obtain ⟨rfl, rfl⟩ := hd
    have hlen : h.length = γ.length := hr.len.symm
    refine ⟨subGam γ' (kept h.length (one1 avs)), ?_, ?_, select g4 (kept_nodup _ _)⟩
    · intro i r hir
      have hlt : i < h.length := by rw [hlen]; exact (List.getElem?_eq_some_iff.1 hir).1
      have hm : i ∈ kept h.length (one1 avs) := mem_kept (.inl hlt)
      have hp := pos_get hm
      rw [pos_range hlt] at hp
      exact subGam_get hp (g2 i r hir)
    · refine hv2.renOn ?_
      intro b hb r hbr
      exact subGam_get (pos_get (mem_kept (.inr hb))) hbr
  cases ex with
  | normal => exact fin g1
  | ret => exact fin g1
  | _ => cases g1

/-! the table of callees -/
theorem callFunc_enter {f : FuncId} {fn : Func} {body : Code} (hf : P.funcs[f]? = some fn) (hb : fn.body = some body) (hn : (fn.name == "runtime.NumGoroutine") = false) (vargs : Array Value) (w : World) :
    (callFunc f vargs).run P w = .ok (.enter f vargs) w := by
  have hn' : ¬ fn.name = "runtime.NumGoroutine" := by simpa using hn
  simp [callFunc, hf, hn', hb]

/-- a value without addresses -/
def AV.plain (a : A) : Bool := (a.roots []).isEmpty

theorem VRel.plain {γ γ' : Gam} {a : A} {v : Value} (hp : a.plain = true) (h : VRel γ a v) : VRel γ' a v := by
  have e : a.roots [] = [] := by simpa [AV.plain] using hp
  have key : VRel γ' (a.ren id) v := h.renOn (f := id) (by rw [e]; intro b hb; simp at hb)
  have hren1 : ∀ x : A, x.ren1 id = x := by
    intro x
    cases x <;> simp [AV.ren1]
  have hren : a.ren id = a := by
    have h1 := hren1 a
    cases a with
    | tup vs =>
      simp only [AV.ren]
      congr 1
      rw [List.map_congr_left (g := id) (fun x _ => hren1 x)]
      simp
    | _ => exact h1
  rw [hren] at key
  exact key

structure FnIs (P : Program) (c : Cx ieee) (f : FuncId) (fn : Func) (body : Code) : Prop where
  func : P.funcs[f]? = some fn
  body : fn.body = some body
  nt : fn.ntmps = c.nt
  name : (fn.name == "runtime.NumGoroutine") = false

theorem calOk_rw (hc : CtxOk P c) {f : FuncId} {fn : Func} {body : Code} (hf : FnIs P c f fn body) {m : List A → Heap ieee → Tr (A × Heap ieee)}
    (hm : ∀ args h av h', (m args h).get = some (av, h') → afun c fn.results.toList body args h = some (av, h')) : CalOk P f (.rw m) := by
  intro args h av h' hg γ vargs w hr ha
  exact .inl ⟨callFunc_enter hf.func hf.body hf.name vargs w, afun_sound hc hf.func hf.body hf.nt (hm args h av h' hg) hr ha⟩

theorem inv_below {w w' : World} {S : Nat → Prop} {γ : Gam} {h : Heap ieee} (i : Inv w S γ h w') (hS : ∀ b, ¬ S b) : Below w.heap.size w w' :=
  ⟨i.os, i.tape, i.output, i.size, fun b hb => i.keep b hb (hS b)⟩

theorem calOk_pure (hc : CtxOk P c) {f : FuncId} {fn : Func} {body : Code} (hf : FnIs P c f fn body) {m : List A → Tr A}
    (hm : ∀ args av, (m args).get = some av → args.all AV.plain = true ∧ av.plain = true ∧ ∃ h', afun c fn.results.toList body args [] = some (av, h')) : CalOk P f (.pure m) := by
  intro args av hg γ vargs w ha
  obtain ⟨h1, h2, h', h3⟩ := hm args av hg
  refine .inl ⟨callFunc_enter hf.func hf.body hf.name vargs w, ?_⟩
  have hr : HRel [] ([] : Heap ieee) w := ⟨rfl, fun k r wr fl cs e _ => by simp at e, fun k k' r r' fl cs wr' fl' cs' _ e _ _ _ => by simp at e⟩
  have ha' : L2 (VRel []) args vargs.toList := ⟨ha.1, fun i a v ha1 ha2 => (ha.2 i a v ha1 ha2).plain (List.all_eq_true.1 h1 a (List.mem_of_getElem? ha1))⟩
  refine (afun_sound hc hf.func hf.body hf.nt h3 hr ha').mono ?_
  rintro en w' ⟨v, rfl, γ', _, q1, q2⟩
  exact ⟨v, rfl, q1.plain h2, inv_below q2 (fun b => by rintro ⟨k, r, fl, cs, e, _⟩; simp at e)⟩

/-- a block that may not be written -/
def roB : Blk ieee → Blk ieee
  | .live _ fl cs => .live false fl cs
  | .dead => .dead

theorem ro_hrel {γ : Gam} {h : Heap ieee} {w : World} (hr : HRel γ h w) : HRel γ (h.map roB) w := by
  have look : ∀ (k : Nat) (wr fl : Bool) (cs : List A), (h.map roB)[k]? = some (.live wr fl cs) → wr = false ∧ ∃ wr', h[k]? = some (.live wr' fl cs) := by
    intro k wr fl cs hk
    rw [List.getElem?_map] at hk
    cases hx : h[k]? with
    | none => rw [hx] at hk; cases hk
    | some x =>
      rw [hx] at hk
      cases x with
      | live wr' fl' cs' => simp only [Option.map_some, roB, Option.some.injEq, Blk.live.injEq] at hk; obtain ⟨rfl, rfl, rfl⟩ := hk; exact ⟨rfl, wr', rfl⟩
      | dead => simp [roB] at hk
  refine ⟨by simp [hr.len], ?_, ?_⟩
  · intro k r wr fl cs h1 h2
    obtain ⟨rfl, wr', h3⟩ := look k wr fl cs h2
    obtain ⟨cur, T, fr, x1, x2, x3, x4, x5⟩ := (hr.blk k r wr' fl cs h1 h3).ex
    exact ⟨cur, T, fr, x1, x2, x3, x4, fun h => by cases h⟩
  · intro k k' r r' fl cs wr' fl' cs' _ _ _ h2 _
    have := (look k true fl cs h2).1
    cases this

theorem calOk_ro (hc : CtxOk P c) {f : FuncId} {fn : Func} {body : Code} (hf : FnIs P c f fn body) {m : List A → Heap ieee → Tr A}
    (hm : ∀ args h av, (m args h).get = some av → av.plain = true ∧ ∃ h', afun c fn.results.toList body args (h.map roB) = some (av, h')) : CalOk P f (.ro m) := by
  intro args h av hg γ vargs w hr ha
  obtain ⟨h1, h', h2⟩ := hm args h av hg
  refine .inl ⟨callFunc_enter hf.func hf.body hf.name vargs w, ?_⟩
  refine (afun_sound hc hf.func hf.body hf.nt h2 (ro_hrel hr) ha).mono ?_
  rintro en w' ⟨v, rfl, γ', _, q1, q2⟩
  refine ⟨v, rfl, q1.plain h1, inv_below q2 ?_⟩
  rintro b ⟨k, r, fl, cs, _, e, _⟩
  rw [List.getElem?_map] at e
  cases hx : h[k]? with
  | none => rw [hx] at e; cases e
  | some x => rw [hx] at e; cases x <;> simp [roB] at e

end
end Go.Ab
