/- Own work: a part of the library under the claims of this seat. -/
/-
The soundness of whole code, and of a call.
-/
import Derived.Test.YtihmppdnglfjnaaAbCode
namespace Go.Ab
open Go.RowKit

section
variable {P : Program} {c : Cx ieee}

/-! more from the continuation, more from the code -/
theorem step_mono {g : Bool} {all : List Oper} {x : Oper} {e : Env ieee} {h : Heap ieee} {k k' : Env ieee → Heap ieee → R ieee} {r : A × Heap ieee} (hk : ∀ e h r, k e h = some r → k' e h = some r)
    (hx : step c g all x e h k = some r) : step c g all x e h k' = some r := by
  obtain ⟨v, h', h1, o⟩ := step_out hx
  rw [o.any e (fun _ _ => rfl)]
  exact hk _ _ _ h1

theorem steps_mono {g : Bool} {all : List Oper} : ∀ (l : List Oper) {e : Env ieee} {h : Heap ieee} {k k' : Env ieee → Heap ieee → R ieee} {r : A × Heap ieee}, (∀ e h r, k e h = some r → k' e h = some r) →
    steps c g all l e h k = some r → steps c g all l e h k' = some r
  | [], _, _, _, _, _, hk, hx => hk _ _ _ hx
  | x :: l, e, h, k, k', r, hk, hx => by
    have hx' : step c g all x e h (fun e h => steps c g all l e h k) = some r := hx
    exact step_mono (fun e h r h1 => steps_mono l hk h1) hx'

/-- some blocks are kept -/
theorem select {w0 w : World} {S : Nat → Prop} {γ : Gam} {h : Heap ieee} (i : Inv w0 S γ h w) {L : List Nat} (hn : L.Nodup) : Inv w0 S (subGam γ L) (L.map fun b => keepFlat h[b]?) w := by
  have kf : ∀ {x : Option (Blk ieee)} {wr fl : Bool} {cs : List A}, keepFlat x = .live wr fl cs → x = some (.live wr true cs) ∧ fl = true := by
    intro x wr fl cs hx
    unfold keepFlat at hx
    split at hx
    · cases hx; exact ⟨rfl, rfl⟩
    · cases hx
  have look : ∀ (k : Nat) (r : Ref) (wr fl : Bool) (cs : List A), (subGam γ L)[k]? = some r → (L.map fun b => keepFlat h[b]?)[k]? = some (.live wr fl cs) →
      ∃ b, L[k]? = some b ∧ γ[b]? = some r ∧ h[b]? = some (.live wr true cs) ∧ fl = true := by
    intro k r wr fl cs h1 h2
    rw [List.getElem?_map] at h2
    cases hk : L[k]? with
    | none => rw [hk] at h2; cases h2
    | some b =>
      rw [hk] at h2
      simp only [Option.map_some, Option.some.injEq] at h2
      obtain ⟨e1, e2⟩ := kf h2
      obtain ⟨r', e3, _⟩ := i.hr.get e1
      have e4 := subGam_get (γ := γ) hk e3
      rw [h1] at e4; cases e4
      exact ⟨b, rfl, e3, e1, e2⟩
  refine ⟨⟨by simp [subGam], ?_, ?_⟩, i.os, i.tape, i.output, i.size, i.keep, ?_⟩
  · intro k r wr fl cs h1 h2
    obtain ⟨b, _, e2, e3, rfl⟩ := look k r wr fl cs h1 h2
    obtain ⟨cur, T, fr, x1, x2, x3, x4, x5⟩ := (i.hr.blk b r _ _ _ e2 e3).ex
    exact ⟨cur, T, fr, x1, x2, x3, x4, x5⟩
  · intro k k' r r' fl cs wr' fl' cs' hne h1 h1' h2 h2'
    obtain ⟨b, e1, e2, e3, _⟩ := look k r _ _ _ h1 h2
    obtain ⟨b', e1', e2', e3', _⟩ := look k' r' _ _ _ h1' h2'
    refine i.hr.own b b' r r' _ _ _ _ _ ?_ e2 e2' e3 e3'
    intro e; subst e
    exact hne ((pos_of_get hn e1).symm.trans (pos_of_get hn e1'))
  · intro k r fl cs h1 h2
    obtain ⟨b, e1, e2, e3, _⟩ := look k r _ _ _ h1 h2
    exact i.mine b r _ _ e2 e3

theorem roots_nodup (a : A) : (a.roots []).Nodup := by
  cases a <;> simp only [AV.roots] <;> first | exact nodup_roots1 List.nodup_nil | exact nodup_root1 List.nodup_nil
theorem kept_nodup (m : Nat) (a : A) : (kept m a).Nodup := by
  unfold kept
  rw [List.nodup_append]
  refine ⟨List.nodup_range, (roots_nodup a).filter _, ?_⟩
  intro x hx y hy e
  subst e
  have h1 := List.mem_range.1 hx
  have h2 := (List.mem_filter.1 hy).2
  have := Nat.le_of_ble_eq_true h2
  omega
theorem mem_kept {m : Nat} {a : A} {b : Nat} (h : b < m ∨ b ∈ a.roots []) : b ∈ kept m a := by
  unfold kept
  by_cases hb : b < m
  · exact List.mem_append_left _ (List.mem_range.2 hb)
  · refine List.mem_append_right _ (List.mem_filter.2 ⟨h.resolve_left hb, ?_⟩)
    exact Nat.ble_eq_true_of_le (by omega)
theorem pos_range {m : Nat} {a : A} {b : Nat} (h : b < m) : pos (kept m a) b = b := by
  refine pos_of_get (kept_nodup m a) ?_
  unfold kept
  rw [List.getElem?_append_left (by simpa using h)]
  simp [h]


theorem gcL_nodup (m : Nat) (vs : List A) : (gcL m vs).Nodup := by
  unfold gcL
  rw [List.nodup_append]
  refine ⟨List.nodup_range, (nodup_roots1 List.nodup_nil).filter _, ?_⟩
  intro x hx y hy e
  subst e
  have h1 := List.mem_range.1 hx
  have h2 := (List.mem_filter.1 hy).2
  have := Nat.le_of_ble_eq_true h2
  omega
theorem mem_gcL {m : Nat} {vs : List A} {b : Nat} (h : b < m ∨ ∃ a ∈ vs, b ∈ a.names) : b ∈ gcL m vs := by
  unfold gcL
  by_cases hb : b < m
  · exact List.mem_append_left _ (List.mem_range.2 hb)
  · refine List.mem_append_right _ (List.mem_filter.2 ⟨mem_roots1.2 (.inr (h.resolve_left hb)), ?_⟩)
    exact Nat.ble_eq_true_of_le (by omega)
theorem gcL_range {m : Nat} {vs : List A} {b : Nat} (h : b < m) : (gcL m vs)[b]? = some b := by
  unfold gcL
  rw [List.getElem?_append_left (by simpa using h)]
  simp [h]

/-- at a loop's head -/
theorem gc_sound {w0 w : World} {S : Nat → Prop} {γ γ0 : Gam} {nt m : Nat} {e : Env ieee} {h : Heap ieee} {a : Act} (keep : List Nat) (he : ERel γ nt (look (keep.zip (keep.map e))) a) (hi : Inv w0 S γ h w) (hs : Sub γ0 γ) (hm : γ0.length ≤ m)
    (ht : (keep.map e).all AV.noTup = true) :
    ∃ γ', Sub γ0 γ' ∧ ERel γ' nt (look (keep.zip (gcV m (keep.map e)))) a ∧ Inv w0 S γ' (gcH m (keep.map e) h) w := by
  refine ⟨subGam γ (gcL m (keep.map e)), ?_, ?_, select hi (gcL_nodup _ _)⟩
  · intro i r hir
    have hlt : i < γ0.length := (List.getElem?_eq_some_iff.1 hir).1
    exact subGam_get (gcL_range (by omega)) (hs i r hir)
  · refine ⟨he.dfr, he.size, fun t => ?_⟩
    have hv := he.val t
    have hL : ∀ x ∈ keep.map e, ∀ b ∈ x.names, b ∈ gcL m (keep.map e) := fun x hx b hb => mem_gcL (.inr ⟨x, hx, hb⟩)
    revert hv
    unfold gcV
    generalize hLd : gcL m (keep.map e) = L at hL ⊢
    clear hLd
    revert hL ht
    generalize keep.map e = vs
    clear he
    induction keep generalizing vs with
    | nil => intro _ _ _; exact trivial
    | cons k keep ih =>
      intro ht hL hv
      cases vs with
      | nil => exact trivial
      | cons v vs =>
        have hv' : VRel γ (cond (Nat.beq t k) v (look (keep.zip vs) t)) (a.tmps.getD t undef) := hv
        show VRel _ (cond (Nat.beq t k) (v.ren1 (pos L)) (look (keep.zip (vs.map (AV.ren1 (pos L)))) t)) _
        have ht' := List.all_cons.symm.trans ht
        simp only [Bool.and_eq_true] at ht'
        cases hb : Nat.beq t k with
        | true =>
          rw [hb] at hv'
          refine VRel.ren1 ht'.1 hv' ?_
          intro b hbn r hr
          exact subGam_get (pos_get (hL v (by simp) b hbn)) hr
        | false =>
          rw [hb] at hv'
          exact ih vs ht'.2 (fun x hx => hL x (by simp [hx])) hv'

/-- a loop's round, as a function of what comes behind it -/
noncomputable def round (c : Cx ieee) (keep : List Nat) (body : Code) (j : Nat) (k : Exit → Env ieee → Heap ieee → R ieee) (self : List A → Heap ieee → R ieee) (vs : List A) (h : Heap ieee) : R ieee :=
  code c body j (look (keep.zip vs)) h (thenOn (fun e h => gcOn c.base (keep.map e) h self) k)

theorem loopOn_some {j : Nat} {F : List Nat → (List A → Heap ieee → R ieee) → List A → Heap ieee → R ieee} {e : Env ieee} {h : Heap ieee} {r : A × Heap ieee} (hx : loopOn c j F e h = some r) :
    ∃ d, c.loops[j]? = some d ∧ (d.keep.map e).all AV.noTup = true ∧ d.it c.rounds (F d.keep) (gcV c.base (d.keep.map e)) (gcH c.base (d.keep.map e) h) = some r := by
  unfold loopOn at hx
  split at hx
  · rename_i d hd; obtain ⟨h1, h2⟩ := gd_some hx; exact ⟨d, hd, h1, h2⟩
  · cases hx
theorem brOn_some {v : A} {x y : R ieee} {r : A × Heap ieee} (hx : brOn v x y = some r) : ∃ b, v = .bool b ∧ cond b x y = some r := by
  unfold brOn at hx
  split at hx
  · exact ⟨_, rfl, hx⟩
  · cases hx

theorem code_mono (hl : ∀ (j : Nat) (d : LoopD ieee), c.loops[j]? = some d → ItOk d) : ∀ (x : Code) (j : Nat) {e : Env ieee} {h : Heap ieee} {k k' : Exit → Env ieee → Heap ieee → R ieee} {r : A × Heap ieee},
    (∀ x e h r, k x e h = some r → k' x e h = some r) → code c x j e h k = some r → code c x j e h k' = some r := by
  intro x
  induction x with
  | skip => intro j e h k k' r hk hx; exact hk _ _ _ _ hx
  | region id ops draw =>
    intro j e h k k' r hk hx
    have hx' : cond (!draw || orderOk c ops.toList) (steps c (hasGuards ops.toList) ops.toList ops.toList e h (k .normal)) none = some r := hx
    show cond (!draw || orderOk c ops.toList) (steps c (hasGuards ops.toList) ops.toList ops.toList e h (k' .normal)) none = some r
    cases hb : (!draw || orderOk c ops.toList) with
    | false => rw [hb] at hx'; cases hx'
    | true =>
      rw [hb] at hx'
      exact steps_mono ops.toList (fun e h r h1 => hk .normal e h r h1) hx'
  | seq a b iha ihb =>
    intro j e h k k' r hk hx
    refine iha j (k := thenOn (fun e h => code c b (j + nloops a) e h k) k) ?_ hx
    intro x e h r h1
    cases x with
    | normal => exact ihb _ hk h1
    | _ => exact hk _ _ _ _ h1
  | cond q a b iha ihb =>
    intro j e h k k' r hk hx
    obtain ⟨t, h1, h2⟩ := brOn_some (v := ev e q) hx
    show brOn (ev e q) (code c a j e h k') (code c b (j + nloops a) e h k') = some r
    rw [h1]
    cases t
    · exact ihb _ hk h2
    · exact iha _ hk h2
  | block id b ih =>
    intro j e h k k' r hk hx
    refine ih j (k := blockOn id k) ?_ hx
    intro x e h r h1
    cases x with
    | exit i =>
      show cond (Nat.beq i id) (k' .normal e h) (k' (.exit i) e h) = some r
      have h1' : cond (Nat.beq i id) (k .normal e h) (k (.exit i) e h) = some r := h1
      cases hb : Nat.beq i id with
      | true => rw [hb] at h1'; exact hk _ _ _ _ h1'
      | false => rw [hb] at h1'; exact hk _ _ _ _ h1'
    | _ => exact hk _ _ _ _ h1
  | loop b ih =>
    intro j e h k k' r hk hx
    obtain ⟨d, hd, ht, h1⟩ := loopOn_some (F := fun keep => round c keep b (j + 1) k) hx
    show loopOn c j (fun keep => round c keep b (j + 1) k') e h = some r
    unfold loopOn
    rw [hd]
    show gd _ _ = some r
    rw [ht]
    have hm : ∀ k, Mono (round c d.keep b (j + 1) k) := by
      intro k s s' hs v h r h1
      refine ih (j + 1) ?_ h1
      intro x e h r h2
      cases x with
      | normal => obtain ⟨g1, g2⟩ := gd_some h2; show gd _ _ = some r; rw [g1]; exact hs _ _ _ g2
      | _ => exact h2
    refine (hl j d hd).mono c.rounds _ _ (hm k) (hm k') ?_ _ _ _ h1
    intro s v h r h1
    refine ih (j + 1) ?_ h1
    intro x e h r h2
    cases x with
    | normal => exact h2
    | _ => exact hk _ _ _ _ h2
  | exit id => intro j e h k k' r hk hx; exact hk _ _ _ _ hx
  | label l => intro j e h k k' r hk hx; exact hk _ _ _ _ hx
  | ret => intro j e h k k' r hk hx; exact hk _ _ _ _ hx
  | rangeFunc f ps as b _ _ => intro j e h k k' r hk hx; cases hx
  | scope b _ => intro j e h k k' r hk hx; cases hx
  | goto l => intro j e h k k' r hk hx; cases hx
  | refuse why => intro j e h k k' r hk hx; cases hx

theorem look_rel {γ : Gam} {nt : Nat} {e : Env ieee} {a : Act} (h : ERel γ nt e a) (keep : List Nat) : ERel γ nt (look (keep.zip (keep.map e))) a := by
  refine ⟨h.dfr, h.size, fun t => ?_⟩
  induction keep with
  | nil => exact trivial
  | cons m keep ih =>
    show VRel γ (cond (Nat.beq t m) (e m) (look (keep.zip (keep.map e)) t)) _
    cases hb : Nat.beq t m with
    | true =>
      have := Nat.eq_of_beq_eq_true hb
      subst this
      exact h.val t
    | false => exact ih

theorem code_sound (hc : CtxOk P c) {w0 : World} {S : Nat → Prop} {γ0 : Gam} (hbase : γ0.length ≤ c.base) : ∀ (x : Code) (j : Nat) {e : Env ieee} {h : Heap ieee} {γ : Gam} {a : Act} {w : World} {k : Exit → Env ieee → Heap ieee → R ieee} {r : A × Heap ieee}
    {Q : Exit → Act → World → Prop}, code c x j e h k = some r → Sub γ0 γ → ERel γ c.nt e a → Inv w0 S γ h w → Post c w0 S γ0 k r Q → x.wp P Q a w := by
  intro x
  induction x with
  | skip => intro j e h γ a w k r Q hx hs he hi hp; exact wp_skip (hp .normal e h γ a w hx hs he hi)
  | region id ops draw =>
    intro j e h γ a w k r Q hx hs he hi hp
    have hx' : cond (!draw || orderOk c ops.toList) (steps c (hasGuards ops.toList) ops.toList ops.toList e h (k .normal)) none = some r := hx
    cases hb : (!draw || orderOk c ops.toList) with
    | false => rw [hb] at hx'; cases hx'
    | true =>
      rw [hb] at hx'
      simp only [cond_true] at hx'
      cases draw with
      | false => exact wp_region_list (steps_sound hc ops.toList hx' he hi (hp.mono hs))
      | true =>
        have hok : orderOk c ops.toList = true := by simpa using hb
        refine wp_region_any hc.mixed ?_
        rw [steps_eq_range ops.toList 0 (by simp)] at hx'
        refine any_sound hc hok ops.size (List.range' 0 ops.toList.length) _ (by simp) (by simp) (List.pairwise_lt_range') ?_ ?_ ?_ hx' he (hi.drawn ⟨_, rfl⟩) (hp.mono hs)
        · intro i hlt
          simp [hlt]
        · intro i hi
          simpa using hi
        · intro i x hli
          exfalso
          simp only [Array.getD_eq_getD_getElem?] at hli
          cases hg : (Array.replicate ops.size false)[i]? with
          | none => rw [hg] at hli; cases hli
          | some b =>
            rw [hg] at hli
            have := (Array.getElem?_eq_some_iff.1 hg).2
            simp at this
            subst this
            cases hli
  | seq x y iha ihb =>
    intro j e h γ a w k r Q hx hs he hi hp
    refine wp_seq (iha j (k := thenOn (fun e h => code c y (j + nloops x) e h k) k) hx hs he hi ?_)
    intro ex e' h' γ' a' w' h1 h2 h3 h4
    cases ex with
    | normal => exact ihb _ h1 h2 h3 h4 hp
    | _ => exact hp _ e' h' γ' a' w' h1 h2 h3 h4
  | cond q x y iha ihb =>
    intro j e h γ a w k r Q hx hs he hi hp
    obtain ⟨t, h1, h2⟩ := brOn_some (v := ev e q) hx
    have hq := ev_rel he q
    rw [h1] at hq
    have ha : a.eval q = .bool t := hq
    refine wp_cond ha ?_
    cases t
    · exact ihb _ h2 hs he hi hp
    · exact iha _ h2 hs he hi hp
  | block id b ih =>
    intro j e h γ a w k r Q hx hs he hi hp
    refine wp_block (ih j (k := blockOn id k) hx hs he hi ?_)
    intro ex e' h' γ' a' w' h1 h2 h3 h4
    cases ex with
    | exit i =>
      have h1' : cond (Nat.beq i id) (k .normal e' h') (k (.exit i) e' h') = some r := h1
      show if i = id then Q .normal a' w' else Q (.exit i) a' w'
      cases hb : Nat.beq i id with
      | true =>
        rw [hb] at h1'
        rw [if_pos (Nat.eq_of_beq_eq_true hb)]
        exact hp _ e' h' γ' a' w' h1' h2 h3 h4
      | false =>
        rw [hb] at h1'
        rw [if_neg (fun e => by subst e; rw [Nat.beq_refl] at hb; cases hb)]
        exact hp _ e' h' γ' a' w' h1' h2 h3 h4
    | _ => exact hp _ e' h' γ' a' w' h1 h2 h3 h4
  | loop b ih =>
    intro j e h γ a w k r Q hx hs he hi hp
    obtain ⟨d, hd, ht, h1⟩ := loopOn_some (F := fun keep => round c keep b (j + 1) k) hx
    have hm : Mono (round c d.keep b (j + 1) k) := by
      intro s s' hs v h r h1
      refine code_mono hc.loops b (j + 1) ?_ h1
      intro x e h r h2
      cases x with
      | normal => obtain ⟨g1, g2⟩ := gd_some h2; show gd _ _ = some r; rw [g1]; exact hs _ _ _ g2
      | _ => exact h2
    obtain ⟨n, hn⟩ := (hc.loops j d hd).sound c.rounds _ hm _ _ _ h1
    refine wp_loop_rounds n ?_
    -- round by round
    have key : ∀ (n : Nat) {vs : List A} {h : Heap ieee} {γ' : Gam} {a : Act} {w : World}, Sub γ0 γ' → iter2 (round c d.keep b (j + 1) k) n vs h = some r → ERel γ' c.nt (look (d.keep.zip vs)) a → Inv w0 S γ' h w →
        Code.rounds P b Q n a w := by
      intro n
      induction n with
      | zero => intro vs h γ' a w _ hn; cases hn
      | succ n ihn =>
        intro vs h γ' a w hsub hn he hi
        rw [rounds_succ]
        have hn' : round c d.keep b (j + 1) k (iter2 (round c d.keep b (j + 1) k) n) vs h = some r := hn
        refine ih (j + 1) (k := thenOn (fun e h => gcOn c.base (d.keep.map e) h (iter2 (round c d.keep b (j + 1) k) n)) k) hn' hsub he hi ?_
        intro ex e' h' γ'' a' w' h1 h2 h3 h4
        cases ex with
        | normal =>
          obtain ⟨g1, g2⟩ := gd_some h1
          obtain ⟨γ3, q1, q2, q3⟩ := gc_sound d.keep (look_rel h3 d.keep) h4 h2 hbase g1
          exact ihn q1 g2 q2 q3
        | _ => exact hp _ e' h' γ'' a' w' h1 h2 h3 h4
    obtain ⟨γ3, q1, q2, q3⟩ := gc_sound d.keep (look_rel he d.keep) hi hs hbase ht
    exact key n q1 hn q2 q3
  | exit id => intro j e h γ a w k r Q hx hs he hi hp; exact wp_exit (hp (.exit id) e h γ a w hx hs he hi)
  | label l => intro j e h γ a w k r Q hx hs he hi hp; exact wp_label (hp .normal e h γ a w hx hs he hi)
  | ret => intro j e h γ a w k r Q hx hs he hi hp; exact wp_ret (hp .ret e h γ a w hx hs he hi)
  | rangeFunc f ps as b _ _ => intro j e h γ a w k r Q hx; cases hx
  | scope b _ => intro j e h γ a w k r Q hx; cases hx
  | goto l => intro j e h γ a w k r Q hx; cases hx
  | refuse why => intro j e h γ a w k r Q hx; cases hx

end
end Go.Ab
