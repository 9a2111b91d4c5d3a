/- Own work: a part of the library under the claims of this seat. -/
/-
Whole code: regions, branches, loops; and a call of a function.
-/
import Derived.Test.YtihmppdnglfjnaaAbRegion
namespace Go.Ab
open Go.RowKit

section
variable {P : Program} {c : Cx ieee}

theorem yielded_some {ops : Array Oper} {tmps : Array Value} {j d : Nat} {b : Bool} (hd : (ops.toList[j]?).bind (·.dst) = some d) (hv : tmps.getD d undef = .bool b) : yielded ops tmps j = some b := by
  have h1 : (ops[j]?).bind (·.dst) = some d := by simpa using hd
  have h2 : tmps[d]? = some (.bool b) := by
    rw [Array.getD_eq_getD_getElem?] at hv
    cases ht : tmps[d]? with
    | none => rw [ht] at hv; cases hv
    | some u => rw [ht] at hv; simp at hv; rw [hv]
  unfold yielded
  rw [h1]
  simp [h2]
theorem yielded_none {ops : Array Oper} {tmps : Array Value} {j d : Nat} (hd : (ops.toList[j]?).bind (·.dst) = some d) (hv : tmps.getD d undef = undef) : yielded ops tmps j = none := by
  have h1 : (ops[j]?).bind (·.dst) = some d := by simpa using hd
  unfold yielded
  rw [h1]
  simp only [Option.bind_some]
  rw [Array.getD_eq_getD_getElem?] at hv
  cases ht : tmps[d]? with
  | none => rfl
  | some u =>
    rw [ht] at hv
    simp only [Option.getD_some] at hv
    subst hv
    rfl

/-- one step -/
theorem step_sound (hc : CtxOk P c) {g : Bool} {ops : Array Oper} {x : Oper} {e : Env ieee} {h : Heap ieee} {k : Env ieee → Heap ieee → R ieee} {r : A × Heap ieee} (hx : step c g ops.toList x e h k = some r)
    {γ : Gam} {a : Act} {w w0 : World} {S : Nat → Prop} (he : ERel γ c.nt e a) (hi : Inv w0 S γ h w) {K : Act → World → Prop} {Q : Exit → Act → World → Prop}
    (hk : ∀ e' h' γ' a' w', k e' h' = some r → Sub γ γ' → ERel γ' c.nt e' a' → Inv w0 S γ' h' w' → K a' w') :
    if Region.wanted x (yielded ops a.tmps) then x.wp P a w K Q ∨ (x.asks P a w ∧ LetsOut Q) else K (a.put x.dst undef) w := by
  rw [step_eq] at hx
  have go : exec c x.op e h (fun v h' => fin c g x.dst v e h' k) = some r → x.wp P a w K Q := by
    intro h1
    refine exec_sound hc h1 he hi ?_
    intro av h' γ' v w' g1 g2 g3 g4
    obtain ⟨f1, f2, _⟩ := fin_out g1
    refine hk _ h' γ' _ w' f2 g2 ?_ g4
    cases hd : x.dst with
    | none => exact he.mono g2
    | some d => exact (he.mono g2).put (f1 d hd) g3
  have no : fin c false x.dst .undef e h k = some r → K (a.put x.dst undef) w := by
    intro h1
    obtain ⟨f1, f2, _⟩ := fin_out h1
    refine hk _ h γ _ w f2 (Sub.refl γ) ?_ hi
    cases hd : x.dst with
    | none => exact he
    | some d => exact he.put (f1 d hd) rfl
  cases hg : x.guard with
  | none =>
    have hr : runs ops.toList x e = some true := by unfold runs; rw [hg]
    rw [hr] at hx
    have hw : Region.wanted x (yielded ops a.tmps) = true := by unfold Region.wanted; rw [hg]
    rw [if_pos hw]
    exact .inl (go hx)
  | some p =>
    obtain ⟨j, want⟩ := p
    unfold runs at hx
    rw [hg] at hx
    dsimp only at hx
    cases hd : (ops.toList[j]?).bind (·.dst) with
    | none => rw [hd] at hx; cases hx
    | some d =>
      rw [hd] at hx
      dsimp only at hx
      have hv := he.val d
      cases hed : e d with
      | bool b =>
        rw [hed] at hx hv
        have hy := yielded_some (ops := ops) (tmps := a.tmps) hd hv
        have hw : Region.wanted x (yielded ops a.tmps) = (b == want) := by
          unfold Region.wanted
          rw [hg]
          simp only [hy]
          cases b <;> cases want <;> rfl
        cases hb : (b == want) with
        | true =>
          rw [if_pos (hw.trans hb)]
          simp only [hb] at hx
          exact .inl (go hx)
        | false =>
          rw [if_neg (by rw [hw, hb]; simp)]
          simp only [hb] at hx
          exact no hx
      | undef =>
        rw [hed] at hx hv
        have hy := yielded_none (ops := ops) (tmps := a.tmps) hd hv
        have hw : Region.wanted x (yielded ops a.tmps) = false := by
          unfold Region.wanted
          rw [hg]
          simp only [hy]
          cases want <;> rfl
        rw [if_neg (by rw [hw]; simp)]
        exact no hx
      | _ => rw [hed] at hx; cases hx

/-- what the machine says of the code behind -/
def Post (c : Cx ieee) (w0 : World) (S : Nat → Prop) (γ : Gam) (k : Exit → Env ieee → Heap ieee → R ieee) (r : A × Heap ieee) (Q : Exit → Act → World → Prop) : Prop :=
  ∀ x e' h' γ' a' w', k x e' h' = some r → Sub γ γ' → ERel γ' c.nt e' a' → Inv w0 S γ' h' w' → Q x a' w'

theorem Post.mono {w0 : World} {S : Nat → Prop} {γ γ' : Gam} {k : Exit → Env ieee → Heap ieee → R ieee} {r : A × Heap ieee} {Q : Exit → Act → World → Prop} (h : Post c w0 S γ k r Q) (hs : Sub γ γ') :
    Post c w0 S γ' k r Q := fun x e' h' γ'' a' w' h1 h2 h3 h4 => h x e' h' γ'' a' w' h1 (hs.trans h2) h3 h4

theorem steps_sound (hc : CtxOk P c) {g : Bool} {ops : Array Oper} {w0 : World} {S : Nat → Prop} {k : Exit → Env ieee → Heap ieee → R ieee} {r : A × Heap ieee} {Q : Exit → Act → World → Prop} :
    ∀ (l : List Oper) {e : Env ieee} {h : Heap ieee} {γ : Gam} {a : Act} {w : World}, steps c g ops.toList l e h (k .normal) = some r → ERel γ c.nt e a → Inv w0 S γ h w → Post c w0 S γ k r Q →
    wpList P ops Q l a w
  | [], e, h, γ, a, w, hx, he, hi, hp => hp .normal e h γ a w hx (Sub.refl γ) he hi
  | x :: l, e, h, γ, a, w, hx, he, hi, hp => by
    unfold wpList
    have hx' : step c g ops.toList x e h (fun e h => steps c g ops.toList l e h (k .normal)) = some r := hx
    refine step_sound hc hx' he hi ?_
    intro e' h' γ' a' w' h1 h2 h3 h4
    exact steps_sound hc l h1 h3 h4 (hp.mono h2)

/-- in whatever order -/
theorem any_sound (hc : CtxOk P c) {g : Bool} {ops : Array Oper} (hok : orderOk c ops.toList = true) {w0 : World} {S : Nat → Prop} {k : Exit → Env ieee → Heap ieee → R ieee} {r : A × Heap ieee} {Q : Exit → Act → World → Prop} :
    ∀ (n : Nat) (rem : List Nat) (listed : Array Bool) {e : Env ieee} {h : Heap ieee} {γ : Gam} {a : Act} {w : World}, rem.length = n → listed.size = ops.size → rem.Pairwise (· < ·) →
    (∀ i, i < ops.size → (i ∈ rem ↔ listed.getD i true = false)) → (∀ i ∈ rem, i < ops.size) →
    (∀ (i : Nat) (x : Oper), listed.getD i false = true → ops.toList[i]? = some x → ∀ ed ∈ x.after.toList, Region.binds .any ed = true → listed.getD ed.on false = true) →
    stepsI c g ops.toList rem e h (k .normal) = some r → ERel γ c.nt e a → Inv w0 S γ h w → Post c w0 S γ k r Q →
    wpAny P .any ops Q n listed a w := by
  obtain ⟨hedge, hcomm⟩ := orderOk_spec hok
  intro n
  induction n with
  | zero =>
    intro rem listed e h γ a w hl hsz hp hmem hlt hcl hs he hi hpost
    have : rem = [] := List.eq_nil_of_length_eq_zero hl
    subst this
    refine ⟨?_, hpost .normal e h γ a w hs (Sub.refl γ) he hi⟩
    unfold Region.ready
    rw [List.filter_eq_nil_iff]
    intro i hi'
    have hilt : i < ops.size := List.mem_range.1 hi'
    have : ¬ (listed.getD i true = false) := fun hf => by have := (hmem i hilt).2 hf; simp at this
    simp only [Bool.not_eq_false] at this
    simp [this]
  | succ n ih =>
    intro rem listed e h γ a w hl hsz hp hmem hlt hcl hs he hi hpost
    -- a place whose forerunners are all listed
    have readyOf : ∀ i, i < ops.size → (i ∈ Region.ready .any ops listed ↔ (listed.getD i true = false ∧ ∀ x, ops.toList[i]? = some x → ∀ ed ∈ x.after.toList, Region.binds .any ed = true → listed.getD ed.on false = true)) := by
      intro i hilt
      unfold Region.ready
      rw [List.mem_filter]
      have hx : ops[i]? = some ops[i] := Array.getElem?_eq_getElem hilt
      have hx' : ops.toList[i]? = some ops[i] := by simp
      simp only [List.mem_range, hilt, true_and, hx, Option.map_some, Option.getD_some, Bool.and_eq_true, Bool.not_eq_eq_eq_not, Bool.not_true]
      constructor
      · rintro ⟨h1, h2⟩
        refine ⟨h1, ?_⟩
        intro x hxx ed hed hb
        rw [hx'] at hxx; cases hxx
        rw [Array.all_eq_true] at h2
        obtain ⟨m, hm, rfl⟩ := List.mem_iff_getElem.1 hed
        have := h2 m (by simpa using hm)
        simp only [Bool.or_eq_true, Bool.not_eq_eq_eq_not, Bool.not_true] at this
        rcases this with h3 | h3
        · have hb' : Region.binds .any ops[i].after[m] = true := by simpa using hb
          rw [hb'] at h3; cases h3
        · simpa using h3
      · rintro ⟨h1, h2⟩
        refine ⟨h1, ?_⟩
        rw [Array.all_eq_true]
        intro m hm
        simp only [Bool.or_eq_true, Bool.not_eq_eq_eq_not, Bool.not_true]
        cases hb : Region.binds .any ops[i].after[m] with
        | false => exact .inl rfl
        | true => exact .inr (h2 ops[i] hx' ops[i].after[m] (by simp) hb)
    refine ⟨?_, ?_⟩
    · -- something is always ready
      intro hnil
      exfalso
      cases hrem : rem with
      | nil => rw [hrem] at hl; simp at hl
      | cons i0 rest =>
        have h0 : i0 ∈ rem := by rw [hrem]; simp
        have hlt0 := hlt i0 h0
        have : i0 ∈ Region.ready .any ops listed := by
          refine (readyOf i0 hlt0).2 ⟨(hmem i0 hlt0).1 h0, ?_⟩
          intro x hx ed hed hb
          have hon := hedge i0 x hx ed hed hb
          have hnot : ed.on ∉ rem := by
            intro hin
            rw [hrem] at hin hp
            rcases List.mem_cons.1 hin with h1 | h1
            · omega
            · have := List.rel_of_pairwise_cons hp h1
              omega
          have honlt : ed.on < ops.size := by omega
          have : ¬ (listed.getD ed.on true = false) := fun hf => hnot ((hmem ed.on honlt).2 hf)
          have hget : listed.getD ed.on true = true := by simpa using this
          have hsome : ed.on < listed.size := by omega
          simp only [Array.getD_eq_getD_getElem?, Array.getElem?_eq_getElem hsome, Option.getD_some] at hget ⊢
          exact hget
        rw [hnil] at this
        simp at this
    · intro i hir
      have hilt : i < ops.size := by
        unfold Region.ready at hir
        exact List.mem_range.1 (List.mem_filter.1 hir).1
      obtain ⟨hf, hpre⟩ := (readyOf i hilt).1 hir
      have himem : i ∈ rem := (hmem i hilt).2 hf
      have hy : ops.toList[i]? = some ops[i] := by simp
      -- whatever must come ahead of i is listed
      have befListed : ∀ j m, Bef ops.toList j m → (∀ x, ops.toList[m]? = some x → ∀ ed ∈ x.after.toList, Region.binds .any ed = true → listed.getD ed.on false = true) → listed.getD j false = true := by
        intro j m hb
        induction hb with
        | edge hx hed hbd => intro hall; exact hall _ hx _ hed hbd
        | trans hx hed hbd _ ihb =>
          intro hall
          have h1 := hall _ hx _ hed hbd
          exact ihb (fun x hx' ed' hed' hb' => hcl _ x h1 hx' ed' hed' hb')
      obtain ⟨pre, post, hsplit⟩ := List.append_of_mem himem
      have hcom : ∀ j ∈ pre, ∀ x, ops.toList[j]? = some x → commute c ops.toList x ops[i] = true := by
        intro j hj x hx
        have hji : j < i := by
          rw [hsplit] at hp
          exact (List.pairwise_append.1 hp).2.2 j hj i (by simp)
        rcases hcomm j i x ops[i] hji hx hy with hb | hb
        · have h1 := befListed j i hb (fun x' hx' => by rw [hy] at hx'; cases hx'; exact hpre ops[i] hy)
          have hjlt : j < ops.size := by omega
          have h2 : j ∈ rem := by rw [hsplit]; simp [hj]
          have h3 := (hmem j hjlt).1 h2
          have hsome : j < listed.size := by omega
          simp only [Array.getD_eq_getD_getElem?, Array.getElem?_eq_getElem hsome, Option.getD_some] at h1 h3
          rw [h1] at h3; cases h3
        · exact hb
      rw [hsplit] at hs
      have hfront := to_front hy pre post e h hcom hs
      have hwp : wpOp P ops Q i (wpAny P .any ops Q n (listed.setIfInBounds i true)) a w := by
        unfold wpOp
        have hx : ops[i]? = some ops[i] := Array.getElem?_eq_getElem hilt
        rw [hx]
        refine step_sound hc hfront he hi ?_
        intro e' h' γ' a' w' g1 g2 g3 g4
        have hnd : i ∉ pre ∧ i ∉ post := by
          rw [hsplit] at hp
          have hpp := List.pairwise_append.1 hp
          refine ⟨fun hin => ?_, fun hin => ?_⟩
          · have := hpp.2.2 i hin i (by simp)
            omega
          · have := List.rel_of_pairwise_cons hpp.2.1 hin
            omega
        refine ih (pre ++ post) _ ?_ ?_ ?_ ?_ ?_ ?_ g1 g3 g4 (hpost.mono g2)
        · rw [hsplit] at hl
          simp only [List.length_append, List.length_cons] at hl ⊢
          omega
        · simpa using hsz
        · rw [hsplit] at hp
          have hpp := List.pairwise_append.1 hp
          refine List.pairwise_append.2 ⟨hpp.1, (List.pairwise_cons.1 hpp.2.1).2, ?_⟩
          intro x hx y hy'
          exact hpp.2.2 x hx y (by simp [hy'])
        · intro m hm
          have hmm := hmem m hm
          by_cases hmi : m = i
          · subst hmi
            constructor
            · intro hin
              rcases List.mem_append.1 hin with h1 | h1
              · exact (hnd.1 h1).elim
              · exact (hnd.2 h1).elim
            · intro hg
              simp only [Array.getD_eq_getD_getElem?] at hg
              rw [Array.getElem?_setIfInBounds_self_of_lt (by omega)] at hg
              cases hg
          · have e1 : (listed.setIfInBounds i true).getD m true = listed.getD m true := by
              simp only [Array.getD_eq_getD_getElem?]
              rw [Array.getElem?_setIfInBounds_ne (fun e => hmi e.symm)]
            rw [e1, ← hmm, hsplit]
            simp [hmi]
        · intro m hm
          refine hlt m ?_
          rw [hsplit]
          rcases List.mem_append.1 hm with h1 | h1
          · simp [h1]
          · simp [h1]
        · intro m x hm hx' ed hed hb
          have up : ∀ j, listed.getD j false = true → (listed.setIfInBounds i true).getD j false = true := by
            intro j hj
            simp only [Array.getD_eq_getD_getElem?] at hj ⊢
            by_cases hji : j = i
            · subst hji
              rw [Array.getElem?_setIfInBounds_self_of_lt (by omega)]
              rfl
            · rw [Array.getElem?_setIfInBounds_ne (fun e => hji e.symm)]
              exact hj
          by_cases hmi : m = i
          · subst hmi
            exact up _ (hpre x hx' ed hed hb)
          · have e1 : (listed.setIfInBounds i true).getD m false = listed.getD m false := by
              simp only [Array.getD_eq_getD_getElem?]
              rw [Array.getElem?_setIfInBounds_ne (fun e => hmi e.symm)]
            rw [e1] at hm
            exact up _ (hcl m x hm hx' ed hed hb)
      exact hwp

end
end Go.Ab
