/- Own work: a part of the library under the claims of this seat. -/
/-
Regions: a step, steps in the order of the text, steps in whatever order the edges allow.
-/
import Derived.Test.YtihmppdnglfjnaaAbOrd
namespace Go.Ab
open Go.RowKit

section
variable {P : Program} {c : Cx ieee}

/-! frames -/
theorem ERel.mono {γ γ' : Gam} {nt : Nat} {e : Env ieee} {a : Act} (h : ERel γ nt e a) (hs : Sub γ γ') : ERel γ' nt e a := ⟨h.dfr, h.size, fun t => (h.val t).mono hs⟩
theorem ERel.put {γ : Gam} {nt : Nat} {e : Env ieee} {a : Act} (h : ERel γ nt e a) {d : Nat} (hd : d < nt) {av : A} {v : Value} (hv : VRel γ av v) : ERel γ nt (upd e d av) (a.put (some d) v) := by
  refine ⟨h.dfr, by simp [Act.put, h.size], ?_⟩
  intro t
  simp only [Act.put, upd, Array.getD_eq_getD_getElem?]
  cases hb : Nat.beq t d with
  | true =>
    have e1 := Nat.eq_of_beq_eq_true hb
    subst e1
    rw [Array.getElem?_setIfInBounds_self_of_lt (by rw [h.size]; exact hd)]
    exact hv
  | false =>
    have hne : d ≠ t := fun e => by subst e; rw [Nat.beq_refl] at hb; cases hb
    rw [Array.getElem?_setIfInBounds_ne hne]
    have := h.val t
    simpa [Array.getD_eq_getD_getElem?] using this

def updO (e : Env ieee) (d : Option Tmp) (v : A) : Env ieee := match d with | none => e | some d => upd e d v

theorem fin_out {g : Bool} {d : Option Tmp} {v : A} {e : Env ieee} {h : Heap ieee} {k : Env ieee → Heap ieee → R ieee} {r : A × Heap ieee} (hx : fin c g d v e h k = some r) :
    (∀ t, d = some t → t < c.nt) ∧ k (updO e d v) h = some r ∧ ∀ e2 h2 k', fin c g d v e2 h2 k' = k' (updO e2 d v) h2 := by
  unfold fin at hx ⊢
  cases d with
  | none => exact ⟨fun t ht => (by cases ht), hx, fun _ _ _ => rfl⟩
  | some d =>
    dsimp only at hx ⊢
    obtain ⟨h1, h2⟩ := gd_some hx
    refine ⟨fun t ht => (by cases ht; exact Nat.le_of_ble_eq_true h1), ?_, ?_⟩
    · split at h2
      · rename_i b
        cases b <;> exact h2
      · exact h2
    · intro e2 h2' k'
      rw [h1]
      simp only [gd, cond_true]
      split
      · rename_i b
        cases b <;> rfl
      · rfl

/-- whether an operation's guard lets it run; none: that is not known -/
def runs (all : List Oper) (x : Oper) (e : Env ieee) : Option Bool :=
  match x.guard with
  | none => some true
  | some (j, want) => match (all[j]?).bind (·.dst) with
    | some d => match e d with
      | .bool b => some (b == want)
      | .undef => some false
      | _ => none
    | none => none

theorem step_eq {g : Bool} {all : List Oper} {x : Oper} {e : Env ieee} {h : Heap ieee} {k : Env ieee → Heap ieee → R ieee} :
    step c g all x e h k = match runs all x e with
      | none => none
      | some true => exec c x.op e h fun v h' => fin c g x.dst v e h' k
      | some false => fin c false x.dst .undef e h k := by
  unfold step runs
  cases x.guard with
  | none => rfl
  | some p =>
    obtain ⟨j, want⟩ := p
    dsimp only
    cases (all[j]?).bind (·.dst) with
    | none => rfl
    | some d =>
      dsimp only
      cases hd : e d <;> try rfl
      dsimp only
      cases hb : (_ == want) <;> rfl

theorem mem_looks {all : List Oper} {x : Oper} {e e2 : Env ieee} (hag : ∀ t ∈ looks all x, e t = e2 t) : (∀ t ∈ tmpsOf x.op.operands.toList, e t = e2 t) ∧ runs all x e = runs all x e2 := by
  refine ⟨fun t ht => hag t (by unfold looks; exact List.mem_append_left _ ht), ?_⟩
  unfold runs
  cases hg : x.guard with
  | none => rfl
  | some p =>
    obtain ⟨j, want⟩ := p
    dsimp only
    cases hj : all[j]? with
    | none => rfl
    | some y =>
      cases hd : y.dst with
      | none => simp [hd]
      | some d =>
        simp only [Option.bind_some, hd]
        rw [hag d (by unfold looks; rw [hg]; simp [hj, hd])]

/-- what a step does, told for every continuation -/
structure StepOut (c : Cx ieee) (g : Bool) (all : List Oper) (x : Oper) (e : Env ieee) (h : Heap ieee) (v : A) (h' : Heap ieee) : Prop where
  any : ∀ e2, (∀ t ∈ looks all x, e t = e2 t) → ∀ k', step c g all x e2 h k' = k' (updO e2 x.dst v) h'
  c0 : cls c x.op = 0 → h' = h ∧ ∀ e2, (∀ t ∈ looks all x, e t = e2 t) → ∀ h2 k', step c g all x e2 h2 k' = k' (updO e2 x.dst v) h2
  c1 : cls c x.op = 1 → h' = h ∧ ∀ e2, (∀ t ∈ looks all x, e t = e2 t) → ∀ b k', step c g all x e2 (h ++ [b]) k' = k' (updO e2 x.dst v) (h ++ [b])
  c2 : cls c x.op = 2 → h' = h ∨ ∃ b, h' = h ++ [b]

theorem step_out {g : Bool} {all : List Oper} {x : Oper} {e : Env ieee} {h : Heap ieee} {k : Env ieee → Heap ieee → R ieee} {r : A × Heap ieee} (hx : step c g all x e h k = some r) :
    ∃ v h', k (updO e x.dst v) h' = some r ∧ StepOut c g all x e h v h' := by
  have hx0 := hx
  rw [step_eq] at hx
  cases hr : runs all x e with
  | none => rw [hr] at hx; cases hx
  | some b =>
    rw [hr] at hx
    cases b with
    | false =>
      dsimp only at hx
      obtain ⟨_, h1, h2⟩ := fin_out hx
      have hgen : ∀ e2, (∀ t ∈ looks all x, e t = e2 t) → ∀ h2 k', step c g all x e2 h2 k' = k' (updO e2 x.dst .undef) h2 := by
        intro e2 hag hh k'
        rw [step_eq, ← (mem_looks hag).2, hr]
        exact h2 e2 hh k'
      exact ⟨.undef, h, h1, fun e2 hag k' => hgen e2 hag h k', fun _ => ⟨rfl, hgen⟩, fun _ => ⟨rfl, fun e2 hag b k' => hgen e2 hag _ k'⟩, fun _ => .inl rfl⟩
    | true =>
      dsimp only at hx
      obtain ⟨v, h', h1, h2⟩ := exec_det hx
      obtain ⟨_, h3, h4⟩ := fin_out h1
      have go : ∀ e2, (∀ t ∈ looks all x, e t = e2 t) → ∀ hh k', step c g all x e2 hh k' = exec c x.op e hh fun v h' => fin c g x.dst v e2 h' k' := by
        intro e2 hag hh k'
        rw [step_eq, ← (mem_looks hag).2, hr]
        exact (exec_agree (mem_looks hag).1 hh _).symm
      refine ⟨v, h', h3, ?_, ?_, ?_, ?_⟩
      · intro e2 hag k'
        rw [go e2 hag, h2]
        exact h4 e2 h' k'
      · intro hc
        obtain ⟨u, g1, g2⟩ := exec_c0 hc hx
        -- the same value, the same heap
        have hu : u = v ∧ h' = h := by
          have e1 := h2 (fun a b => some (a, b))
          have e2 := g2 h (fun a b => some (a, b))
          rw [e1] at e2
          cases e2
          exact ⟨rfl, rfl⟩
        obtain ⟨rfl, rfl⟩ := hu
        refine ⟨rfl, fun e2 hag hh k' => ?_⟩
        rw [go e2 hag, g2]
        exact h4 e2 hh k'
      · intro hc
        obtain ⟨u, g1, g2, g3⟩ := exec_c1 hc hx
        have hu : u = v ∧ h' = h := by
          have e1 := h2 (fun a b => some (a, b))
          have e2 := g2 (fun a b => some (a, b))
          rw [e1] at e2
          cases e2
          exact ⟨rfl, rfl⟩
        obtain ⟨rfl, rfl⟩ := hu
        refine ⟨rfl, fun e2 hag b k' => ?_⟩
        rw [go e2 hag, g3]
        exact h4 e2 _ k'
      · intro hc
        obtain ⟨u, b, g1, g2⟩ := exec_c2 hc hx
        have e1 := h2 (fun a b => some (a, b))
        have e2 := g2 (fun a b => some (a, b))
        rw [e1] at e2
        cases e2
        exact .inr ⟨b, rfl⟩

theorem updO_comm {e : Env ieee} {d d' : Option Tmp} {v v' : A} (h : ∀ t, d = some t → d' ≠ some t) : updO (updO e d v) d' v' = updO (updO e d' v') d v := by
  cases d with
  | none => rfl
  | some d =>
    cases d' with
    | none => rfl
    | some d' =>
      have hne : d ≠ d' := fun e => h d rfl (by rw [e])
      funext i
      simp only [updO, upd]
      cases h1 : Nat.beq i d <;> cases h2 : Nat.beq i d' <;> try rfl
      have e1 := Nat.eq_of_beq_eq_true h1
      have e2 := Nat.eq_of_beq_eq_true h2
      exact (hne (e1.symm.trans e2)).elim
theorem updO_agree {e : Env ieee} {d : Option Tmp} {v : A} {l : List Nat} (h : ∀ t, d = some t → t ∉ l) : ∀ t ∈ l, (updO e d v) t = e t := by
  intro t ht
  cases d with
  | none => rfl
  | some d =>
    have hne : d ≠ t := fun e => h d rfl (e ▸ ht)
    simp only [updO, upd]
    cases h1 : Nat.beq t d with
    | true => exact (hne (Nat.eq_of_beq_eq_true h1).symm).elim
    | false => rfl

theorem apart_spec {all : List Oper} {x y : Oper} (h : apartB all x y = true) :
    (∀ d, x.dst = some d → d ∉ looks all y) ∧ (∀ d, x.dst = some d → y.dst ≠ some d) ∧ (∀ d, y.dst = some d → d ∉ looks all x) := by
  unfold apartB at h
  rw [Bool.and_eq_true] at h
  obtain ⟨h1, h2⟩ := h
  have notIn : ∀ {l : List Nat} {d : Nat}, (!l.any (Nat.beq d)) = true → d ∉ l := by
    intro l d hn hm
    rw [any_beq.2 hm] at hn
    cases hn
  refine ⟨fun d hd => ?_, fun d hd hy => ?_, fun d hd => ?_⟩
  · rw [hd] at h1
    simp only [Option.toList_some, List.all_cons, List.all_nil, Bool.and_true, Bool.and_eq_true] at h1
    exact notIn h1.1
  · rw [hd] at h1
    simp only [Option.toList_some, List.all_cons, List.all_nil, Bool.and_true, Bool.and_eq_true] at h1
    exact notIn h1.2 (by rw [hy]; simp)
  · rw [hd] at h2
    simp only [Option.toList_some, List.all_cons, List.all_nil, Bool.and_true] at h2
    exact notIn h2

/-- two operations that commute -/
theorem swap2 {g : Bool} {all : List Oper} {x y : Oper} (hc : commute c all x y = true) {e : Env ieee} {h : Heap ieee} {k : Env ieee → Heap ieee → R ieee} {r : A × Heap ieee}
    (hx : step c g all x e h (fun e h => step c g all y e h k) = some r) : step c g all y e h (fun e h => step c g all x e h k) = some r := by
  unfold commute at hc
  rw [Bool.and_eq_true] at hc
  obtain ⟨hap, hcl⟩ := hc
  obtain ⟨a1, a2, a3⟩ := apart_spec hap
  obtain ⟨vx, hx', e1, ox⟩ := step_out hx
  obtain ⟨vy, hy', e2, oy⟩ := step_out e1
  -- y, ahead of x
  have agy : ∀ t ∈ looks all y, (updO e x.dst vx) t = e t := updO_agree a1
  have agx : ∀ t ∈ looks all x, e t = (updO e y.dst vy) t := fun t ht => (updO_agree a3 t ht).symm
  rw [updO_comm a2] at e2
  simp only [Bool.or_eq_true, Bool.and_eq_true] at hcl
  rcases hcl with (h0 | h0) | ⟨h1, h12⟩
  · -- x looks at no memory
    obtain ⟨rfl, ox0⟩ := ox.c0 (Nat.eq_of_beq_eq_true h0)
    rw [oy.any e agy]
    rw [ox0 _ agx]
    exact e2
  · obtain ⟨rfl, oy0⟩ := oy.c0 (Nat.eq_of_beq_eq_true h0)
    rw [oy0 e agy]
    rw [ox.any _ agx]
    exact e2
  · obtain ⟨rfl, ox1⟩ := ox.c1 (Nat.eq_of_beq_eq_true h1)
    rw [oy.any e agy]
    rcases h12 with h2 | h2
    · obtain ⟨rfl, _⟩ := oy.c1 (Nat.eq_of_beq_eq_true h2)
      rw [ox.any _ agx]
      exact e2
    · rcases oy.c2 (Nat.eq_of_beq_eq_true h2) with rfl | ⟨b, rfl⟩
      · rw [ox.any _ agx]
        exact e2
      · rw [ox1 _ agx]
        exact e2

/-! steps by their places -/
noncomputable def stepsI (c : Cx ieee) (g : Bool) (all : List Oper) : List Nat → Env ieee → Heap ieee → (Env ieee → Heap ieee → R ieee) → R ieee
  | [], e, h, k => k e h
  | i :: is, e, h, k => match all[i]? with
    | some x => step c g all x e h fun e h => stepsI c g all is e h k
    | none => none

theorem steps_eq_range {g : Bool} {all : List Oper} : ∀ (l : List Oper) (k0 : Nat), (∀ j, l[j]? = all[k0 + j]?) → ∀ e h k, steps c g all l e h k = stepsI c g all (List.range' k0 l.length) e h k
  | [], _, _, _, _, _ => rfl
  | x :: l, k0, hl, e, h, k => by
    have h0 : all[k0]? = some x := by simpa using (hl 0).symm
    have hl' : ∀ j, l[j]? = all[k0 + 1 + j]? := fun j => by have := hl (j + 1); simpa [Nat.add_assoc, Nat.add_comm 1 j] using this
    show step c g all x e h (fun e h => steps c g all l e h k) = stepsI c g all (List.range' k0 (l.length + 1)) e h k
    rw [List.range'_succ]
    simp only [stepsI, h0]
    congr 1
    funext e h
    exact steps_eq_range l (k0 + 1) hl' e h k

/-- a place is brought to the front -/
theorem to_front {g : Bool} {all : List Oper} {i : Nat} {y : Oper} (hy : all[i]? = some y) {k : Env ieee → Heap ieee → R ieee} {r : A × Heap ieee} : ∀ (pre post : List Nat) (e : Env ieee) (h : Heap ieee),
    (∀ j ∈ pre, ∀ x, all[j]? = some x → commute c all x y = true) → stepsI c g all (pre ++ i :: post) e h k = some r →
    step c g all y e h (fun e h => stepsI c g all (pre ++ post) e h k) = some r
  | [], post, e, h, _, hs => by simpa [stepsI, hy] using hs
  | j :: pre, post, e, h, hcom, hs => by
    simp only [List.cons_append, stepsI] at hs ⊢
    cases hj : all[j]? with
    | none => rw [hj] at hs; cases hs
    | some x =>
      rw [hj] at hs
      dsimp only at hs ⊢
      obtain ⟨v, h', e1, o⟩ := step_out hs
      have e2 := to_front hy pre post _ h' (fun j' hj' => hcom j' (by simp [hj'])) e1
      have e3 : step c g all x e h (fun e h => step c g all y e h fun e h => stepsI c g all (pre ++ post) e h k) = some r := by
        rw [o.any e (fun _ _ => rfl)]
        exact e2
      exact swap2 (hcom j (by simp) x hj) e3

/-! which operations must come ahead of which -/
inductive Bef (l : List Oper) : Nat → Nat → Prop where
  | edge {i : Nat} {x : Oper} {ed : Edge} (hx : l[i]? = some x) (he : ed ∈ x.after.toList) (hb : Region.binds .any ed = true) : Bef l ed.on i
  | trans {j i : Nat} {x : Oper} {ed : Edge} (hx : l[i]? = some x) (he : ed ∈ x.after.toList) (hb : Region.binds .any ed = true) (h : Bef l j ed.on) : Bef l j i

theorem edge_mask {acc : List Nat} {l : List Oper} {i : Nat} {x : Oper} (hx : l[i]? = some x) (hacc : ∀ (m mm : Nat), acc[m]? = some mm → ∀ j, mm.testBit j = true → Bef l j m) :
    ∀ (es : List Edge), (∀ ed ∈ es, ed ∈ x.after.toList) → ∀ (m0 : Nat), (∀ j, m0.testBit j = true → Bef l j i) → ∀ j,
      (es.foldl (fun m e => cond (Region.binds .any e) (m ||| 2 ^ e.on ||| (acc[e.on]?).getD 0) m) m0).testBit j = true → Bef l j i
  | [], _, m0, h0, j, hj => h0 j hj
  | ed :: es, hes, m0, h0, j, hj => by
    refine edge_mask hx hacc es (fun e he => hes e (by simp [he])) _ ?_ j hj
    intro j hj
    dsimp only at hj
    cases hb : Region.binds .any ed with
    | false => rw [hb] at hj; exact h0 j hj
    | true =>
      rw [hb] at hj
      simp only [cond_true, Nat.testBit_or, Bool.or_eq_true] at hj
      rcases hj with (h1 | h1) | h1
      · exact h0 j h1
      · rw [Nat.testBit_two_pow] at h1
        have : ed.on = j := of_decide_eq_true h1
        subst this
        exact .edge hx (hes ed (by simp)) hb
      · cases ha : acc[ed.on]? with
        | none => rw [ha] at h1; simp at h1
        | some mm =>
          rw [ha] at h1
          exact .trans hx (hes ed (by simp)) hb (hacc _ _ ha j h1)

theorem masks_go {l : List Oper} : ∀ (rest : List Oper) (acc : List Nat), (∀ j, rest[j]? = l[acc.length + j]?) → (∀ (m mm : Nat), acc[m]? = some mm → ∀ j, mm.testBit j = true → Bef l j m) →
    ∀ (m mm : Nat), (rest.foldl (fun acc x => acc ++ [x.after.toList.foldl (fun m e => cond (Region.binds .any e) (m ||| 2 ^ e.on ||| (acc[e.on]?).getD 0) m) 0]) acc)[m]? = some mm →
      ∀ j, mm.testBit j = true → Bef l j m
  | [], acc, _, hacc, m, mm, hm, j, hj => hacc m mm hm j hj
  | x :: rest, acc, hr, hacc, m, mm, hm, j, hj => by
    have hx : l[acc.length]? = some x := by simpa using (hr 0).symm
    refine masks_go rest _ ?_ ?_ m mm hm j hj
    · intro j'
      have := hr (j' + 1)
      simp only [List.getElem?_cons_succ] at this
      rw [this]
      simp [Nat.add_assoc, Nat.add_comm 1 j']
    · intro m' mm' hm' j' hj'
      by_cases hlt : m' < acc.length
      · rw [List.getElem?_append_left hlt] at hm'
        exact hacc m' mm' hm' j' hj'
      · rw [List.getElem?_append_right (by omega)] at hm'
        have h0 : m' - acc.length = 0 := by
          have := (List.getElem?_eq_some_iff.1 hm').1
          simp at this; omega
        rw [h0] at hm'
        simp at hm'
        have he : m' = acc.length := by omega
        subst hm'
        subst he
        exact edge_mask hx hacc x.after.toList (fun _ h => h) 0 (fun j h => by simp at h) j' (by rw [Array.foldl_toList]; exact hj')

theorem masks_bef {l : List Oper} {m mm : Nat} (h : (masks l)[m]? = some mm) {j : Nat} (hj : mm.testBit j = true) : Bef l j m :=
  masks_go l [] (fun j => by simp) (fun m mm h => by simp at h) m mm h j hj

theorem masks_length (l : List Oper) : (masks l).length = l.length := by
  unfold masks
  have : ∀ (rest : List Oper) (acc : List Nat), (rest.foldl (fun acc x => acc ++ [x.after.toList.foldl (fun m e => cond (Region.binds .any e) (m ||| 2 ^ e.on ||| (acc[e.on]?).getD 0) m) 0]) acc).length = acc.length + rest.length := by
    intro rest
    induction rest with
    | nil => intro acc; rfl
    | cons x rest ih => intro acc; rw [List.foldl_cons, ih]; simp; omega
  rw [this]; simp

theorem orderOk_spec {l : List Oper} (h : orderOk c l = true) :
    (∀ (i : Nat) (x : Oper), l[i]? = some x → ∀ ed ∈ x.after.toList, Region.binds .any ed = true → ed.on < i) ∧
    (∀ (j i : Nat) (x y : Oper), j < i → l[j]? = some x → l[i]? = some y → Bef l j i ∨ commute c l x y = true) := by
  unfold orderOk at h
  rw [Bool.and_eq_true] at h
  obtain ⟨h1, h2⟩ := h
  refine ⟨?_, ?_⟩
  · intro i x hx ed hed hb
    unfold edgesOk at h1
    have hm : (x, i) ∈ l.zipIdx := by
      rw [List.mem_iff_getElem?]
      exact ⟨i, by rw [List.getElem?_zipIdx, hx]; simp⟩
    have := List.all_eq_true.1 (List.all_eq_true.1 h1 _ hm) ed hed
    simp only [hb, Bool.not_true, Bool.false_or] at this
    exact Nat.le_of_ble_eq_true this
  · intro j i x y hji hx hy
    have hi : i < l.length := (List.getElem?_eq_some_iff.1 hy).1
    have hmi : i < (masks l).length := by rw [masks_length]; exact hi
    have hm : ((y, (masks l)[i]), i) ∈ (l.zip (masks l)).zipIdx := by
      rw [List.mem_iff_getElem?]
      refine ⟨i, ?_⟩
      have hz : (l.zip (masks l))[i]? = some (y, (masks l)[i]) := List.getElem?_zip_eq_some.2 ⟨hy, List.getElem?_eq_getElem hmi⟩
      rw [List.getElem?_zipIdx, hz]
      simp
    have h3 := List.all_eq_true.1 h2 _ hm
    have hq : (x, j) ∈ (l.take i).zipIdx := by
      rw [List.mem_iff_getElem?]
      refine ⟨j, ?_⟩
      rw [List.getElem?_zipIdx, List.getElem?_take, if_pos hji, hx]
      simp
    have h4 := List.all_eq_true.1 h3 _ hq
    rw [Bool.or_eq_true] at h4
    rcases h4 with h4 | h4
    · exact .inl (masks_bef (List.getElem?_eq_getElem hmi) h4)
    · exact .inr h4

end
end Go.Ab
