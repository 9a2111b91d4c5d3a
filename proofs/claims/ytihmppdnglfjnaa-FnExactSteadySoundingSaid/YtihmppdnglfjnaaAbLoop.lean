/- Own work: a part of the library under the claims of this seat. -/
/-
Loops by a state of their own; tables of callees.
-/
import Derived.Test.YtihmppdnglfjnaaAbTop
namespace Go.Ab
open Go.RowKit

section
variable {o : FO}
def onSome {α : Type} (x : Option α) (k : α → R o) : R o := match x with | some a => k a | none => none
/-- a loop whose state is told by 'dec' and laid by 'enc' -/
noncomputable def loopD {α : Type} (keep : List Nat) (dec : List (AV o) → Heap o → Option α) (enc : α → List (AV o) × Heap o) : LoopD o :=
  { keep := keep
    it := fun N F vs h => onSome (dec vs h) fun a => iter (fun self a => F (fun vs h => onSome (dec vs h) self) (enc a).1 (enc a).2) N a }
def tab {α : Type} (l : List (Nat × α)) (f : Nat) : Option α := l.foldr (fun p r => cond (Nat.beq f p.1) (some p.2) r) none
end

theorem onSome_some {α : Type} {x : Option α} {k : α → R ieee} {r : A × Heap ieee} (h : onSome x k = some r) : ∃ a, x = some a ∧ k a = some r := by
  unfold onSome at h
  split at h
  · exact ⟨_, rfl, h⟩
  · cases h

theorem loopD_ok {α : Type} (keep : List Nat) (dec : List A → Heap ieee → Option α) (enc : α → List A × Heap ieee) (hde : ∀ vs h a, dec vs h = some a → enc a = (vs, h)) : ItOk (loopD keep dec enc) := by
  refine ⟨?_, ?_⟩
  · intro N F hF v h r hx
    obtain ⟨a, h1, h2⟩ := onSome_some (k := fun a => iter (fun self a => F (fun vs h => onSome (dec vs h) self) (enc a).1 (enc a).2) N a) hx
    have he := hde v h a h1
    have key : ∀ (N : Nat) (a : α) (r : A × Heap ieee), iter (fun self a => F (fun vs h => onSome (dec vs h) self) (enc a).1 (enc a).2) N a = some r → iter2 F N (enc a).1 (enc a).2 = some r := by
      intro N
      induction N with
      | zero => intro a r h; cases h
      | succ N ih =>
        intro a r h
        have h' : F (fun vs h => onSome (dec vs h) (iter (fun self a => F (fun vs h => onSome (dec vs h) self) (enc a).1 (enc a).2) N)) (enc a).1 (enc a).2 = some r := h
        refine hF _ _ ?_ _ _ _ h'
        intro vs hh r hr
        obtain ⟨a', h3, h4⟩ := onSome_some hr
        have := ih a' r h4
        rw [hde vs hh a' h3] at this
        exact this
    have := key N a r h2
    rw [he] at this
    exact ⟨N, this⟩
  · intro N F F' hF hF' hle v h r hx
    obtain ⟨a, h1, h2⟩ := onSome_some (k := fun a => iter (fun self a => F (fun vs h => onSome (dec vs h) self) (enc a).1 (enc a).2) N a) hx
    show onSome (dec v h) (fun a => iter (fun self a => F' (fun vs h => onSome (dec vs h) self) (enc a).1 (enc a).2) N a) = some r
    rw [h1]
    show iter (fun self a => F' (fun vs h => onSome (dec vs h) self) (enc a).1 (enc a).2) N a = some r
    clear h1 hx
    induction N generalizing a r with
    | zero => cases h2
    | succ N ih =>
      have h' : F (fun vs h => onSome (dec vs h) (iter (fun self a => F (fun vs h => onSome (dec vs h) self) (enc a).1 (enc a).2) N)) (enc a).1 (enc a).2 = some r := h2
      have h3 := hle _ _ _ _ h'
      refine hF' _ _ ?_ _ _ _ h3
      intro vs hh r hr
      obtain ⟨a', h4, h5⟩ := onSome_some hr
      show onSome (dec vs hh) _ = some r
      rw [h4]
      exact ih r a' h5

/-- a loop that is unrolled -/
noncomputable def loopU {o : FO} (keep : List Nat) : LoopD o := loopD keep (fun vs h => some (vs, h)) (fun p => p)
theorem loopU_ok (keep : List Nat) : ItOk (loopU keep) := loopD_ok _ _ _ fun vs h a e => by cases e; rfl
theorem tab_some {α : Type} {l : List (Nat × α)} {f : Nat} {x : α} (h : tab l f = some x) : (f, x) ∈ l := by
  induction l with
  | nil => cases h
  | cons p l ih =>
    have h' : cond (Nat.beq f p.1) (some p.2) (tab l f) = some x := h
    cases hb : Nat.beq f p.1 with
    | true =>
      rw [hb] at h'
      have := Nat.eq_of_beq_eq_true hb
      cases h'
      subst this
      simp
    | false =>
      rw [hb] at h'
      exact List.mem_cons_of_mem _ (ih h')

/-- the context of one function -/
theorem ctxOk {P : Program} {ty : List (Nat × TI ieee)} {fn : List (Nat × Callee ieee)} {N nt base : Nat} {loops : List (LoopD ieee)} (hty : ∀ p ∈ ty, TyOk P p.1 p.2) (hfn : ∀ p ∈ fn, CalOk P p.1 p.2)
    (hm : P.follows .mixedOrders = true) (hl : ∀ d ∈ loops, ItOk d) : CtxOk P { ty := tab ty, fn := tab fn, rounds := N, nt := nt, base := base, loops := loops } :=
  ⟨fun t i h => hty (t, i) (tab_some h), fun f c h => hfn (f, c) (tab_some h), hm, fun _ d h => hl d (List.mem_of_getElem? h)⟩

end Go.Ab
