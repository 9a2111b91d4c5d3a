/- Own work: a part of the library under the claims of this seat. -/
/-
From the abstract machine's answer of a law to the statement's own frame.
-/
import Derived.Test.YtimbfpcjnbnpmaaAbExt
import Derived.ProofKit
import Derived.OpenShut
import Derived.ShutString
import Derived.ChangeOld
import Derived.Below
import Derived.Carry
namespace Go.Ab
open Go.RowKit Go.ChangeShapes Go.WideShapes Go.ChangeAt

section
variable {P : Program} {c : Cx ieee}

theorem law_calls (hc : CtxOk P c) {f : FuncId} {fn : Func} {body : Code} (hf : FnIs P c f fn body) {args : List A} {h h' : Heap ieee} (hx : afun c fn.results.toList body args h = some (.bool true, h'))
    {γ : Gam} {vargs : Array Value} {w : World} (hr : HRel γ h w) (hro : ∀ b ∈ h, ∀ fl cs, b ≠ .live true fl cs) (ha : L2 (VRel γ) args vargs.toList) :
    Calls P f vargs w fun e w' => e = .returned (.bool true) ∧ Below w.heap.size w w' := by
  refine (afun_sound hc hf.func hf.body hf.nt hx hr ha).mono ?_
  rintro en w' ⟨v, rfl, γ', _, q1, q2⟩
  refine ⟨by rw [show v = .bool true from q1], inv_below q2 ?_⟩
  rintro b ⟨k, r, fl, cs, _, e, _⟩
  exact hro _ (List.mem_of_getElem? e) fl cs rfl

/-- nothing of memory is named -/
theorem hrel_nil (w : World) : HRel [] ([] : Heap ieee) w :=
  ⟨rfl, fun k r wr fl cs e _ => by simp at e, fun k k' r r' fl cs wr' fl' cs' _ e _ _ _ => by simp at e⟩

theorem law_calls0 (hc : CtxOk P c) {f : FuncId} {fn : Func} {body : Code} (hf : FnIs P c f fn body) {args : List A} {h' : Heap ieee} (hx : afun c fn.results.toList body args [] = some (.bool true, h'))
    {vargs : Array Value} {w : World} (ha : L2 (VRel []) args vargs.toList) :
    Calls P f vargs w fun e w' => e = .returned (.bool true) ∧ Below w.heap.size w w' :=
  law_calls hc hf hx (hrel_nil w) (by simp) ha

/-- a word of a kind, with all NaNs one -/
structure Word (k : FloatKind) (x : Nat) : Prop where
  can : can k x = x
  has : k.has x
theorem can_word {k : FloatKind} {b : Nat} (h : k.has b) : Word k (can k b) := by
  refine ⟨can_can k b, ?_⟩
  rcases read_can k b with ⟨e, _⟩ | ⟨_, e⟩
  · rw [e]; exact h
  · rw [e]; cases k
    · show 2143289344 < 2 ^ 32; decide
    · show 9221120237041090560 < 2 ^ 64; decide

theorem cell_float {W : World} {r : Reach} {b : Nat} {t : TypeId} {k : FloatKind} {v : Value} (ht : P.underlying t = some (.float k)) (h : Cell.okWide P W r b t v) : ∃ x, v = .float k x ∧ k.has x := by
  unfold Cell.okWide at h
  rw [ht] at h
  simp only at h
  unfold Cell.ok at h
  rw [ht] at h
  cases v <;> simp at h
  obtain ⟨rfl, h⟩ := h
  exact ⟨_, rfl, h⟩
theorem cell_int {W : World} {r : Reach} {b : Nat} {t : TypeId} {k : IntKind} {v : Value} (ht : P.underlying t = some (.int k)) (h : Cell.okWide P W r b t v) : ∃ n, v = .int k n ∧ k.has n := by
  unfold Cell.okWide at h
  rw [ht] at h
  simp only at h
  unfold Cell.ok at h
  rw [ht] at h
  cases v <;> simp at h
  obtain ⟨rfl, h⟩ := h
  exact ⟨_, rfl, h⟩

theorem okW_f32 {W : World} {r : Reach} {b : Nat} {t : TypeId} {v : Value} (ht : P.underlying t = some (.float .f32)) (h : Value.okWide P W r b t v) : ∃ x, Word .f32 x ∧ ∀ γ, VRel γ (.f32 x : A) v := by
  unfold Value.okWide at h
  rw [ht] at h
  obtain ⟨x, rfl, hx⟩ := cell_float ht h
  exact ⟨_, can_word hx, fun γ => ⟨x, rfl, rfl⟩⟩
theorem okW_f64 {W : World} {r : Reach} {b : Nat} {t : TypeId} {v : Value} (ht : P.underlying t = some (.float .f64)) (h : Value.okWide P W r b t v) : ∃ x, Word .f64 x ∧ ∀ γ, VRel γ (.f64 x : A) v := by
  unfold Value.okWide at h
  rw [ht] at h
  obtain ⟨x, rfl, hx⟩ := cell_float ht h
  exact ⟨_, can_word hx, fun γ => ⟨x, rfl, rfl⟩⟩
theorem okW_int {W : World} {r : Reach} {b : Nat} {t : TypeId} {k : IntKind} {v : Value} (ht : P.underlying t = some (.int k)) (h : Value.okWide P W r b t v) : ∃ n, k.has n ∧ ∀ γ, VRel γ (.int k n : A) v := by
  unfold Value.okWide at h
  rw [ht] at h
  obtain ⟨x, rfl, hx⟩ := cell_int ht h
  exact ⟨_, hx, fun γ => rfl⟩

def isAggT (P : Program) (t : TypeId) : Bool := match P.underlying t with | some (.struct _) | some (.array _ _) => true | _ => false

/-- an aggregate of float32s -/
theorem okW_f32s {W : World} {r : Reach} {b : Nat} {t e : TypeId} {v : Value} (n : Nat) (hagg : isAggT P t = true) (hts : P.cellTypes P.depth t = some (List.replicate n e)) (hn : P.cellsOf t = n) (he : P.underlying e = some (.float .f32))
    (h : Value.okWide P W r b t v) : ∃ xs : List Nat, xs.length = n ∧ (∀ x ∈ xs, Word .f32 x) ∧ ∀ γ, VRel γ (.agg (xs.map fun x => (.f32 x : A))) v := by
  unfold Value.okWide at h
  unfold isAggT at hagg
  have h' : ∃ cs, v = .agg cs ∧ cs.size = P.cellsOf t ∧ Row.okWide P W r b t cs := by
    split at hagg
    · rename_i e; rw [e] at h; exact h
    · rename_i e; rw [e] at h; exact h
    · cases hagg
  obtain ⟨cs, rfl, hsz, ts, h1, h2, h3⟩ := h'
  rw [hts] at h1
  cases h1
  have hall : ∀ (i : Nat) (u : Value), cs.toList[i]? = some u → ∃ x, u = .float .f32 x ∧ FloatKind.f32.has x := by
    intro i u hu
    obtain ⟨t', ht', hok⟩ := h3 i u (by simpa using hu)
    have : t' = e := by
      have := List.mem_of_getElem? ht'
      exact List.eq_of_mem_replicate this
    subst this
    exact cell_float he hok
  have key : ∀ l : List Value, (∀ (i : Nat) (u : Value), l[i]? = some u → ∃ x, u = .float .f32 x ∧ FloatKind.f32.has x) →
      ∃ xs : List Nat, xs.length = l.length ∧ (∀ x ∈ xs, Word .f32 x) ∧ L2 (SRel []) (xs.map fun x => (.f32 x : A)) l := by
    intro l
    induction l with
    | nil => intro _; exact ⟨[], rfl, by simp, L2.nil _⟩
    | cons u l ih =>
      intro hl
      obtain ⟨xs, g1, g2, g3⟩ := ih (fun i v hv => hl (i + 1) v (by simpa using hv))
      obtain ⟨x, rfl, hx⟩ := hl 0 u rfl
      refine ⟨can .f32 x :: xs, by simp [g1], ?_, L2.cons ⟨x, rfl, rfl⟩ g3⟩
      intro y hy
      rcases List.mem_cons.1 hy with rfl | hy
      · exact can_word hx
      · exact g2 y hy
  obtain ⟨xs, g1, g2, g3⟩ := key cs.toList hall
  refine ⟨xs, by rw [g1, ← hn, ← hsz]; simp, g2, fun γ => ⟨cs, rfl, g3⟩⟩

theorem L2.one {α β : Type} {Q : α → β → Prop} {a : α} {b : β} (h : Q a b) : L2 Q [a] [b] := L2.cons h (L2.nil _)

theorem len2 {α : Type} {l : List α} (h : l.length = 2) : ∃ a b, l = [a, b] := by
  match l, h with
  | [a, b], _ => exact ⟨a, b, rfl⟩
theorem len3 {α : Type} {l : List α} (h : l.length = 3) : ∃ a b c, l = [a, b, c] := by
  match l, h with
  | [a, b, c], _ => exact ⟨a, b, c, rfl⟩

/-- what came in reads as it did -/
theorem trodAll_stays {H : Type} {enc : TypeId × Value → H} (hl : laidOutB P = true) {W W' : World} (hb : Below W.heap.size W W') : ∀ {ts : List TypeId} {vs : List Value} {ds : List (DataW H)} {ps : List MemPlace},
    (ts.all fun t => P.readableRec t && decide (t < P.types.size)) = true → DataW.TrodAll enc P W 0 (fun _ => true) true ts vs ds ps →
    DataW.TrodAll enc P W' 0 (fun b => decide (b < W.heap.size)) true ts vs ds ps := by
  intro ts
  induction ts with
  | nil =>
    intro vs ds ps _ h
    obtain ⟨rfl, rfl, rfl⟩ := trodAll_nil h
    exact h
  | cons t ts ih =>
    intro vs ds ps ht h
    obtain ⟨v, vs', d, ds', p, q, rfl, rfl, rfl, h1, h2⟩ := trodAll_cons h
    simp only [List.all_cons, Bool.and_eq_true, decide_eq_true_eq] at ht
    refine trodAll_cons_mk (Below.trod hl ht.1.1 ht.1.2 h1 hb ?_) (ih ht.2 h2)
    obtain ⟨m, hm⟩ := h1
    exact DataW.trod_lt m _ _ _ hm
end
end Go.Ab
